/- create, Create, Clone and Snapshot. Written by gen_VolU.py. -/
import Derived.Test.YtdaagmhkhfcmdaaDoorGH
namespace Go.Proofs.YtdaagmhkhfcmdaaDoor
open Go Go.RowKit
set_option maxHeartbeats 400000

theorem infoB_Vol : (Tryd.prog.info? 68).map (fun i => (i.zero, i.size, i.bytes)) = some (some (.agg #[.int .i64 0, .int .i64 0, .pointer none, .int .i64 0]), 4, 32) := by kernel_rfl
theorem infoB_Snp : (Tryd.prog.info? 64).map (fun i => (i.zero, i.size, i.bytes)) = some (some (.agg #[.int .i64 0, .int .i64 0, .pointer none, .int .i64 0, .int .i64 0]), 5, 40) := by kernel_rfl
/-- A list of one block, frozen. -/
def LitV (cs : Array Value) (e : Nat) (T : Rg) (v : Value) : Prop := ∃ gn, v = .slice (some ⟨gn, 0, none⟩) 1 1 ∧ T.K gn = some (.cells cs e (0, 0))
def ListV (L : List Vol) (T : Rg) (v : Value) : Prop := SlK T.K 4 encV v L ∧ FlatS v
def ListS (L : List Snp) (T : Rg) (v : Value) : Prop := SlK T.K 5 encS v L ∧ FlatS v
theorem insAt_mem' {α : Type} {l : List α} {i : Nat} {x y : α} (h : y ∈ insAt l i x) : y = x ∨ y ∈ l := insAt_mem.1 h
/-- What an Insert into the row leaves, frozen. -/
theorem ins_fix {α : Type} {enc : α → List Value} {K0 K : Fz} {w W W' : World} {e sz n i : Nat} {v v' : Value} {xs : List α} {y : α} (hl : ∀ x, (enc x).length = sz) (s : St K0 w K W) (r : Row w K W e sz v n (xs.flatMap enc)) (hn : n = xs.length)
    (ho : W'.ownsRow w.heap.size e sz v' (n + 1) ((xs.flatMap enc).take (i * sz) ++ enc y ++ (xs.flatMap enc).drop (i * sz))) (hg : Grown W W' v v') :
    ∃ K', St K0 w K' W' ∧ Ext K K' ∧ SlK K' sz enc v' (insAt xs i y) ∧ FlatS v' ∧ ∀ b, K' b = K b ∨ v'.ownBlock = some b := by
  have s' := s.grown r hg
  have r' : Row w K W' e sz v' (n + 1) ((xs.flatMap enc).take (i * sz) ++ enc y ++ (xs.flatMap enc).drop (i * sz)) := ⟨ho, fun b hb => by
    rcases hg.at_ with h | h
    · exact r.none_ b (h ▸ hb)
    · rw [h] at hb; cases hb; exact s.inn.out (Nat.le_refl _)⟩
  obtain ⟨K', h1, h2, h3, h4⟩ := Row.fix s' r' hl (by rw [insAt_len, hn]) (flat_ins hl xs i y)
  exact ⟨K', h1, h2, h3, r'.flatS, h4⟩

set_option maxRecDepth 100000 in
set_option maxHeartbeats 2000000 in
theorem create_ok' (K : Fz) (v : Value) (A : Asp) (ten : Int) (t : PT) (n : Int) (L : Ents) (w : World) (hK : K.In w) (hS : SpA K v A) (hG : Good A) (hT : Tr 122 K t) (hR : Rep t n L) :
    Calls Tryd.prog 33 #[v, .int .i64 ten, .agg #[.pointer t.ptr, .int .i64 n]] w (Ret K w (Three (A.create ten L))) := by
  obtain ⟨S, hSp, e1, e2, hR1, hR2⟩ := hS
  obtain rfl := Asp.eq_mk e1 e2
  clear e1 e2
  have HSp := Lib.hid hSp
  have HR1 := Lib.hid hR1
  have HR2 := Lib.hid hR2
  obtain ⟨g, T, sv, ss, rfl, hb, h1, h2, h3, h4, f1, f2⟩ := hSp
  have hlen : S.vs.length ≤ 100000 := by have := hG.v.len; simp only [List.length_map] at this; omega
  have HS := Lib.hid h1
  have HF := Lib.hid f1
  have HT := Lib.hid h3
  obtain ⟨a1, c1, rfl, _, _⟩ := h1
  have s := St.start hK
  obtain ⟨q, hq⟩ : ∃ q, decide (0 ≤ ten ∧ ten < 16) = q := ⟨_, rfl⟩
  have Hq := Lib.hid hq
  cases q with
  | false =>
    have hres : Hid (Asp.create ⟨S.vs.map Vol.abs, S.ss.map Snp.abs⟩ ten L = (⟨S.vs.map Vol.abs, S.ss.map Snp.abs⟩, 0, 1)) := Lib.hid (by
      unfold Asp.create
      rw [if_neg (of_decide_eq_false hq)])
    clear hq h2 h3 h4 f1 f2 hR1 hR2
    go_enter Tryd.func33, Tryd.ntmps33
    go_wp2_with (first
      | ((with_reducible refine gate_box (T := 60) (x := .tmp 2) ?_); refine wpList_boxG rfl rfl rfl (cs := #[.pointer t.ptr, .int .i64 n]) rfl ?_; intro g1 W1 e hn; have o1 := Own.made s e hn; replace s := s.new hn; clear e hn)
      | (go_at_call 37; refine (tenantOK_ok ten _).mono ?_; rw [Hq.out]; rintro e W ⟨rfl, rfl⟩)
      | fail)
    go_ret3
    rw [hres.out]
    exact s.ret ⟨.pointer none, rfl, ⟨fun h => (by cases h), fun _ => rfl⟩⟩
  | true =>
    have hin := of_decide_eq_true hq
    by_cases hlim : S.vs.length < 64
    · obtain ⟨k, hk⟩ : ∃ k, frN Vol.id S.vs 0 = k := ⟨_, rfl⟩
      have hkl : k ≤ S.vs.length := by rw [← hk]; exact frN_le _ _ _
      have Hk := Lib.hid hk
      have hfr : frN AP.id (S.vs.map Vol.abs) 0 = k := by rw [frN_map]; exact hk
      have hres : Hid (Asp.create ⟨S.vs.map Vol.abs, S.ss.map Snp.abs⟩ ten L = ((⟨(insAt S.vs k (⟨(k : Nat), ten, t, n, L⟩ : Vol)).map Vol.abs, S.ss.map Snp.abs⟩ : Asp), ((k : Nat) : Int), (0 : Int))) := Lib.hid (by
        unfold Asp.create
        rw [if_pos hin, if_pos (by simpa using hlim), hfr, insAt_map]
        rfl)
      have HTn : Hid (∀ u ∈ insAt S.vs k (⟨(k : Nat), ten, t, n, L⟩ : Vol), Tr 122 K u.t) := Lib.hid fun u hu => by
        rcases insAt_mem' hu with rfl | hu
        · exact hT
        · exact HT.out u hu
      have HRn : Hid (∀ u ∈ insAt S.vs k (⟨(k : Nat), ten, t, n, L⟩ : Vol), Rep u.t u.n u.L) := Lib.hid fun u hu => by
        rcases insAt_mem' hu with rfl | hu
        · exact hR
        · exact HR1.out u hu
      clear hq h2 h3 h4 f1 f2 hR1 hR2 hfr hk
      go_enter Tryd.func33, Tryd.ntmps33
      go_wp2_with (first
        | ((with_reducible refine gate_box (T := 60) (x := .tmp 2) ?_); refine wpList_boxG rfl rfl rfl (cs := #[.pointer t.ptr, .int .i64 n]) rfl ?_; intro g1 W1 e hn; have o1 := Own.made s e hn; replace s := s.new hn; clear e hn)
        | (go_at_call 37; refine (tenantOK_ok ten _).mono ?_; rw [Hq.out]; rintro e W ⟨rfl, rfl⟩)
        | ((with_reducible refine gate_load (T := 47) ?_); refine wpList_loadCell rfl rfl rfl Tryd.underlying47 rfl (s.inn.get hb) rfl ?_)
        | (go_at_call 58; refine (vFree_ok K _ S.vs _ s.inn HS.out (by omega)).mono ?_; rw [Hk.out]; rintro e W4 ⟨rfl, hb4⟩; replace s := s.quiet hb4; replace o1 := o1.quiet hb4; clear hb4)
        | fail)
      refine wp_region_runL (m := 17) (n := 42) (I := fun L2 T2 W2 => RowI K w g1 (.cells #[.pointer t.ptr, .int .i64 n] 60 (0, 0)) 68 4 S.vs.length (S.vs.flatMap encV) 5 13 L2 T2 W2) (K0 := ⟨K, none⟩)
        (ws := [.is (.pointer (some ⟨g, 0, none⟩)), .is (.pointer (some ⟨g, 0, none⟩)), .is (.pointer (some ⟨g, 0, none⟩)), .is (.pointer (some ⟨g, 0, none⟩)), .is (.slice a1 S.vs.length c1), .sat (fun T v => T.row = some v), .is (.int .i64 (k : Nat)), .is (.int .i64 (k : Nat)), .is (.int .i64 ten), .is (.agg #[.pointer t.ptr, .int .i64 n]), .is (.agg #[.int .i64 (k : Nat), .int .i64 ten, .pointer t.ptr, .int .i64 n]), .is (.agg #[.int .i64 (k : Nat), .int .i64 ten, .pointer t.ptr, .int .i64 n]), .sat (fun T v => LitV #[.int .i64 (k : Nat), .int .i64 ten, .pointer t.ptr, .int .i64 n] 68 T v), .sat (fun T v => ListV (insAt S.vs k ⟨(k : Nat), ten, t, n, L⟩) T v), .sat (fun T v => SpK T.K v ⟨insAt S.vs k ⟨(k : Nat), ten, t, n, L⟩, S.ss⟩), .is (.int .i64 (k : Nat)), .sat (fun T v => SpK T.K v ⟨insAt S.vs k ⟨(k : Nat), ten, t, n, L⟩, S.ss⟩)])
        mixed_ok (by kernel_rfl) rfl rfl ?monou ⟨s.drew, o1.drew, fun _ => rfl, fun _ v hv => by cases hv⟩ ?_
      case monou =>
        simp only [List.forall_mem_cons]
        exact ⟨trivial, trivial, trivial, trivial, trivial, fun _ _ _ hE h => hE.2 _ h, trivial, trivial, trivial, trivial, trivial, trivial, fun _ _ _ hE h => by obtain ⟨gn, h1, h2⟩ := h; exact ⟨gn, h1, hE.1 _ _ h2⟩, fun _ _ _ hE h => ⟨h.1.keep hE.1, h.2⟩, fun _ _ _ hE h => h.ext hE.1, trivial, fun _ _ _ hE h => h.ext hE.1, fun _ h => by cases h⟩
      apply RunAllL.is_
      · intro L3 K3 W3 hL3 hE3 hI3 hF3
        go_wp2
        exact step_end ⟨⟨K3, Gh.refl _, hI3.same (by decide) (by decide)⟩, rfl⟩
      · rfl
      apply RunAllL.is_
      · intro L3 K3 W3 hL3 hE3 hI3 hF3
        go_wp2
        exact step_end ⟨⟨K3, Gh.refl _, hI3.same (by decide) (by decide)⟩, rfl⟩
      · rfl
      apply RunAllL.is_
      · intro L3 K3 W3 hL3 hE3 hI3 hF3
        go_wp2
        exact step_end ⟨⟨K3, Gh.refl _, hI3.same (by decide) (by decide)⟩, rfl⟩
      · rfl
      apply RunAllL.is_
      · intro L3 K3 W3 hL3 hE3 hI3 hF3
        go_wp2
        exact step_end ⟨⟨K3, Gh.refl _, hI3.same (by decide) (by decide)⟩, rfl⟩
      · rfl
      apply RunAllL.is_
      · intro L3 K3 W3 hL3 hE3 hI3 hF3
        go_wp2_with (first | ((with_reducible refine gate_load (T := 47) ?_); refine wpList_loadCell rfl rfl rfl Tryd.underlying47 rfl (hI3.st.inn.get (hE3.1 _ _ hb)) rfl ?_) | fail)
        exact step_end ⟨⟨K3, Gh.refl _, hI3.same (by decide) (by decide)⟩, rfl⟩
      · rfl
      apply RunAllL.sat_
      · intro L3 K3 W3 hL3 hE3 hI3 hF3
        go_wp2_with (first | (go_at_call 60; refine (vClone_ok K3.K _ S.vs _ hI3.st.inn (HS.out.keep hE3.1) HF.out (by omega)).mono ?_; rintro e W4 ⟨v5, rfl, hrow, hb5⟩) | fail)
        obtain ⟨hI5, hG5⟩ := hI3.made hL3 hb5 hrow
        exact step_end ⟨v5, ⟨K3.K, some v5⟩, hG5, hI5, rfl, rfl⟩
      · intro v; rfl
      intro v5
      apply RunAllL.is_
      · intro L3 K3 W3 hL3 hE3 hI3 hF3
        go_wp2
        exact step_end ⟨⟨K3, Gh.refl _, hI3.same (by decide) (by decide)⟩, rfl⟩
      · rfl
      apply RunAllL.is_
      · intro L3 K3 W3 hL3 hE3 hI3 hF3
        go_wp2
        exact step_end ⟨⟨K3, Gh.refl _, hI3.same (by decide) (by decide)⟩, rfl⟩
      · rfl
      apply RunAllL.is_
      · intro L3 K3 W3 hL3 hE3 hI3 hF3
        go_wp2
        exact step_end ⟨⟨K3, Gh.refl _, hI3.same (by decide) (by decide)⟩, rfl⟩
      · rfl
      apply RunAllL.is_
      · intro L3 K3 W3 hL3 hE3 hI3 hF3
        go_wp2_with (first | ((with_reducible refine gate_load (T := 60) ?_); refine wpList_load_row rfl 60 _ rfl _ rfl 60 _ _ _ hI3.own.at_ Tryd.underlying60 rfl (by rw [size_Tree]; rfl) ?_) | fail)
        exact step_end ⟨⟨K3, Gh.refl _, hI3.same (by decide) (by decide)⟩, rfl⟩
      · rfl
      apply RunAllL.is_
      · intro L3 K3 W3 hL3 hE3 hI3 hF3
        go_wp2
        exact step_end ⟨⟨K3, Gh.refl _, hI3.same (by decide) (by decide)⟩, rfl⟩
      · rfl
      apply RunAllL.is_
      · intro L3 K3 W3 hL3 hE3 hI3 hF3
        go_wp2
        exact step_end ⟨⟨K3, Gh.refl _, hI3.same (by decide) (by decide)⟩, rfl⟩
      · rfl
      apply RunAllL.sat_
      · intro L3 K3 W3 hL3 hE3 hI3 hF3
        go_wp2_with (first | ((with_reducible refine gate_buildSlice (T := 47) ?_); refine wpList_buildSlice1 rfl rfl rfl (cs := #[.int .i64 (k : Nat), .int .i64 ten, .pointer t.ptr, .int .i64 n]) Tryd.underlying47 infoB_Vol (by decide) (by decide) (by kernel_rfl) ?_; intro gn W5 eg hn; obtain ⟨T5, hG5, hI5, hk5⟩ := hI3.box (k := 12) (by decide) (by decide) eg hn; clear eg hn) | fail)
        generalize hgv : Value.slice (some ⟨gn, 0, none⟩) 1 1 = v10
        exact step_end ⟨v10, T5, hG5, hI5, rfl, gn, hgv.symm, hk5⟩
      · intro v; rfl
      intro v12
      apply RunAllL.sat_
      · intro L3 K3 W3 hL3 hE3 hI3 hF3
        obtain ⟨gn, hv8, hk8⟩ := hF3.2 rfl
        obtain ⟨r5, hne1⟩ := hI3.row hL3 _ (hF3.1.2 rfl)
        have hvb := hI3.st.inn.get hk8
        have hne5 : v5.ownBlock ≠ some gn := fun h => by have h2 := r5.none_ gn h; rw [hk8] at h2; cases h2
        have hone5 := flat_one encV_one S.vs
        have hcall := Lib.hid (vInsert_ok w.heap.size v5 S.vs.length k 1 gn 1 _ (encV ⟨(k : Nat), ten, t, n, L⟩) W3 r5.own hkl (by omega) (by omega) hI3.st.size hone5 rfl (encV_one _) hvb hne5)
        rw [← hv8] at hcall
        clear hF3 hv8
        go_wp2_with (first | (go_at_call 59; refine hcall.out.mono ?_; rintro e W5 ⟨v6, rfl, hrow6, hgr6⟩) | fail)
        obtain ⟨K6, s6, hE6, hS6, hF6, hsame⟩ := ins_fix encV_len hI3.st r5 rfl hrow6 hgr6
        exact step_end ⟨v6, ⟨K6, K3.row⟩, ⟨hE6, fun _ h => h⟩, ⟨s6, (hI3.own.grown hgr6 hne1).fixed hsame (hI3.own.apart hgr6 hne1), fun hl => hI3.none_ (by rwa [come_other (by decide)] at hl), fun hl => by simp [come] at hl⟩, rfl, hS6, hF6⟩
      · intro v; rfl
      intro v13
      apply RunAllL.sat_
      · intro L3 K3 W3 hL3 hE3 hI3 hF3
        have HL := Lib.hid (hF3.2 rfl)
        clear hF3
        go_wp2_with (first | (go_at_call 34; refine (volumesAre_ok K3.K _ S _ (insAt S.vs k ⟨(k : Nat), ten, t, n, L⟩) _ hI3.st.inn (HSp.out.ext hE3.1) HL.out.1 (fun x hx => (HTn.out x hx).ext hE3.1) HL.out.2).mono ?_; rintro e W5 ⟨v6, K6, rfl, hi, hl, hb6, hu6⟩) | fail)
        exact step_end ⟨v6, ⟨K6, K3.row⟩, Rg.le_call hI3.st.inn hl, hI3.call (by decide) (by decide) hi hl hb6, rfl, hu6⟩
      · intro v; rfl
      intro v14
      apply RunAllL.is_
      · intro L3 K3 W3 hL3 hE3 hI3 hF3
        go_wp2
        exact step_end ⟨⟨K3, Gh.refl _, hI3.same (by decide) (by decide)⟩, rfl⟩
      · rfl
      refine RunAllL.sat_ ?h1u (fun v => rfl) ?h3u
      case h1u =>
        intro L3 K3 W3 hL3 hE3 hI3 hF3
        have hsp := hF3.2 rfl
        clear hF3
        go_wp2
        exact step_end ⟨_, K3, Gh.refl _, hI3.same (by decide) (by decide), rfl, hsp⟩
      intro v16
      simp only [Act.put, Array.setIfInBounds, List.size_toArray, List.length_cons, List.length_nil]
      intro L5 K5 W5 hL5 hE5 hI5 hF5
      have hu5 := hF5.2
      have s5 := hI5.st
      change wpList _ _ _ (List.cons _ _) _ _
      go_wp2
      go_ret3
      rw [hres.out]
      exact s5.ret ⟨_, rfl, fun _ => ⟨_, hu5, rfl, rfl, HRn.out, HR2.out⟩, fun h => (h rfl).elim⟩
    · have hres : Hid (Asp.create ⟨S.vs.map Vol.abs, S.ss.map Snp.abs⟩ ten L = (⟨S.vs.map Vol.abs, S.ss.map Snp.abs⟩, 0, 2)) := Lib.hid (by
        unfold Asp.create
        rw [if_pos hin, if_neg (by simpa using hlim)])
      clear hq h2 h3 h4 f1 f2 hR1 hR2
      go_enter Tryd.func33, Tryd.ntmps33
      go_wp2_with (first
        | ((with_reducible refine gate_box (T := 60) (x := .tmp 2) ?_); refine wpList_boxG rfl rfl rfl (cs := #[.pointer t.ptr, .int .i64 n]) rfl ?_; intro g1 W1 e hn; have o1 := Own.made s e hn; replace s := s.new hn; clear e hn)
        | (go_at_call 37; refine (tenantOK_ok ten _).mono ?_; rw [Hq.out]; rintro e W ⟨rfl, rfl⟩)
        | ((with_reducible refine gate_load (T := 47) ?_); refine wpList_loadCell rfl rfl rfl Tryd.underlying47 rfl (s.inn.get hb) rfl ?_)
        | fail)
      go_ret3
      rw [hres.out]
      exact s.ret ⟨.pointer none, rfl, ⟨fun h => (by cases h), fun _ => rfl⟩⟩

theorem size_Part : (Tryd.prog.info? 62).map (·.size) = some 4 := by kernel_rfl
set_option maxRecDepth 100000 in
set_option maxHeartbeats 2000000 in
theorem Snapshot_ok (K : Fz) (v : Value) (A : Asp) (x : Int) (w : World) (hK : K.In w) (hS : SpA K v A) (hG : Good A) :
    Calls Tryd.prog 21 #[v, .int .i64 x] w (Ret K w (Three (A.snapshot x))) := by
  obtain ⟨S, hSp, e1, e2, hR1, hR2⟩ := hS
  obtain rfl := Asp.eq_mk e1 e2
  clear e1 e2
  have HSp := Lib.hid hSp
  have HR1 := Lib.hid hR1
  have HR2 := Lib.hid hR2
  obtain ⟨g, T, sv, ss, rfl, hb, h1, h2, h3, h4, f1, f2⟩ := hSp
  have hlen : S.ss.length ≤ 100000 := by have := hG.s.len; simp only [List.length_map] at this; omega
  have hlv : S.vs.length ≤ 1000000 := by have := hG.v.len; simp only [List.length_map] at this; omega
  have s := St.start hK
  have Hat := Lib.hid fun W (hW : K.In W) => vAt_ok K sv S.vs x W hW h1 hlv
  have HS := Lib.hid h2
  have HF := Lib.hid f2
  have HT := Lib.hid h4
  obtain ⟨a1, c1, rfl, _, _⟩ := h2
  have hle := ixN_le Vol.id S.vs x
  have hix : ixN AP.id (S.vs.map Vol.abs) x = ixN Vol.id S.vs x := ixN_map _ _ _ _
  obtain ⟨n, hn⟩ : ∃ n, ixN Vol.id S.vs x = n := ⟨_, rfl⟩
  rw [hn] at hle hix
  obtain ⟨a, cap, rfl, hcap, hx⟩ := h1
  by_cases hlt : n < S.vs.length
  · have hv : Hid (ixV Vol.id S.vs x = (n : Int)) := Lib.hid (by rw [ixV, hn, if_pos hlt])
    obtain ⟨y, hyn⟩ : ∃ y, S.vs[n]? = some y := ⟨_, List.getElem?_eq_getElem hlt⟩
    obtain ⟨yi, yt, yp, yn, yL⟩ := y
    have hsn := snapshot_some (A := ⟨S.vs.map Vol.abs, S.ss.map Snp.abs⟩) (x := x) (v := Vol.abs ⟨yi, yt, yp, yn, yL⟩) (by
      show (S.vs.map Vol.abs)[ixN AP.id (S.vs.map Vol.abs) x]? = _
      rw [hix, List.getElem?_map, hyn]
      rfl)
    obtain ⟨b, off, cs, ty, fr, rfl, hkb, hj⟩ := hx n _ hyn
    have Hj : Hid (∀ (j : Nat) (u : Value), [Value.int .i64 yi, .int .i64 yt, .pointer yp.ptr, .int .i64 yn][j]? = some u → cs[off + n * 4 + j]? = some u) := Lib.hid hj
    have hTy : Tr 122 K yp := h3 _ (List.mem_of_getElem? hyn)
    have hRy : Rep yp yn yL := hR1 _ (List.mem_of_getElem? hyn)
    by_cases hlim : S.ss.length < 256
    · obtain ⟨k, hk⟩ : ∃ k, frN Snp.num S.ss 0 = k := ⟨_, rfl⟩
      have hkl : k ≤ S.ss.length := by rw [← hk]; exact frN_le _ _ _
      have Hk := Lib.hid hk
      have hfr : frN AP.id (S.ss.map Snp.abs) 0 = k := by rw [frN_map]; exact hk
      have hres : Hid (Asp.snapshot ⟨S.vs.map Vol.abs, S.ss.map Snp.abs⟩ x = ((⟨S.vs.map Vol.abs, (insAt S.ss k (⟨⟨(k : Nat), yt, yp, yn, yL⟩, x⟩ : Snp)).map Snp.abs⟩ : Asp), ((k : Nat) : Int), (0 : Int))) := Lib.hid (by
        rw [hsn, if_pos (by simpa using hlim), hfr, insAt_map]
        rfl)
      have HTn : Hid (∀ u ∈ insAt S.ss k (⟨⟨(k : Nat), yt, yp, yn, yL⟩, x⟩ : Snp), Tr 122 K u.t) := Lib.hid fun u hu => by
        rcases insAt_mem' hu with rfl | hu
        · exact hTy
        · exact HT.out u hu
      have HRn : Hid (∀ u ∈ insAt S.ss k (⟨⟨(k : Nat), yt, yp, yn, yL⟩, x⟩ : Snp), Rep u.t u.n u.L) := Lib.hid fun u hu => by
        rcases insAt_mem' hu with rfl | hu
        · exact hRy
        · exact HR2.out u hu
      clear hj hyn hx h3 h4 hn hix f1 f2 hR1 hR2 hfr hk hsn hTy hRy
      go_enter Tryd.func21, Tryd.ntmps21
      go_wp2_with (first
        | ((with_reducible refine gate_load (T := 47) ?_); refine wpList_loadCell rfl rfl rfl Tryd.underlying47 rfl (s.inn.get hb) rfl ?_)
        | ((with_reducible refine gate_load (T := 48) ?_); refine wpList_loadCell rfl rfl rfl Tryd.underlying48 rfl (s.inn.get hb) rfl ?_)
        | (go_at_call 27; refine (Hat.out _ s.inn).mono ?_; rw [hv.out]; rintro e W4 ⟨rfl, hb4⟩; replace s := s.quiet hb4; clear hb4)
        | (go_at_call 44; refine (sFree_ok K _ S.ss _ s.inn HS.out (by omega)).mono ?_; rw [Hk.out]; rintro e W4 ⟨rfl, hb4⟩; replace s := s.quiet hb4; clear hb4)
        | ((with_reducible refine gate_load (T := 62) ?_); refine wpList_loadAgg (vs := [.int .i64 yi, .int .i64 yt, .pointer yp.ptr, .int .i64 yn]) (off := off + n * 4) rfl rfl rfl Tryd.underlying62 rfl (s.inn.get hkb) (by rw [size_Part]; rfl) (fun j u hu => Hj.out j u hu) ?_)
        | ((with_reducible refine gate_alloc (T := 64) ?_); refine wpList_allocG rfl rfl zero_Snp (cs := #[.int .i64 0, .int .i64 0, .pointer none, .int .i64 0, .int .i64 0]) rfl ?_; intro g1 W1 e hn; have o1 := Own.made s e hn; replace s := s.new hn; clear e hn)
        | ((with_reducible refine gate_store (T := 64) ?_); refine wpList_storeAll rfl rfl rfl rfl (cs := #[.int .i64 yi, .int .i64 yt, .pointer yp.ptr, .int .i64 yn, .int .i64 x]) rfl o1.at_ rfl (by rw [size_Snp]; rfl) (by simp [Value.oneCell']) ?_; intro W3 hu; replace s := s.upd o1 hu; replace o1 := o1.upd hu; clear hu)
        | ((with_reducible refine gate_store (T := 3) ?_); refine wpList_storeAt (off := 0) (cs := #[.int .i64 (k : Nat)]) rfl rfl rfl rfl rfl o1.at_ (by simp) (by rw [size_int1]; rfl) (by simp [Value.oneCell']) ?_; intro W3 hu; replace s := s.upd o1 hu; replace o1 := o1.upd hu; clear hu)
        | fail)
      replace o1 : Own w K _ g1 (.cells #[.int .i64 (k : Nat), .int .i64 yt, .pointer yp.ptr, .int .i64 yn, .int .i64 x] 64 (0, 0)) := o1
      refine wp_region_runL (m := 13) (n := 56) (I := fun L2 T2 W2 => RowI K w g1 (.cells #[.int .i64 (k : Nat), .int .i64 yt, .pointer yp.ptr, .int .i64 yn, .int .i64 x] 64 (0, 0)) 64 5 S.ss.length (S.ss.flatMap encS) 5 9 L2 T2 W2) (K0 := ⟨K, none⟩)
        (ws := [.is (.pointer (some ⟨g, 0, none⟩)), .is (.pointer (some ⟨g, 0, none⟩)), .is (.pointer (some ⟨g, 0, none⟩)), .is (.pointer (some ⟨g, 1, none⟩)), .is (.slice a1 S.ss.length c1), .sat (fun T v => T.row = some v), .is (.int .i64 (k : Nat)), .is (.agg #[.int .i64 (k : Nat), .int .i64 yt, .pointer yp.ptr, .int .i64 yn, .int .i64 x]), .sat (fun T v => LitV #[.int .i64 (k : Nat), .int .i64 yt, .pointer yp.ptr, .int .i64 yn, .int .i64 x] 64 T v), .sat (fun T v => ListS (insAt S.ss k ⟨⟨(k : Nat), yt, yp, yn, yL⟩, x⟩) T v), .sat (fun T v => SpK T.K v ⟨S.vs, insAt S.ss k ⟨⟨(k : Nat), yt, yp, yn, yL⟩, x⟩⟩), .is (.int .i64 (k : Nat)), .sat (fun T v => SpK T.K v ⟨S.vs, insAt S.ss k ⟨⟨(k : Nat), yt, yp, yn, yL⟩, x⟩⟩)])
        mixed_ok (by kernel_rfl) rfl rfl ?monou ⟨s.drew, o1.drew, fun _ => rfl, fun _ v hv => by cases hv⟩ ?_
      case monou =>
        simp only [List.forall_mem_cons]
        exact ⟨trivial, trivial, trivial, trivial, trivial, fun _ _ _ hE h => hE.2 _ h, trivial, trivial, fun _ _ _ hE h => by obtain ⟨gn, h1, h2⟩ := h; exact ⟨gn, h1, hE.1 _ _ h2⟩, fun _ _ _ hE h => ⟨h.1.keep hE.1, h.2⟩, fun _ _ _ hE h => h.ext hE.1, trivial, fun _ _ _ hE h => h.ext hE.1, fun _ h => by cases h⟩
      apply RunAllL.is_
      · intro L3 K3 W3 hL3 hE3 hI3 hF3
        go_wp2
        exact step_end ⟨⟨K3, Gh.refl _, hI3.same (by decide) (by decide)⟩, rfl⟩
      · rfl
      apply RunAllL.is_
      · intro L3 K3 W3 hL3 hE3 hI3 hF3
        go_wp2
        exact step_end ⟨⟨K3, Gh.refl _, hI3.same (by decide) (by decide)⟩, rfl⟩
      · rfl
      apply RunAllL.is_
      · intro L3 K3 W3 hL3 hE3 hI3 hF3
        go_wp2
        exact step_end ⟨⟨K3, Gh.refl _, hI3.same (by decide) (by decide)⟩, rfl⟩
      · rfl
      apply RunAllL.is_
      · intro L3 K3 W3 hL3 hE3 hI3 hF3
        go_wp2
        exact step_end ⟨⟨K3, Gh.refl _, hI3.same (by decide) (by decide)⟩, rfl⟩
      · rfl
      apply RunAllL.is_
      · intro L3 K3 W3 hL3 hE3 hI3 hF3
        go_wp2_with (first | ((with_reducible refine gate_load (T := 48) ?_); refine wpList_loadCell rfl rfl rfl Tryd.underlying48 rfl (hI3.st.inn.get (hE3.1 _ _ hb)) rfl ?_) | fail)
        exact step_end ⟨⟨K3, Gh.refl _, hI3.same (by decide) (by decide)⟩, rfl⟩
      · rfl
      apply RunAllL.sat_
      · intro L3 K3 W3 hL3 hE3 hI3 hF3
        go_wp2_with (first | (go_at_call 47; refine (sClone_ok K3.K _ S.ss _ hI3.st.inn (HS.out.keep hE3.1) HF.out (by omega)).mono ?_; rintro e W4 ⟨v5, rfl, hrow, hb5⟩) | fail)
        obtain ⟨hI5, hG5⟩ := hI3.made hL3 hb5 hrow
        exact step_end ⟨v5, ⟨K3.K, some v5⟩, hG5, hI5, rfl, rfl⟩
      · intro v; rfl
      intro v5
      apply RunAllL.is_
      · intro L3 K3 W3 hL3 hE3 hI3 hF3
        go_wp2
        exact step_end ⟨⟨K3, Gh.refl _, hI3.same (by decide) (by decide)⟩, rfl⟩
      · rfl
      apply RunAllL.is_
      · intro L3 K3 W3 hL3 hE3 hI3 hF3
        go_wp2_with (first | ((with_reducible refine gate_load (T := 64) ?_); refine wpList_load_row rfl 64 _ rfl _ rfl 64 _ _ _ hI3.own.at_ Tryd.underlying64 rfl (by rw [size_Snp]; rfl) ?_) | fail)
        exact step_end ⟨⟨K3, Gh.refl _, hI3.same (by decide) (by decide)⟩, rfl⟩
      · rfl
      apply RunAllL.sat_
      · intro L3 K3 W3 hL3 hE3 hI3 hF3
        go_wp2_with (first | ((with_reducible refine gate_buildSlice (T := 48) ?_); refine wpList_buildSlice1 rfl rfl rfl (cs := #[.int .i64 (k : Nat), .int .i64 yt, .pointer yp.ptr, .int .i64 yn, .int .i64 x]) Tryd.underlying48 infoB_Snp (by decide) (by decide) (by kernel_rfl) ?_; intro gn W5 eg hn; obtain ⟨T5, hG5, hI5, hk5⟩ := hI3.box (k := 8) (by decide) (by decide) eg hn; clear eg hn) | fail)
        generalize hgv : Value.slice (some ⟨gn, 0, none⟩) 1 1 = v10
        exact step_end ⟨v10, T5, hG5, hI5, rfl, gn, hgv.symm, hk5⟩
      · intro v; rfl
      intro v8
      apply RunAllL.sat_
      · intro L3 K3 W3 hL3 hE3 hI3 hF3
        obtain ⟨gn, hv8, hk8⟩ := hF3.2 rfl
        obtain ⟨r5, hne1⟩ := hI3.row hL3 _ (hF3.1.2 rfl)
        have hvb := hI3.st.inn.get hk8
        have hne5 : v5.ownBlock ≠ some gn := fun h => by have h2 := r5.none_ gn h; rw [hk8] at h2; cases h2
        have hone5 := flat_one encS_one S.ss
        have hcall := Lib.hid (sInsert_ok w.heap.size v5 S.ss.length k 1 gn 1 _ (encS ⟨⟨(k : Nat), yt, yp, yn, yL⟩, x⟩) W3 r5.own hkl (by omega) (by omega) hI3.st.size hone5 rfl (encS_one _) hvb hne5)
        rw [← hv8] at hcall
        clear hF3 hv8
        go_wp2_with (first | (go_at_call 46; refine hcall.out.mono ?_; rintro e W5 ⟨v6, rfl, hrow6, hgr6⟩) | fail)
        obtain ⟨K6, s6, hE6, hS6, hF6, hsame⟩ := ins_fix encS_len hI3.st r5 rfl hrow6 hgr6
        exact step_end ⟨v6, ⟨K6, K3.row⟩, ⟨hE6, fun _ h => h⟩, ⟨s6, (hI3.own.grown hgr6 hne1).fixed hsame (hI3.own.apart hgr6 hne1), fun hl => hI3.none_ (by rwa [come_other (by decide)] at hl), fun hl => by simp [come] at hl⟩, rfl, hS6, hF6⟩
      · intro v; rfl
      intro v9
      apply RunAllL.sat_
      · intro L3 K3 W3 hL3 hE3 hI3 hF3
        have HL := Lib.hid (hF3.2 rfl)
        clear hF3
        go_wp2_with (first | (go_at_call 45; refine (snapshotsAre_ok K3.K _ S _ (insAt S.ss k ⟨⟨(k : Nat), yt, yp, yn, yL⟩, x⟩) _ hI3.st.inn (HSp.out.ext hE3.1) HL.out.1 (fun x hx => (HTn.out x hx).ext hE3.1) HL.out.2).mono ?_; rintro e W5 ⟨v6, K6, rfl, hi, hl, hb6, hu6⟩) | fail)
        exact step_end ⟨v6, ⟨K6, K3.row⟩, Rg.le_call hI3.st.inn hl, hI3.call (by decide) (by decide) hi hl hb6, rfl, hu6⟩
      · intro v; rfl
      intro v10
      apply RunAllL.is_
      · intro L3 K3 W3 hL3 hE3 hI3 hF3
        go_wp2
        exact step_end ⟨⟨K3, Gh.refl _, hI3.same (by decide) (by decide)⟩, rfl⟩
      · rfl
      refine RunAllL.sat_ ?h1u (fun v => rfl) ?h3u
      case h1u =>
        intro L3 K3 W3 hL3 hE3 hI3 hF3
        have hsp := hF3.2 rfl
        clear hF3
        go_wp2
        exact step_end ⟨_, K3, Gh.refl _, hI3.same (by decide) (by decide), rfl, hsp⟩
      intro v12
      simp only [Act.put, Array.setIfInBounds, List.size_toArray, List.length_cons, List.length_nil]
      intro L5 K5 W5 hL5 hE5 hI5 hF5
      have hu5 := hF5.2
      have s5 := hI5.st
      change wpList _ _ _ (List.cons _ _) _ _
      go_wp2
      go_ret3
      rw [hres.out]
      exact s5.ret ⟨_, rfl, fun _ => ⟨_, hu5, rfl, rfl, HR1.out, HRn.out⟩, fun h => (h rfl).elim⟩
    · have hres : Hid (Asp.snapshot ⟨S.vs.map Vol.abs, S.ss.map Snp.abs⟩ x = (⟨S.vs.map Vol.abs, S.ss.map Snp.abs⟩, 0, 2)) := Lib.hid (by
        rw [hsn, if_neg (by simpa using hlim)])
      clear hj hyn hx h3 h4 hn hix f1 f2 hR1 hR2 hsn hTy hRy
      go_enter Tryd.func21, Tryd.ntmps21
      go_wp2_with (first
        | ((with_reducible refine gate_load (T := 47) ?_); refine wpList_loadCell rfl rfl rfl Tryd.underlying47 rfl (s.inn.get hb) rfl ?_)
        | ((with_reducible refine gate_load (T := 48) ?_); refine wpList_loadCell rfl rfl rfl Tryd.underlying48 rfl (s.inn.get hb) rfl ?_)
        | (go_at_call 27; refine (Hat.out _ s.inn).mono ?_; rw [hv.out]; rintro e W4 ⟨rfl, hb4⟩; replace s := s.quiet hb4; clear hb4)
        | fail)
      go_ret3
      rw [hres.out]
      exact s.ret ⟨.pointer none, rfl, ⟨fun h => (by cases h), fun _ => rfl⟩⟩
  · have hv : Hid (ixV Vol.id S.vs x = -1) := Lib.hid (by rw [ixV, hn, if_neg hlt])
    have hres : Hid (Asp.snapshot ⟨S.vs.map Vol.abs, S.ss.map Snp.abs⟩ x = (⟨S.vs.map Vol.abs, S.ss.map Snp.abs⟩, 0, 12)) := Lib.hid (by
      refine snapshot_none ?_
      show (S.vs.map Vol.abs)[ixN AP.id (S.vs.map Vol.abs) x]? = _
      rw [hix, List.getElem?_eq_none (by rw [List.length_map]; omega)])
    clear hx h3 h4 hn hix f1 f2 hR1 hR2
    go_enter Tryd.func21, Tryd.ntmps21
    go_wp2_with (first
      | ((with_reducible refine gate_load (T := 47) ?_); refine wpList_loadCell rfl rfl rfl Tryd.underlying47 rfl (s.inn.get hb) rfl ?_)
      | (go_at_call 27; refine (Hat.out _ s.inn).mono ?_; rw [hv.out]; rintro e W4 ⟨rfl, hb4⟩; replace s := s.quiet hb4; clear hb4)
      | fail)
    go_ret3
    rw [hres.out]
    exact s.ret ⟨.pointer none, rfl, ⟨fun h => (by cases h), fun _ => rfl⟩⟩

set_option maxRecDepth 100000 in
theorem Create_ok (K : Fz) (v : Value) (A : Asp) (ten : Int) (w : World) (hK : K.In w) (hS : SpA K v A) (hG : Good A) :
    Calls Tryd.prog 16 #[v, .int .i64 ten] w (Ret K w (Three (A.create ten []))) := by
  have s := St.start hK
  have HS := Lib.hid hS
  clear hS
  go_enter Tryd.func16, Tryd.ntmps16
  go_wp2_with (first
    | ((with_reducible refine gate_build (T := 60) (x := #[]) ?_); refine wpList_build0 rfl rfl (v := .agg #[.pointer none, .int .i64 0]) (fun w => by kernel_rfl) ?_)
    | (go_at_call 33; refine (create_ok' K v A ten .nil 0 [] _ s.inn HS.out hG trivial Rep.nil).mono ?_; rintro e W5 ⟨u, K2, rfl, hi, hl, hb, v', rfl, hres⟩; replace s := s.call hi hl hb; clear hi hl hb)
    | fail)
  go_ret3
  exact s.ret ⟨v', rfl, hres⟩

set_option maxRecDepth 100000 in
theorem Clone_ok (K : Fz) (v : Value) (A : Asp) (x ten : Int) (w : World) (hK : K.In w) (hS : SpA K v A) (hG : Good A) :
    Calls Tryd.prog 23 #[v, .int .i64 x, .int .i64 ten] w (Ret K w (Three (A.clone x ten))) := by
  have HSA := Lib.hid hS
  obtain ⟨S, hSp, e1, e2, hR1, hR2⟩ := hS
  obtain rfl := Asp.eq_mk e1 e2
  clear e1 e2
  have HSp := Lib.hid hSp
  have HR1 := Lib.hid hR1
  have HR2 := Lib.hid hR2
  obtain ⟨g, T, sv, ss, rfl, hb, h1, h2, h3, h4, f1, f2⟩ := hSp
  have hlen : S.ss.length ≤ 1000000 := by have := hG.s.len; simp only [List.length_map] at this; omega
  have s := St.start hK
  have Hat := Lib.hid fun W (hW : K.In W) => sAt_ok K ss S.ss x W hW h2 hlen
  have hle := ixN_le Snp.num S.ss x
  have hix : ixN AP.id (S.ss.map Snp.abs) x = ixN Snp.num S.ss x := ixN_map _ _ _ _
  obtain ⟨n, hn⟩ : ∃ n, ixN Snp.num S.ss x = n := ⟨_, rfl⟩
  rw [hn] at hle hix
  obtain ⟨a, cap, rfl, hcap, hx⟩ := h2
  by_cases hlt : n < S.ss.length
  · have hv : Hid (ixV Snp.num S.ss x = (n : Int)) := Lib.hid (by rw [ixV, hn, if_pos hlt])
    obtain ⟨y, hyn⟩ : ∃ y, S.ss[n]? = some y := ⟨_, List.getElem?_eq_getElem hlt⟩
    have hres : Hid (Asp.clone ⟨S.vs.map Vol.abs, S.ss.map Snp.abs⟩ x ten = Asp.create ⟨S.vs.map Vol.abs, S.ss.map Snp.abs⟩ ten y.L) := Lib.hid (clone_some (v := y.abs) (by
      show (S.ss.map Snp.abs)[ixN AP.id (S.ss.map Snp.abs) x]? = _
      rw [hix, List.getElem?_map, hyn]
      rfl))
    obtain ⟨b, off, cs, ty, fr, rfl, hkb, hj⟩ := hx n y hyn
    have Hj : Hid (∀ (j : Nat) (u : Value), [Value.pointer y.t.ptr, .int .i64 y.n][j]? = some u → cs[off + n * 5 + 2 + j]? = some u) := Lib.hid (by
      intro j u hu
      have := hj (j + 2) u (by
        rcases j with _ | _ | j
        · exact hu
        · exact hu
        · simp at hu)
      rw [← this]
      congr 1
      omega)
    have hTy := h4 _ (List.mem_of_getElem? hyn)
    have hRy := hR2 _ (List.mem_of_getElem? hyn)
    clear hj hyn hx h1 h3 h4 hn hix f1 f2 hR1 hR2
    go_enter Tryd.func23, Tryd.ntmps23
    go_wp2_with (first
      | ((with_reducible refine gate_load (T := 48) ?_); refine wpList_loadCell rfl rfl rfl Tryd.underlying48 rfl (s.inn.get hb) rfl ?_)
      | (go_at_call 25; refine (Hat.out _ s.inn).mono ?_; rw [hv.out]; rintro e W4 ⟨rfl, hb4⟩; replace s := s.quiet hb4; clear hb4)
      | ((with_reducible refine gate_load (T := 60) ?_); refine wpList_loadAgg (vs := [.pointer y.t.ptr, .int .i64 y.n]) (off := off + n * 5 + 2) rfl rfl rfl Tryd.underlying60 rfl (s.inn.get hkb) (by rw [size_Tree]; rfl) (fun j u hu => Hj.out j u hu) ?_)
      | (go_at_call 33; refine (create_ok' K _ _ ten y.t y.n y.L _ s.inn HSA.out hG hTy hRy).mono ?_; rintro e W5 ⟨u, K2, rfl, hi, hl, hb', v', rfl, hr⟩; replace s := s.call hi hl hb'; clear hi hl hb')
      | fail)
    go_ret3
    rw [hres.out]
    exact s.ret ⟨v', rfl, hr⟩
  · have hv : Hid (ixV Snp.num S.ss x = -1) := Lib.hid (by rw [ixV, hn, if_neg hlt])
    have hres : Hid (Asp.clone ⟨S.vs.map Vol.abs, S.ss.map Snp.abs⟩ x ten = (⟨S.vs.map Vol.abs, S.ss.map Snp.abs⟩, 0, 12)) := Lib.hid (by
      refine clone_none ?_
      show (S.ss.map Snp.abs)[ixN AP.id (S.ss.map Snp.abs) x]? = _
      rw [hix, List.getElem?_eq_none (by rw [List.length_map]; omega)])
    clear hx h1 h3 h4 hn hix f1 f2 hR1 hR2
    go_enter Tryd.func23, Tryd.ntmps23
    go_wp2_with (first
      | ((with_reducible refine gate_load (T := 48) ?_); refine wpList_loadCell rfl rfl rfl Tryd.underlying48 rfl (s.inn.get hb) rfl ?_)
      | (go_at_call 25; refine (Hat.out _ s.inn).mono ?_; rw [hv.out]; rintro e W4 ⟨rfl, hb4⟩; replace s := s.quiet hb4; clear hb4)
      | fail)
    go_ret3
    rw [hres.out]
    exact s.ret ⟨.pointer none, rfl, ⟨fun h => (by cases h), fun _ => rfl⟩⟩
end Go.Proofs.YtdaagmhkhfcmdaaDoor
/- do: one operation of a script. Written by gen_VolV.py. -/
namespace Go.Proofs.YtdaagmhkhfcmdaaDoor
open Go Go.RowKit
set_option maxHeartbeats 400000

theorem create_err {A : Asp} {t : Int} {L : Ents} (h : (A.create t L).2.2 ≠ 0) : (A.create t L).1 = A := by
  unfold Asp.create at h ⊢
  split
  · split
    · rename_i h1 h2; rw [if_pos h1, if_pos h2] at h; exact (h rfl).elim
    · rfl
  · rfl
theorem delete_err {A : Asp} {x : Int} (h : (A.delete x).2.2 ≠ 0) : (A.delete x).1 = A := by
  unfold Asp.delete at h ⊢
  split
  · rename_i h1; rw [if_pos h1] at h; exact (h rfl).elim
  · rfl
theorem drop_err {A : Asp} {x : Int} (h : (A.drop x).2.2 ≠ 0) : (A.drop x).1 = A := by
  unfold Asp.drop at h ⊢
  split
  · rename_i h1; rw [if_pos h1] at h; exact (h rfl).elim
  · rfl
theorem change_err {A : Asp} {x : Int} {ok : Bool} {f : AP → AP} (h : (A.change x ok f).2.2 ≠ 0) : (A.change x ok f).1 = A := by
  unfold Asp.change at h ⊢
  split
  · split
    · rename_i h1 h2; rw [if_pos h1, if_pos h2] at h; exact (h rfl).elim
    · rfl
  · rfl
theorem delete_id (A : Asp) (x : Int) : (A.delete x).2.1 = 0 := by unfold Asp.delete; split <;> rfl
theorem drop_id (A : Asp) (x : Int) : (A.drop x).2.1 = 0 := by unfold Asp.drop; split <;> rfl
theorem change_id (A : Asp) (x : Int) (ok : Bool) (f : AP → AP) : (A.change x ok f).2.1 = 0 := by
  unfold Asp.change
  split
  · split <;> rfl
  · rfl
theorem restore_id (A : Asp) (x y : Int) : (A.restore x y).2.1 = 0 := by
  unfold Asp.restore
  split
  · rfl
  · exact change_id _ _ _ _
theorem restore_err {A : Asp} {x y : Int} (h : (A.restore x y).2.2 ≠ 0) : (A.restore x y).1 = A := by
  unfold Asp.restore at h ⊢
  split
  · rfl
  · rename_i p hp
    rw [hp] at h
    exact change_err h
theorem clone_err {A : Asp} {x y : Int} (h : (A.clone x y).2.2 ≠ 0) : (A.clone x y).1 = A := by
  unfold Asp.clone at h ⊢
  split
  · rfl
  · rename_i p hp
    rw [hp] at h
    exact create_err h
theorem snapshot_err {A : Asp} {x : Int} (h : (A.snapshot x).2.2 ≠ 0) : (A.snapshot x).1 = A := by
  cases hv : lk AP.id A.vs x with
  | none => rw [snapshot_none hv]
  | some v =>
    rw [snapshot_some hv] at h ⊢
    split
    · rename_i h1; rw [if_pos h1] at h; exact (h rfl).elim
    · rfl

/-- What do leaves. -/
def Done (r : Asp × Int × Int) (K' : Fz) (u : Value) : Prop := ∃ v', u = .tuple #[v', .int .i64 r.2.1, .int .i64 r.2.2] ∧ SpA K' v' r.1

set_option maxRecDepth 100000 in
set_option maxHeartbeats 1000000 in
theorem do_1 (K : Fz) (v : Value) (A : Asp) (a b c : Int) (w : World) (hK : K.In w) (hS : SpA K v A) (hG : Good A) :
    Calls Tryd.prog 6 #[v, .agg #[.int .i64 1, .int .i64 a, .int .i64 b, .int .i64 c]] w (Ret K w (Done (A.step ⟨1, a, b, c⟩))) := by
  obtain ⟨r, hr⟩ : ∃ r, A.create a [] = r := ⟨_, rfl⟩
  have hst : A.step ⟨1, a, b, c⟩ = r := hr
  have herr : r.2.2 ≠ 0 → r.1 = A := by rw [← hr]; exact create_err
  rw [hst]
  have Hr := Lib.hid hr
  obtain ⟨A', i, e⟩ := r
  have s := St.start hK
  have HS := Lib.hid hS
  clear hS hr hst
  by_cases he : e = 0
  · subst he
    clear herr
    go_enter Tryd.func6, Tryd.ntmps6
    go_wp2_with (first
      | ((with_reducible refine gate_box (T := 30) (x := .tmp 1) ?_); refine wpList_boxG rfl rfl rfl (cs := #[.int .i64 1, .int .i64 a, .int .i64 b, .int .i64 c]) rfl ?_; intro g1 W1 e hn; have o1 := Own.made s e hn; replace s := s.new hn; clear e hn)
      | ((with_reducible refine gate_load (T := 3) ?_); refine wpList_loadCell rfl rfl rfl Tryd.underlying3 rfl o1.at_ rfl ?_)
      | (go_at_call 16; refine (Create_ok K v A a _ s.inn HS.out hG).mono ?_; rw [Hr.out]; rintro e W5 ⟨u, K2, rfl, hi, hl, hb, v', rfl, hres⟩; replace s := s.call hi hl hb; clear hi hl hb)
      | fail)
    go_ret3
    exact s.ret ⟨v', rfl, hres.1 rfl⟩
  · have HE : Hid (A' = A) := Lib.hid (herr he)
    clear herr
    go_enter Tryd.func6, Tryd.ntmps6
    go_wp2_with (first
      | ((with_reducible refine gate_box (T := 30) (x := .tmp 1) ?_); refine wpList_boxG rfl rfl rfl (cs := #[.int .i64 1, .int .i64 a, .int .i64 b, .int .i64 c]) rfl ?_; intro g1 W1 e hn; have o1 := Own.made s e hn; replace s := s.new hn; clear e hn)
      | ((with_reducible refine gate_load (T := 3) ?_); refine wpList_loadCell rfl rfl rfl Tryd.underlying3 rfl o1.at_ rfl ?_)
      | (go_at_call 16; refine (Create_ok K v A a _ s.inn HS.out hG).mono ?_; rw [Hr.out]; rintro e W5 ⟨u, K2, rfl, hi, hl, hb, v', rfl, hres⟩; have hE2 := Ext.of_le s.inn hl; replace s := s.call hi hl hb; clear hi hl hb)
      | fail)
    go_ret3
    exact s.ret ⟨v, rfl, (show SpA K2 v A' by rw [HE.out]; exact HS.out.ext hE2)⟩

set_option maxRecDepth 100000 in
set_option maxHeartbeats 1000000 in
theorem do_2 (K : Fz) (v : Value) (A : Asp) (a b c : Int) (w : World) (hK : K.In w) (hS : SpA K v A) (hG : Good A) :
    Calls Tryd.prog 6 #[v, .agg #[.int .i64 2, .int .i64 a, .int .i64 b, .int .i64 c]] w (Ret K w (Done (A.step ⟨2, a, b, c⟩))) := by
  obtain ⟨r, hr⟩ : ∃ r, A.delete a = r := ⟨_, rfl⟩
  have hst : A.step ⟨2, a, b, c⟩ = r := hr
  have herr : r.2.2 ≠ 0 → r.1 = A := by rw [← hr]; exact delete_err
  have hid : r.2.1 = 0 := by rw [← hr]; exact delete_id A a
  rw [hst]
  have Hr := Lib.hid hr
  obtain ⟨A', i, e⟩ := r
  have s := St.start hK
  have HS := Lib.hid hS
  clear hS hr hst
  by_cases he : e = 0
  · subst he
    clear herr
    go_enter Tryd.func6, Tryd.ntmps6
    go_wp2_with (first
      | ((with_reducible refine gate_box (T := 30) (x := .tmp 1) ?_); refine wpList_boxG rfl rfl rfl (cs := #[.int .i64 2, .int .i64 a, .int .i64 b, .int .i64 c]) rfl ?_; intro g1 W1 e hn; have o1 := Own.made s e hn; replace s := s.new hn; clear e hn)
      | ((with_reducible refine gate_load (T := 3) ?_); refine wpList_loadCell rfl rfl rfl Tryd.underlying3 rfl o1.at_ rfl ?_)
      | (go_at_call 17; refine (Delete_ok K v A a _ s.inn HS.out hG).mono ?_; rw [Hr.out]; rintro e W5 ⟨u, K2, rfl, hi, hl, hb, v', rfl, hres⟩; replace s := s.call hi hl hb; clear hi hl hb)
      | fail)
    go_ret3
    exact s.ret ⟨v', (by have h0 : i = 0 := hid; rw [h0]; rfl), hres.1 rfl⟩
  · have HE : Hid (A' = A) := Lib.hid (herr he)
    clear herr
    go_enter Tryd.func6, Tryd.ntmps6
    go_wp2_with (first
      | ((with_reducible refine gate_box (T := 30) (x := .tmp 1) ?_); refine wpList_boxG rfl rfl rfl (cs := #[.int .i64 2, .int .i64 a, .int .i64 b, .int .i64 c]) rfl ?_; intro g1 W1 e hn; have o1 := Own.made s e hn; replace s := s.new hn; clear e hn)
      | ((with_reducible refine gate_load (T := 3) ?_); refine wpList_loadCell rfl rfl rfl Tryd.underlying3 rfl o1.at_ rfl ?_)
      | (go_at_call 17; refine (Delete_ok K v A a _ s.inn HS.out hG).mono ?_; rw [Hr.out]; rintro e W5 ⟨u, K2, rfl, hi, hl, hb, v', rfl, hres⟩; have hE2 := Ext.of_le s.inn hl; replace s := s.call hi hl hb; clear hi hl hb)
      | fail)
    go_ret3
    exact s.ret ⟨v, (by have h0 : i = 0 := hid; rw [h0]; rfl), (show SpA K2 v A' by rw [HE.out]; exact HS.out.ext hE2)⟩

set_option maxRecDepth 100000 in
set_option maxHeartbeats 1000000 in
theorem do_3 (K : Fz) (v : Value) (A : Asp) (a b c : Int) (w : World) (hK : K.In w) (hS : SpA K v A) (hG : Good A) :
    Calls Tryd.prog 6 #[v, .agg #[.int .i64 3, .int .i64 a, .int .i64 b, .int .i64 c]] w (Ret K w (Done (A.step ⟨3, a, b, c⟩))) := by
  obtain ⟨r, hr⟩ : ∃ r, A.change a (tenB b) (AP.give b) = r := ⟨_, rfl⟩
  have hst : A.step ⟨3, a, b, c⟩ = r := hr
  have herr : r.2.2 ≠ 0 → r.1 = A := by rw [← hr]; exact change_err
  have hid : r.2.1 = 0 := by rw [← hr]; exact change_id A a _ _
  rw [hst]
  have Hr := Lib.hid hr
  obtain ⟨A', i, e⟩ := r
  have s := St.start hK
  have HS := Lib.hid hS
  clear hS hr hst
  by_cases he : e = 0
  · subst he
    clear herr
    go_enter Tryd.func6, Tryd.ntmps6
    go_wp2_with (first
      | ((with_reducible refine gate_box (T := 30) (x := .tmp 1) ?_); refine wpList_boxG rfl rfl rfl (cs := #[.int .i64 3, .int .i64 a, .int .i64 b, .int .i64 c]) rfl ?_; intro g1 W1 e hn; have o1 := Own.made s e hn; replace s := s.new hn; clear e hn)
      | ((with_reducible refine gate_load (T := 3) ?_); refine wpList_loadCell rfl rfl rfl Tryd.underlying3 rfl o1.at_ rfl ?_)
      | (go_at_call 18; refine (Give_ok K v A a b _ s.inn HS.out hG).mono ?_; rw [Hr.out]; rintro e W5 ⟨u, K2, rfl, hi, hl, hb, v', rfl, hres⟩; replace s := s.call hi hl hb; clear hi hl hb)
      | fail)
    go_ret3
    exact s.ret ⟨v', (by have h0 : i = 0 := hid; rw [h0]; rfl), hres.1 rfl⟩
  · have HE : Hid (A' = A) := Lib.hid (herr he)
    clear herr
    go_enter Tryd.func6, Tryd.ntmps6
    go_wp2_with (first
      | ((with_reducible refine gate_box (T := 30) (x := .tmp 1) ?_); refine wpList_boxG rfl rfl rfl (cs := #[.int .i64 3, .int .i64 a, .int .i64 b, .int .i64 c]) rfl ?_; intro g1 W1 e hn; have o1 := Own.made s e hn; replace s := s.new hn; clear e hn)
      | ((with_reducible refine gate_load (T := 3) ?_); refine wpList_loadCell rfl rfl rfl Tryd.underlying3 rfl o1.at_ rfl ?_)
      | (go_at_call 18; refine (Give_ok K v A a b _ s.inn HS.out hG).mono ?_; rw [Hr.out]; rintro e W5 ⟨u, K2, rfl, hi, hl, hb, v', rfl, hres⟩; have hE2 := Ext.of_le s.inn hl; replace s := s.call hi hl hb; clear hi hl hb)
      | fail)
    go_ret3
    exact s.ret ⟨v, (by have h0 : i = 0 := hid; rw [h0]; rfl), (show SpA K2 v A' by rw [HE.out]; exact HS.out.ext hE2)⟩

set_option maxRecDepth 100000 in
set_option maxHeartbeats 1000000 in
theorem do_4 (K : Fz) (v : Value) (A : Asp) (a b c : Int) (w : World) (hK : K.In w) (hS : SpA K v A) (hG : Good A) :
    Calls Tryd.prog 6 #[v, .agg #[.int .i64 4, .int .i64 a, .int .i64 b, .int .i64 c]] w (Ret K w (Done (A.step ⟨4, a, b, c⟩))) := by
  obtain ⟨r, hr⟩ : ∃ r, A.change a (blkB b && chkB c) (AP.map b c) = r := ⟨_, rfl⟩
  have hst : A.step ⟨4, a, b, c⟩ = r := hr
  have herr : r.2.2 ≠ 0 → r.1 = A := by rw [← hr]; exact change_err
  have hid : r.2.1 = 0 := by rw [← hr]; exact change_id A a _ _
  rw [hst]
  have Hr := Lib.hid hr
  obtain ⟨A', i, e⟩ := r
  have s := St.start hK
  have HS := Lib.hid hS
  clear hS hr hst
  by_cases he : e = 0
  · subst he
    clear herr
    go_enter Tryd.func6, Tryd.ntmps6
    go_wp2_with (first
      | ((with_reducible refine gate_box (T := 30) (x := .tmp 1) ?_); refine wpList_boxG rfl rfl rfl (cs := #[.int .i64 4, .int .i64 a, .int .i64 b, .int .i64 c]) rfl ?_; intro g1 W1 e hn; have o1 := Own.made s e hn; replace s := s.new hn; clear e hn)
      | ((with_reducible refine gate_load (T := 3) ?_); refine wpList_loadCell rfl rfl rfl Tryd.underlying3 rfl o1.at_ rfl ?_)
      | (go_at_call 19; refine (Map_ok K v A a b c _ s.inn HS.out hG).mono ?_; rw [Hr.out]; rintro e W5 ⟨u, K2, rfl, hi, hl, hb, v', rfl, hres⟩; replace s := s.call hi hl hb; clear hi hl hb)
      | fail)
    go_ret3
    exact s.ret ⟨v', (by have h0 : i = 0 := hid; rw [h0]; rfl), hres.1 rfl⟩
  · have HE : Hid (A' = A) := Lib.hid (herr he)
    clear herr
    go_enter Tryd.func6, Tryd.ntmps6
    go_wp2_with (first
      | ((with_reducible refine gate_box (T := 30) (x := .tmp 1) ?_); refine wpList_boxG rfl rfl rfl (cs := #[.int .i64 4, .int .i64 a, .int .i64 b, .int .i64 c]) rfl ?_; intro g1 W1 e hn; have o1 := Own.made s e hn; replace s := s.new hn; clear e hn)
      | ((with_reducible refine gate_load (T := 3) ?_); refine wpList_loadCell rfl rfl rfl Tryd.underlying3 rfl o1.at_ rfl ?_)
      | (go_at_call 19; refine (Map_ok K v A a b c _ s.inn HS.out hG).mono ?_; rw [Hr.out]; rintro e W5 ⟨u, K2, rfl, hi, hl, hb, v', rfl, hres⟩; have hE2 := Ext.of_le s.inn hl; replace s := s.call hi hl hb; clear hi hl hb)
      | fail)
    go_ret3
    exact s.ret ⟨v, (by have h0 : i = 0 := hid; rw [h0]; rfl), (show SpA K2 v A' by rw [HE.out]; exact HS.out.ext hE2)⟩

set_option maxRecDepth 100000 in
set_option maxHeartbeats 1000000 in
theorem do_5 (K : Fz) (v : Value) (A : Asp) (a b c : Int) (w : World) (hK : K.In w) (hS : SpA K v A) (hG : Good A) :
    Calls Tryd.prog 6 #[v, .agg #[.int .i64 5, .int .i64 a, .int .i64 b, .int .i64 c]] w (Ret K w (Done (A.step ⟨5, a, b, c⟩))) := by
  obtain ⟨r, hr⟩ : ∃ r, A.change a (blkB b) (AP.unmap b) = r := ⟨_, rfl⟩
  have hst : A.step ⟨5, a, b, c⟩ = r := hr
  have herr : r.2.2 ≠ 0 → r.1 = A := by rw [← hr]; exact change_err
  have hid : r.2.1 = 0 := by rw [← hr]; exact change_id A a _ _
  rw [hst]
  have Hr := Lib.hid hr
  obtain ⟨A', i, e⟩ := r
  have s := St.start hK
  have HS := Lib.hid hS
  clear hS hr hst
  by_cases he : e = 0
  · subst he
    clear herr
    go_enter Tryd.func6, Tryd.ntmps6
    go_wp2_with (first
      | ((with_reducible refine gate_box (T := 30) (x := .tmp 1) ?_); refine wpList_boxG rfl rfl rfl (cs := #[.int .i64 5, .int .i64 a, .int .i64 b, .int .i64 c]) rfl ?_; intro g1 W1 e hn; have o1 := Own.made s e hn; replace s := s.new hn; clear e hn)
      | ((with_reducible refine gate_load (T := 3) ?_); refine wpList_loadCell rfl rfl rfl Tryd.underlying3 rfl o1.at_ rfl ?_)
      | (go_at_call 20; refine (Unmap_ok K v A a b _ s.inn HS.out hG).mono ?_; rw [Hr.out]; rintro e W5 ⟨u, K2, rfl, hi, hl, hb, v', rfl, hres⟩; replace s := s.call hi hl hb; clear hi hl hb)
      | fail)
    go_ret3
    exact s.ret ⟨v', (by have h0 : i = 0 := hid; rw [h0]; rfl), hres.1 rfl⟩
  · have HE : Hid (A' = A) := Lib.hid (herr he)
    clear herr
    go_enter Tryd.func6, Tryd.ntmps6
    go_wp2_with (first
      | ((with_reducible refine gate_box (T := 30) (x := .tmp 1) ?_); refine wpList_boxG rfl rfl rfl (cs := #[.int .i64 5, .int .i64 a, .int .i64 b, .int .i64 c]) rfl ?_; intro g1 W1 e hn; have o1 := Own.made s e hn; replace s := s.new hn; clear e hn)
      | ((with_reducible refine gate_load (T := 3) ?_); refine wpList_loadCell rfl rfl rfl Tryd.underlying3 rfl o1.at_ rfl ?_)
      | (go_at_call 20; refine (Unmap_ok K v A a b _ s.inn HS.out hG).mono ?_; rw [Hr.out]; rintro e W5 ⟨u, K2, rfl, hi, hl, hb, v', rfl, hres⟩; have hE2 := Ext.of_le s.inn hl; replace s := s.call hi hl hb; clear hi hl hb)
      | fail)
    go_ret3
    exact s.ret ⟨v, (by have h0 : i = 0 := hid; rw [h0]; rfl), (show SpA K2 v A' by rw [HE.out]; exact HS.out.ext hE2)⟩

set_option maxRecDepth 100000 in
set_option maxHeartbeats 1000000 in
theorem do_6 (K : Fz) (v : Value) (A : Asp) (a b c : Int) (w : World) (hK : K.In w) (hS : SpA K v A) (hG : Good A) :
    Calls Tryd.prog 6 #[v, .agg #[.int .i64 6, .int .i64 a, .int .i64 b, .int .i64 c]] w (Ret K w (Done (A.step ⟨6, a, b, c⟩))) := by
  obtain ⟨r, hr⟩ : ∃ r, A.snapshot a = r := ⟨_, rfl⟩
  have hst : A.step ⟨6, a, b, c⟩ = r := hr
  have herr : r.2.2 ≠ 0 → r.1 = A := by rw [← hr]; exact snapshot_err
  rw [hst]
  have Hr := Lib.hid hr
  obtain ⟨A', i, e⟩ := r
  have s := St.start hK
  have HS := Lib.hid hS
  clear hS hr hst
  by_cases he : e = 0
  · subst he
    clear herr
    go_enter Tryd.func6, Tryd.ntmps6
    go_wp2_with (first
      | ((with_reducible refine gate_box (T := 30) (x := .tmp 1) ?_); refine wpList_boxG rfl rfl rfl (cs := #[.int .i64 6, .int .i64 a, .int .i64 b, .int .i64 c]) rfl ?_; intro g1 W1 e hn; have o1 := Own.made s e hn; replace s := s.new hn; clear e hn)
      | ((with_reducible refine gate_load (T := 3) ?_); refine wpList_loadCell rfl rfl rfl Tryd.underlying3 rfl o1.at_ rfl ?_)
      | (go_at_call 21; refine (Snapshot_ok K v A a _ s.inn HS.out hG).mono ?_; rw [Hr.out]; rintro e W5 ⟨u, K2, rfl, hi, hl, hb, v', rfl, hres⟩; replace s := s.call hi hl hb; clear hi hl hb)
      | fail)
    go_ret3
    exact s.ret ⟨v', rfl, hres.1 rfl⟩
  · have HE : Hid (A' = A) := Lib.hid (herr he)
    clear herr
    go_enter Tryd.func6, Tryd.ntmps6
    go_wp2_with (first
      | ((with_reducible refine gate_box (T := 30) (x := .tmp 1) ?_); refine wpList_boxG rfl rfl rfl (cs := #[.int .i64 6, .int .i64 a, .int .i64 b, .int .i64 c]) rfl ?_; intro g1 W1 e hn; have o1 := Own.made s e hn; replace s := s.new hn; clear e hn)
      | ((with_reducible refine gate_load (T := 3) ?_); refine wpList_loadCell rfl rfl rfl Tryd.underlying3 rfl o1.at_ rfl ?_)
      | (go_at_call 21; refine (Snapshot_ok K v A a _ s.inn HS.out hG).mono ?_; rw [Hr.out]; rintro e W5 ⟨u, K2, rfl, hi, hl, hb, v', rfl, hres⟩; have hE2 := Ext.of_le s.inn hl; replace s := s.call hi hl hb; clear hi hl hb)
      | fail)
    go_ret3
    exact s.ret ⟨v, rfl, (show SpA K2 v A' by rw [HE.out]; exact HS.out.ext hE2)⟩

set_option maxRecDepth 100000 in
set_option maxHeartbeats 1000000 in
theorem do_7 (K : Fz) (v : Value) (A : Asp) (a b c : Int) (w : World) (hK : K.In w) (hS : SpA K v A) (hG : Good A) :
    Calls Tryd.prog 6 #[v, .agg #[.int .i64 7, .int .i64 a, .int .i64 b, .int .i64 c]] w (Ret K w (Done (A.step ⟨7, a, b, c⟩))) := by
  obtain ⟨r, hr⟩ : ∃ r, A.drop a = r := ⟨_, rfl⟩
  have hst : A.step ⟨7, a, b, c⟩ = r := hr
  have herr : r.2.2 ≠ 0 → r.1 = A := by rw [← hr]; exact drop_err
  have hid : r.2.1 = 0 := by rw [← hr]; exact drop_id A a
  rw [hst]
  have Hr := Lib.hid hr
  obtain ⟨A', i, e⟩ := r
  have s := St.start hK
  have HS := Lib.hid hS
  clear hS hr hst
  by_cases he : e = 0
  · subst he
    clear herr
    go_enter Tryd.func6, Tryd.ntmps6
    go_wp2_with (first
      | ((with_reducible refine gate_box (T := 30) (x := .tmp 1) ?_); refine wpList_boxG rfl rfl rfl (cs := #[.int .i64 7, .int .i64 a, .int .i64 b, .int .i64 c]) rfl ?_; intro g1 W1 e hn; have o1 := Own.made s e hn; replace s := s.new hn; clear e hn)
      | ((with_reducible refine gate_load (T := 3) ?_); refine wpList_loadCell rfl rfl rfl Tryd.underlying3 rfl o1.at_ rfl ?_)
      | (go_at_call 22; refine (Drop_ok K v A a _ s.inn HS.out hG).mono ?_; rw [Hr.out]; rintro e W5 ⟨u, K2, rfl, hi, hl, hb, v', rfl, hres⟩; replace s := s.call hi hl hb; clear hi hl hb)
      | fail)
    go_ret3
    exact s.ret ⟨v', (by have h0 : i = 0 := hid; rw [h0]; rfl), hres.1 rfl⟩
  · have HE : Hid (A' = A) := Lib.hid (herr he)
    clear herr
    go_enter Tryd.func6, Tryd.ntmps6
    go_wp2_with (first
      | ((with_reducible refine gate_box (T := 30) (x := .tmp 1) ?_); refine wpList_boxG rfl rfl rfl (cs := #[.int .i64 7, .int .i64 a, .int .i64 b, .int .i64 c]) rfl ?_; intro g1 W1 e hn; have o1 := Own.made s e hn; replace s := s.new hn; clear e hn)
      | ((with_reducible refine gate_load (T := 3) ?_); refine wpList_loadCell rfl rfl rfl Tryd.underlying3 rfl o1.at_ rfl ?_)
      | (go_at_call 22; refine (Drop_ok K v A a _ s.inn HS.out hG).mono ?_; rw [Hr.out]; rintro e W5 ⟨u, K2, rfl, hi, hl, hb, v', rfl, hres⟩; have hE2 := Ext.of_le s.inn hl; replace s := s.call hi hl hb; clear hi hl hb)
      | fail)
    go_ret3
    exact s.ret ⟨v, (by have h0 : i = 0 := hid; rw [h0]; rfl), (show SpA K2 v A' by rw [HE.out]; exact HS.out.ext hE2)⟩

set_option maxRecDepth 100000 in
set_option maxHeartbeats 1000000 in
theorem do_8 (K : Fz) (v : Value) (A : Asp) (a b c : Int) (w : World) (hK : K.In w) (hS : SpA K v A) (hG : Good A) :
    Calls Tryd.prog 6 #[v, .agg #[.int .i64 8, .int .i64 a, .int .i64 b, .int .i64 c]] w (Ret K w (Done (A.step ⟨8, a, b, c⟩))) := by
  obtain ⟨r, hr⟩ : ∃ r, A.clone a b = r := ⟨_, rfl⟩
  have hst : A.step ⟨8, a, b, c⟩ = r := hr
  have herr : r.2.2 ≠ 0 → r.1 = A := by rw [← hr]; exact clone_err
  rw [hst]
  have Hr := Lib.hid hr
  obtain ⟨A', i, e⟩ := r
  have s := St.start hK
  have HS := Lib.hid hS
  clear hS hr hst
  by_cases he : e = 0
  · subst he
    clear herr
    go_enter Tryd.func6, Tryd.ntmps6
    go_wp2_with (first
      | ((with_reducible refine gate_box (T := 30) (x := .tmp 1) ?_); refine wpList_boxG rfl rfl rfl (cs := #[.int .i64 8, .int .i64 a, .int .i64 b, .int .i64 c]) rfl ?_; intro g1 W1 e hn; have o1 := Own.made s e hn; replace s := s.new hn; clear e hn)
      | ((with_reducible refine gate_load (T := 3) ?_); refine wpList_loadCell rfl rfl rfl Tryd.underlying3 rfl o1.at_ rfl ?_)
      | (go_at_call 23; refine (Clone_ok K v A a b _ s.inn HS.out hG).mono ?_; rw [Hr.out]; rintro e W5 ⟨u, K2, rfl, hi, hl, hb, v', rfl, hres⟩; replace s := s.call hi hl hb; clear hi hl hb)
      | fail)
    go_ret3
    exact s.ret ⟨v', rfl, hres.1 rfl⟩
  · have HE : Hid (A' = A) := Lib.hid (herr he)
    clear herr
    go_enter Tryd.func6, Tryd.ntmps6
    go_wp2_with (first
      | ((with_reducible refine gate_box (T := 30) (x := .tmp 1) ?_); refine wpList_boxG rfl rfl rfl (cs := #[.int .i64 8, .int .i64 a, .int .i64 b, .int .i64 c]) rfl ?_; intro g1 W1 e hn; have o1 := Own.made s e hn; replace s := s.new hn; clear e hn)
      | ((with_reducible refine gate_load (T := 3) ?_); refine wpList_loadCell rfl rfl rfl Tryd.underlying3 rfl o1.at_ rfl ?_)
      | (go_at_call 23; refine (Clone_ok K v A a b _ s.inn HS.out hG).mono ?_; rw [Hr.out]; rintro e W5 ⟨u, K2, rfl, hi, hl, hb, v', rfl, hres⟩; have hE2 := Ext.of_le s.inn hl; replace s := s.call hi hl hb; clear hi hl hb)
      | fail)
    go_ret3
    exact s.ret ⟨v, rfl, (show SpA K2 v A' by rw [HE.out]; exact HS.out.ext hE2)⟩

set_option maxRecDepth 100000 in
set_option maxHeartbeats 1000000 in
theorem do_9 (K : Fz) (v : Value) (A : Asp) (a b c : Int) (w : World) (hK : K.In w) (hS : SpA K v A) (hG : Good A) :
    Calls Tryd.prog 6 #[v, .agg #[.int .i64 9, .int .i64 a, .int .i64 b, .int .i64 c]] w (Ret K w (Done (A.step ⟨9, a, b, c⟩))) := by
  obtain ⟨r, hr⟩ : ∃ r, A.restore a b = r := ⟨_, rfl⟩
  have hst : A.step ⟨9, a, b, c⟩ = r := hr
  have herr : r.2.2 ≠ 0 → r.1 = A := by rw [← hr]; exact restore_err
  have hid : r.2.1 = 0 := by rw [← hr]; exact restore_id A a b
  rw [hst]
  have Hr := Lib.hid hr
  obtain ⟨A', i, e⟩ := r
  have s := St.start hK
  have HS := Lib.hid hS
  clear hS hr hst
  by_cases he : e = 0
  · subst he
    clear herr
    go_enter Tryd.func6, Tryd.ntmps6
    go_wp2_with (first
      | ((with_reducible refine gate_box (T := 30) (x := .tmp 1) ?_); refine wpList_boxG rfl rfl rfl (cs := #[.int .i64 9, .int .i64 a, .int .i64 b, .int .i64 c]) rfl ?_; intro g1 W1 e hn; have o1 := Own.made s e hn; replace s := s.new hn; clear e hn)
      | ((with_reducible refine gate_load (T := 3) ?_); refine wpList_loadCell rfl rfl rfl Tryd.underlying3 rfl o1.at_ rfl ?_)
      | (go_at_call 24; refine (Restore_ok K v A a b _ s.inn HS.out hG).mono ?_; rw [Hr.out]; rintro e W5 ⟨u, K2, rfl, hi, hl, hb, v', rfl, hres⟩; replace s := s.call hi hl hb; clear hi hl hb)
      | fail)
    go_ret3
    exact s.ret ⟨v', (by have h0 : i = 0 := hid; rw [h0]; rfl), hres.1 rfl⟩
  · have HE : Hid (A' = A) := Lib.hid (herr he)
    clear herr
    go_enter Tryd.func6, Tryd.ntmps6
    go_wp2_with (first
      | ((with_reducible refine gate_box (T := 30) (x := .tmp 1) ?_); refine wpList_boxG rfl rfl rfl (cs := #[.int .i64 9, .int .i64 a, .int .i64 b, .int .i64 c]) rfl ?_; intro g1 W1 e hn; have o1 := Own.made s e hn; replace s := s.new hn; clear e hn)
      | ((with_reducible refine gate_load (T := 3) ?_); refine wpList_loadCell rfl rfl rfl Tryd.underlying3 rfl o1.at_ rfl ?_)
      | (go_at_call 24; refine (Restore_ok K v A a b _ s.inn HS.out hG).mono ?_; rw [Hr.out]; rintro e W5 ⟨u, K2, rfl, hi, hl, hb, v', rfl, hres⟩; have hE2 := Ext.of_le s.inn hl; replace s := s.call hi hl hb; clear hi hl hb)
      | fail)
    go_ret3
    exact s.ret ⟨v, (by have h0 : i = 0 := hid; rw [h0]; rfl), (show SpA K2 v A' by rw [HE.out]; exact HS.out.ext hE2)⟩

set_option maxRecDepth 100000 in
set_option maxHeartbeats 1000000 in
theorem do_else (K : Fz) (v : Value) (A : Asp) (k a b c : Int) (w : World) (hK : K.In w) (hS : SpA K v A) (hG : Good A) (h1 : k ≠ 1) (h2 : k ≠ 2) (h3 : k ≠ 3) (h4 : k ≠ 4) (h5 : k ≠ 5) (h6 : k ≠ 6) (h7 : k ≠ 7) (h8 : k ≠ 8) (h9 : k ≠ 9) :
    Calls Tryd.prog 6 #[v, .agg #[.int .i64 k, .int .i64 a, .int .i64 b, .int .i64 c]] w (Ret K w (Done (A.step ⟨k, a, b, c⟩))) := by
  have hst : A.step ⟨k, a, b, c⟩ = (A, 0, 0) := by
    unfold Asp.step
    simp only [h1, h2, h3, h4, h5, h6, h7, h8, h9, if_false]
  rw [hst]
  have s := St.start hK
  have HS := Lib.hid hS
  clear hS hst
  go_enter Tryd.func6, Tryd.ntmps6
  go_wp2_with (first
    | ((with_reducible refine gate_box (T := 30) (x := .tmp 1) ?_); refine wpList_boxG rfl rfl rfl (cs := #[.int .i64 k, .int .i64 a, .int .i64 b, .int .i64 c]) rfl ?_; intro g1 W1 e hn; have o1 := Own.made s e hn; replace s := s.new hn; clear e hn)
    | ((with_reducible refine gate_load (T := 3) ?_); refine wpList_loadCell rfl rfl rfl Tryd.underlying3 rfl o1.at_ rfl ?_)
    | fail)
  go_ret3
  exact s.ret ⟨v, rfl, HS.out⟩

/-- An operation's cells. -/
def encP1 (o : Opn) : List Value := [.int .i64 o.kind, .int .i64 o.a, .int .i64 o.b, .int .i64 o.c]
theorem do_ok (K : Fz) (v : Value) (A : Asp) (o : Opn) (w : World) (hK : K.In w) (hS : SpA K v A) (hG : Good A) :
    Calls Tryd.prog 6 #[v, .agg (encP1 o).toArray] w (Ret K w (Done (A.step o))) := by
  obtain ⟨k, a, b, c⟩ := o
  show Calls Tryd.prog 6 #[v, .agg #[.int .i64 k, .int .i64 a, .int .i64 b, .int .i64 c]] w _
  by_cases h1 : k = 1
  · subst h1; exact do_1 K v A a b c w hK hS hG
  by_cases h2 : k = 2
  · subst h2; exact do_2 K v A a b c w hK hS hG
  by_cases h3 : k = 3
  · subst h3; exact do_3 K v A a b c w hK hS hG
  by_cases h4 : k = 4
  · subst h4; exact do_4 K v A a b c w hK hS hG
  by_cases h5 : k = 5
  · subst h5; exact do_5 K v A a b c w hK hS hG
  by_cases h6 : k = 6
  · subst h6; exact do_6 K v A a b c w hK hS hG
  by_cases h7 : k = 7
  · subst h7; exact do_7 K v A a b c w hK hS hG
  by_cases h8 : k = 8
  · subst h8; exact do_8 K v A a b c w hK hS hG
  by_cases h9 : k = 9
  · subst h9; exact do_9 K v A a b c w hK hS hG
  exact do_else K v A k a b c w hK hS hG h1 h2 h3 h4 h5 h6 h7 h8 h9
end Go.Proofs.YtdaagmhkhfcmdaaDoor
