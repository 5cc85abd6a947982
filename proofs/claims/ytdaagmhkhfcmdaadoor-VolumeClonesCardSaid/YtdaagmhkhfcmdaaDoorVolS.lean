/- change, with each of its four closures. Written by gen_VolS.py. -/
import Derived.Test.YtdaagmhkhfcmdaaDoorGG
namespace Go.Proofs.YtdaagmhkhfcmdaaDoor
open Go Go.RowKit
set_option maxHeartbeats 400000

theorem set_modify {α β : Type} {f : α → β} {g : β → β} {l : List α} {n : Nat} {y z : α} (hy : l[n]? = some y) (hz : f z = g (f y)) : (l.set n z).map f = (l.map f).modify n g := by
  apply List.ext_getElem?
  intro i
  rw [List.getElem?_map, List.getElem?_modify, List.getElem?_map, List.getElem?_set]
  by_cases h : n = i
  · subst h
    have hlt := (List.getElem?_eq_some_iff.1 hy).1
    rw [if_pos rfl, if_pos hlt, hy]
    simp [hz]
  · rw [if_neg h]
    simp [h]
theorem mem_set' {α : Type} {l : List α} {n : Nat} {a b : α} (h : a ∈ l.set n b) : a ∈ l ∨ a = b := List.mem_or_eq_of_mem_set h
/-- The list of volumes that a step makes. -/
def VolsV (L : List Vol) (K : Fz) (v : Value) : Prop := SlK K 4 encV v L ∧ FlatS v

set_option maxRecDepth 100000 in
set_option maxHeartbeats 2000000 in
theorem change_give (K : Fz) (v : Value) (A : Asp) (x : Int) (ok : Bool) (w : World) (hK : K.In w) (hS : SpA K v A) (hG : Good A) {B : Nat} {b : Int} (hB : K B = some (.cells #[.int .i64 b] 3 (0, 0))) :
    Calls Tryd.prog 36 #[v, .int .i64 x, .bool ok, .func (.func 38) #[] #[.pointer (some ⟨B, 0, none⟩)]] w (Ret K w fun K' u => ∃ v', u = .tuple #[v', .int .i64 (A.change x ok (AP.give b)).2.2] ∧ Res K' (A.change x ok (AP.give b)) v') := by
  obtain ⟨S, hSp, e1, e2, hR1, hR2⟩ := hS
  obtain rfl := Asp.eq_mk e1 e2
  clear e1 e2
  have hlen : S.vs.length ≤ 1000000 := by have := hG.v.len; simp only [List.length_map] at this; omega
  have HSp := Lib.hid hSp
  obtain ⟨g, T, sv, ss, rfl, hb, h1, h2, h3, h4, f1, f2⟩ := hSp
  have s := St.start hK
  have Hat := Lib.hid fun W (hW : K.In W) => vAt_ok K sv S.vs x W hW h1 hlen
  have H1 := Lib.hid h1
  have HT := Lib.hid h3
  have HF := Lib.hid f1
  have HR1 := Lib.hid hR1
  have HR2 := Lib.hid hR2
  have hle := ixN_le Vol.id S.vs x
  have hix : ixN AP.id (S.vs.map Vol.abs) x = ixN Vol.id S.vs x := ixN_map _ _ _ _
  obtain ⟨n, hn⟩ : ∃ n, ixN Vol.id S.vs x = n := ⟨_, rfl⟩
  rw [hn] at hle hix
  obtain ⟨a, cap, rfl, hcap, hx⟩ := h1
  by_cases hlt : n < S.vs.length
  · have hv : Hid (ixV Vol.id S.vs x = (n : Int)) := Lib.hid (by rw [ixV, hn, if_pos hlt])
    cases ok with
    | true =>
      have hres : Hid (Asp.change ⟨S.vs.map Vol.abs, S.ss.map Snp.abs⟩ x true (AP.give b) = (⟨(S.vs.map Vol.abs).modify n (AP.give b), S.ss.map Snp.abs⟩, 0, 0)) := Lib.hid (by
        unfold Asp.change
        simp only [hix, List.length_map, if_pos hlt, if_true])
      obtain ⟨y, hyn⟩ : ∃ y, S.vs[n]? = some y := ⟨_, List.getElem?_eq_getElem hlt⟩
      obtain ⟨yi, yt, yp, yn, yL⟩ := y
      obtain ⟨b, off, cs, ty, fr, rfl, hkb, hj⟩ := hx n _ hyn
      have Hj : Hid (∀ (j : Nat) (u : Value), [Value.int .i64 yi, .int .i64 yt, .pointer yp.ptr, .int .i64 yn][j]? = some u → cs[off + n * 4 + j]? = some u) := Lib.hid hj
      have hTy : Tr 122 K yp := h3 _ (List.mem_of_getElem? hyn)
      have hRy : Rep yp yn yL := hR1 _ (List.mem_of_getElem? hyn)
      have Hyn := Lib.hid hyn
      clear hj hyn hx h2 h3 h4 hn hix f1 f2 hR1 hR2
      go_enter Tryd.func36, Tryd.ntmps36
      go_wp2_with (first
        | ((with_reducible refine gate_load (T := 47) ?_); refine wpList_loadCell rfl rfl rfl Tryd.underlying47 rfl (s.inn.get hb) rfl ?_)
        | (go_at_call 27; refine (Hat.out _ s.inn).mono ?_; rw [hv.out]; rintro e W4 ⟨rfl, hb4⟩; replace s := s.quiet hb4; clear hb4)
        | ((with_reducible refine gate_load (T := 68) (x := .tmp 29) ?_); refine wpList_loadAgg (vs := [.int .i64 yi, .int .i64 yt, .pointer yp.ptr, .int .i64 yn]) (off := off + n * 4) rfl rfl rfl Tryd.underlying68 rfl (s.inn.get hkb) (by rw [size_Vol]; rfl) (fun j u hu => Hj.out j u hu) ?_)
        | ((with_reducible refine gate_alloc (T := 68) ?_); refine wpList_allocG rfl rfl zero_Vol (cs := #[.int .i64 0, .int .i64 0, .pointer none, .int .i64 0]) rfl ?_; intro g1 W1 e hn; have o1 := Own.made s e hn; replace s := s.new hn; clear e hn)
        | ((with_reducible refine gate_store (T := 68) ?_); refine wpList_storeAll rfl rfl rfl rfl (cs := #[.int .i64 yi, .int .i64 yt, .pointer yp.ptr, .int .i64 yn]) rfl o1.at_ rfl (by rw [size_Vol]; rfl) (by simp [Value.oneCell']) ?_; intro W3 hu; replace s := s.upd o1 hu; replace o1 := o1.upd hu; clear hu)
        | (go_at_call 38; refine (Give1_ok (y := ⟨yi, yt, yp, yn, yL⟩) s o1 hTy hRy hB).mono ?_; rintro e W5 ⟨rfl, K4, ⟨zi, zt, zp, zn, zL⟩, s4, hE4, o4, hT4, hR4, ha4⟩; clear s o1)
        | fail)
      replace o4 : Own w K4 W5 g1 (.cells #[.int .i64 zi, .int .i64 zt, .pointer zp.ptr, .int .i64 zn] 68 (0, 0)) := o4
      replace hT4 : Tr 122 K4 zp := hT4
      have HTn : Hid (∀ u ∈ S.vs.set n ⟨zi, zt, zp, zn, zL⟩, Tr 122 K4 u.t) := Lib.hid fun u hu => by
        rcases mem_set' hu with hu | rfl
        · exact (HT.out u hu).ext hE4
        · exact hT4
      have HRn : Hid (∀ u ∈ S.vs.set n ⟨zi, zt, zp, zn, zL⟩, Rep u.t u.n u.L) := Lib.hid fun u hu => by
        rcases mem_set' hu with hu | rfl
        · exact HR1.out u hu
        · exact hR4
      have Habs := Lib.hid (set_modify Hyn.out ha4)
      clear Hat hv ha4 hR4 hT4 hTy hRy Hyn Hj
      refine wp_region_run (m := 9) (n := 42) (I := fun K2 W2 => St K w K2 W2 ∧ Own w K2 W2 g1 (.cells #[.int .i64 zi, .int .i64 zt, .pointer zp.ptr, .int .i64 zn] 68 (0, 0))) (K0 := K4)
        (ws := [.is (.pointer (some ⟨g, 0, none⟩)), .is (.pointer (some ⟨g, 0, none⟩)), .is (.pointer (some ⟨g, 0, none⟩)), .is (.pointer (some ⟨g, 0, none⟩)), .is (.slice (some ⟨b, off, none⟩) S.vs.length cap), .is (.int .i64 (n : Nat)), .is (.agg #[.int .i64 zi, .int .i64 zt, .pointer zp.ptr, .int .i64 zn]), .sat (fun K v => VolsV (S.vs.set n ⟨zi, zt, zp, zn, zL⟩) K v), .sat (fun K v => SpK K v ⟨S.vs.set n ⟨zi, zt, zp, zn, zL⟩, S.ss⟩)])
        mixed_ok (by kernel_rfl) rfl rfl ?monoc ⟨s4.drew, o4.drew⟩ ?_
      case monoc =>
        simp only [List.forall_mem_cons]
        exact ⟨trivial, trivial, trivial, trivial, trivial, trivial, trivial, fun _ _ _ hE h => ⟨h.1.keep hE, h.2⟩, fun _ _ _ hE h => h.ext hE, fun _ h => by cases h⟩
      apply RunAll.is_
      · intro K3 W3 hE3 hI3 hF3
        go_wp2
        exact step_end ⟨⟨K3, Ext.refl _, hI3⟩, rfl⟩
      · rfl
      apply RunAll.is_
      · intro K3 W3 hE3 hI3 hF3
        go_wp2
        exact step_end ⟨⟨K3, Ext.refl _, hI3⟩, rfl⟩
      · rfl
      apply RunAll.is_
      · intro K3 W3 hE3 hI3 hF3
        go_wp2
        exact step_end ⟨⟨K3, Ext.refl _, hI3⟩, rfl⟩
      · rfl
      apply RunAll.is_
      · intro K3 W3 hE3 hI3 hF3
        go_wp2
        exact step_end ⟨⟨K3, Ext.refl _, hI3⟩, rfl⟩
      · rfl
      apply RunAll.is_
      · intro K3 W3 hE3 hI3 hF3
        go_wp2_with (first | ((with_reducible refine gate_load (T := 47) ?_); refine wpList_loadCell rfl rfl rfl Tryd.underlying47 rfl (hI3.1.inn.get (hE3 _ _ (hE4 _ _ hb))) rfl ?_) | fail)
        exact step_end ⟨⟨K3, Ext.refl _, hI3⟩, rfl⟩
      · rfl
      apply RunAll.is_
      · intro K3 W3 hE3 hI3 hF3
        go_wp2
        exact step_end ⟨⟨K3, Ext.refl _, hI3⟩, rfl⟩
      · rfl
      apply RunAll.is_
      · intro K3 W3 hE3 hI3 hF3
        go_wp2_with (first | ((with_reducible refine gate_load (T := 68) ?_); refine wpList_load_row rfl 68 _ rfl _ rfl 68 _ _ _ hI3.2.at_ Tryd.underlying68 rfl (by kernel_rfl) ?_) | fail)
        exact step_end ⟨⟨K3, Ext.refl _, hI3⟩, rfl⟩
      · rfl
      apply RunAll.sat_
      · intro K3 W3 hE3 hI3 hF3
        go_wp2_with (first | (go_at_call 62; refine (vWith_ok K3 (.slice (some ⟨b, off, none⟩) S.vs.length cap) S.vs n ⟨zi, zt, zp, zn, zL⟩ _ hI3.1.inn (H1.out.keep (hE4.trans hE3)) HF.out hlen hlt).mono ?_; rintro e W5 ⟨v5, rfl, hrow, hb5⟩) | fail)
        have hne : v5.ownBlock ≠ some g1 := fun h => by have h1 := (ownsRow_lt hrow h).2; have h2 := hI3.2.lt; omega
        have r5 := Row.fresh hI3.1.inn hI3.1.size hrow
        obtain ⟨K6, s6, hE6, hS6, hsame⟩ := Row.fix (hI3.1.quiet hb5) r5 encV_len (by rw [List.length_set]) rfl
        exact step_end ⟨v5, K6, hE6, ⟨s6, (hI3.2.quiet hb5).fixed hsame hne⟩, rfl, hS6, r5.flatS⟩
      · intro v; rfl
      intro v7
      apply RunAll.sat_
      · intro K3 W3 hE3 hI3 hF3
        have HL := Lib.hid (hF3.2 rfl)
        clear hF3
        go_wp2_with (first | (go_at_call 34; refine (volumesAre_ok K3 _ S _ (S.vs.set n ⟨zi, zt, zp, zn, zL⟩) _ hI3.1.inn (HSp.out.ext (hE4.trans hE3)) HL.out.1 (fun x hx => (HTn.out x hx).ext hE3) HL.out.2).mono ?_; rintro e W5 ⟨v5, K5, rfl, hi, hl, hb5, hu5⟩) | fail)
        exact step_end ⟨v5, K5, Ext.of_le hI3.1.inn hl, ⟨hI3.1.call hi hl hb5, hI3.2.call hl hb5⟩, rfl, hu5⟩
      · intro v; rfl
      intro v8
      intro K5 W6 hE5 hI5 hF5
      have hu5 := hF5.2
      have s5 := hI5.1
      change wpList _ _ _ (List.cons _ _) _ _
      go_wp2
      go_ret2
      refine s5.ret ⟨_, by rw [hres.out]; rfl, fun _ => ?_, fun h => (h (by rw [hres.out])).elim⟩
      rw [hres.out]
      exact ⟨_, hu5, Habs.out, rfl, HRn.out, HR2.out⟩
    | false =>
      have hres : Hid (Asp.change ⟨S.vs.map Vol.abs, S.ss.map Snp.abs⟩ x false (AP.give b) = (⟨S.vs.map Vol.abs, S.ss.map Snp.abs⟩, 0, 1)) := Lib.hid (by
        unfold Asp.change
        simp only [hix, List.length_map, if_pos hlt]
        rfl)
      clear hx h2 h3 h4 hn hix f1 f2 hR1 hR2
      go_enter Tryd.func36, Tryd.ntmps36
      go_wp2_with (first
        | ((with_reducible refine gate_load (T := 47) ?_); refine wpList_loadCell rfl rfl rfl Tryd.underlying47 rfl (s.inn.get hb) rfl ?_)
        | (go_at_call 27; refine (Hat.out _ s.inn).mono ?_; rw [hv.out]; rintro e W4 ⟨rfl, hb4⟩; replace s := s.quiet hb4; clear hb4)
        | fail)
      go_ret2
      refine s.ret ⟨.pointer none, by rw [hres.out]; rfl, fun h => ?_, fun _ => rfl⟩
      rw [hres.out] at h
      cases h
  · have hv : Hid (ixV Vol.id S.vs x = -1) := Lib.hid (by rw [ixV, hn, if_neg hlt])
    have hres : Hid (Asp.change ⟨S.vs.map Vol.abs, S.ss.map Snp.abs⟩ x ok (AP.give b) = (⟨S.vs.map Vol.abs, S.ss.map Snp.abs⟩, 0, 12)) := Lib.hid (by
      unfold Asp.change
      simp only [hix, List.length_map, if_neg hlt])
    clear hx h2 h3 h4 hn hix f1 f2 hR1 hR2
    go_enter Tryd.func36, Tryd.ntmps36
    go_wp2_with (first
      | ((with_reducible refine gate_load (T := 47) ?_); refine wpList_loadCell rfl rfl rfl Tryd.underlying47 rfl (s.inn.get hb) rfl ?_)
      | (go_at_call 27; refine (Hat.out _ s.inn).mono ?_; rw [hv.out]; rintro e W4 ⟨rfl, hb4⟩; replace s := s.quiet hb4; clear hb4)
      | fail)
    go_ret2
    refine s.ret ⟨.pointer none, by rw [hres.out]; rfl, fun h => ?_, fun _ => rfl⟩
    rw [hres.out] at h
    cases h

set_option maxRecDepth 100000 in
set_option maxHeartbeats 2000000 in
theorem change_map (K : Fz) (v : Value) (A : Asp) (x : Int) (ok : Bool) (w : World) (hK : K.In w) (hS : SpA K v A) (hG : Good A) {B C : Nat} {b c : Int} (hB : K B = some (.cells #[.int .i64 b] 3 (0, 0))) (hC : K C = some (.cells #[.int .i64 c] 3 (0, 0))) :
    Calls Tryd.prog 36 #[v, .int .i64 x, .bool ok, .func (.func 40) #[] #[.pointer (some ⟨B, 0, none⟩), .pointer (some ⟨C, 0, none⟩)]] w (Ret K w fun K' u => ∃ v', u = .tuple #[v', .int .i64 (A.change x ok (AP.map b c)).2.2] ∧ Res K' (A.change x ok (AP.map b c)) v') := by
  obtain ⟨S, hSp, e1, e2, hR1, hR2⟩ := hS
  obtain rfl := Asp.eq_mk e1 e2
  clear e1 e2
  have hlen : S.vs.length ≤ 1000000 := by have := hG.v.len; simp only [List.length_map] at this; omega
  have HSp := Lib.hid hSp
  obtain ⟨g, T, sv, ss, rfl, hb, h1, h2, h3, h4, f1, f2⟩ := hSp
  have s := St.start hK
  have Hat := Lib.hid fun W (hW : K.In W) => vAt_ok K sv S.vs x W hW h1 hlen
  have H1 := Lib.hid h1
  have HT := Lib.hid h3
  have HF := Lib.hid f1
  have HR1 := Lib.hid hR1
  have HR2 := Lib.hid hR2
  have hle := ixN_le Vol.id S.vs x
  have hix : ixN AP.id (S.vs.map Vol.abs) x = ixN Vol.id S.vs x := ixN_map _ _ _ _
  obtain ⟨n, hn⟩ : ∃ n, ixN Vol.id S.vs x = n := ⟨_, rfl⟩
  rw [hn] at hle hix
  obtain ⟨a, cap, rfl, hcap, hx⟩ := h1
  by_cases hlt : n < S.vs.length
  · have hv : Hid (ixV Vol.id S.vs x = (n : Int)) := Lib.hid (by rw [ixV, hn, if_pos hlt])
    cases ok with
    | true =>
      have hres : Hid (Asp.change ⟨S.vs.map Vol.abs, S.ss.map Snp.abs⟩ x true (AP.map b c) = (⟨(S.vs.map Vol.abs).modify n (AP.map b c), S.ss.map Snp.abs⟩, 0, 0)) := Lib.hid (by
        unfold Asp.change
        simp only [hix, List.length_map, if_pos hlt, if_true])
      obtain ⟨y, hyn⟩ : ∃ y, S.vs[n]? = some y := ⟨_, List.getElem?_eq_getElem hlt⟩
      obtain ⟨yi, yt, yp, yn, yL⟩ := y
      obtain ⟨b, off, cs, ty, fr, rfl, hkb, hj⟩ := hx n _ hyn
      have Hj : Hid (∀ (j : Nat) (u : Value), [Value.int .i64 yi, .int .i64 yt, .pointer yp.ptr, .int .i64 yn][j]? = some u → cs[off + n * 4 + j]? = some u) := Lib.hid hj
      have hTy : Tr 122 K yp := h3 _ (List.mem_of_getElem? hyn)
      have hRy : Rep yp yn yL := hR1 _ (List.mem_of_getElem? hyn)
      have Hyn := Lib.hid hyn
      clear hj hyn hx h2 h3 h4 hn hix f1 f2 hR1 hR2
      go_enter Tryd.func36, Tryd.ntmps36
      go_wp2_with (first
        | ((with_reducible refine gate_load (T := 47) ?_); refine wpList_loadCell rfl rfl rfl Tryd.underlying47 rfl (s.inn.get hb) rfl ?_)
        | (go_at_call 27; refine (Hat.out _ s.inn).mono ?_; rw [hv.out]; rintro e W4 ⟨rfl, hb4⟩; replace s := s.quiet hb4; clear hb4)
        | ((with_reducible refine gate_load (T := 68) (x := .tmp 29) ?_); refine wpList_loadAgg (vs := [.int .i64 yi, .int .i64 yt, .pointer yp.ptr, .int .i64 yn]) (off := off + n * 4) rfl rfl rfl Tryd.underlying68 rfl (s.inn.get hkb) (by rw [size_Vol]; rfl) (fun j u hu => Hj.out j u hu) ?_)
        | ((with_reducible refine gate_alloc (T := 68) ?_); refine wpList_allocG rfl rfl zero_Vol (cs := #[.int .i64 0, .int .i64 0, .pointer none, .int .i64 0]) rfl ?_; intro g1 W1 e hn; have o1 := Own.made s e hn; replace s := s.new hn; clear e hn)
        | ((with_reducible refine gate_store (T := 68) ?_); refine wpList_storeAll rfl rfl rfl rfl (cs := #[.int .i64 yi, .int .i64 yt, .pointer yp.ptr, .int .i64 yn]) rfl o1.at_ rfl (by rw [size_Vol]; rfl) (by simp [Value.oneCell']) ?_; intro W3 hu; replace s := s.upd o1 hu; replace o1 := o1.upd hu; clear hu)
        | (go_at_call 40; refine (Map1_ok (y := ⟨yi, yt, yp, yn, yL⟩) s o1 hTy hRy hB hC).mono ?_; rintro e W5 ⟨rfl, K4, ⟨zi, zt, zp, zn, zL⟩, s4, hE4, o4, hT4, hR4, ha4⟩; clear s o1)
        | fail)
      replace o4 : Own w K4 W5 g1 (.cells #[.int .i64 zi, .int .i64 zt, .pointer zp.ptr, .int .i64 zn] 68 (0, 0)) := o4
      replace hT4 : Tr 122 K4 zp := hT4
      have HTn : Hid (∀ u ∈ S.vs.set n ⟨zi, zt, zp, zn, zL⟩, Tr 122 K4 u.t) := Lib.hid fun u hu => by
        rcases mem_set' hu with hu | rfl
        · exact (HT.out u hu).ext hE4
        · exact hT4
      have HRn : Hid (∀ u ∈ S.vs.set n ⟨zi, zt, zp, zn, zL⟩, Rep u.t u.n u.L) := Lib.hid fun u hu => by
        rcases mem_set' hu with hu | rfl
        · exact HR1.out u hu
        · exact hR4
      have Habs := Lib.hid (set_modify Hyn.out ha4)
      clear Hat hv ha4 hR4 hT4 hTy hRy Hyn Hj
      refine wp_region_run (m := 9) (n := 42) (I := fun K2 W2 => St K w K2 W2 ∧ Own w K2 W2 g1 (.cells #[.int .i64 zi, .int .i64 zt, .pointer zp.ptr, .int .i64 zn] 68 (0, 0))) (K0 := K4)
        (ws := [.is (.pointer (some ⟨g, 0, none⟩)), .is (.pointer (some ⟨g, 0, none⟩)), .is (.pointer (some ⟨g, 0, none⟩)), .is (.pointer (some ⟨g, 0, none⟩)), .is (.slice (some ⟨b, off, none⟩) S.vs.length cap), .is (.int .i64 (n : Nat)), .is (.agg #[.int .i64 zi, .int .i64 zt, .pointer zp.ptr, .int .i64 zn]), .sat (fun K v => VolsV (S.vs.set n ⟨zi, zt, zp, zn, zL⟩) K v), .sat (fun K v => SpK K v ⟨S.vs.set n ⟨zi, zt, zp, zn, zL⟩, S.ss⟩)])
        mixed_ok (by kernel_rfl) rfl rfl ?monoc ⟨s4.drew, o4.drew⟩ ?_
      case monoc =>
        simp only [List.forall_mem_cons]
        exact ⟨trivial, trivial, trivial, trivial, trivial, trivial, trivial, fun _ _ _ hE h => ⟨h.1.keep hE, h.2⟩, fun _ _ _ hE h => h.ext hE, fun _ h => by cases h⟩
      apply RunAll.is_
      · intro K3 W3 hE3 hI3 hF3
        go_wp2
        exact step_end ⟨⟨K3, Ext.refl _, hI3⟩, rfl⟩
      · rfl
      apply RunAll.is_
      · intro K3 W3 hE3 hI3 hF3
        go_wp2
        exact step_end ⟨⟨K3, Ext.refl _, hI3⟩, rfl⟩
      · rfl
      apply RunAll.is_
      · intro K3 W3 hE3 hI3 hF3
        go_wp2
        exact step_end ⟨⟨K3, Ext.refl _, hI3⟩, rfl⟩
      · rfl
      apply RunAll.is_
      · intro K3 W3 hE3 hI3 hF3
        go_wp2
        exact step_end ⟨⟨K3, Ext.refl _, hI3⟩, rfl⟩
      · rfl
      apply RunAll.is_
      · intro K3 W3 hE3 hI3 hF3
        go_wp2_with (first | ((with_reducible refine gate_load (T := 47) ?_); refine wpList_loadCell rfl rfl rfl Tryd.underlying47 rfl (hI3.1.inn.get (hE3 _ _ (hE4 _ _ hb))) rfl ?_) | fail)
        exact step_end ⟨⟨K3, Ext.refl _, hI3⟩, rfl⟩
      · rfl
      apply RunAll.is_
      · intro K3 W3 hE3 hI3 hF3
        go_wp2
        exact step_end ⟨⟨K3, Ext.refl _, hI3⟩, rfl⟩
      · rfl
      apply RunAll.is_
      · intro K3 W3 hE3 hI3 hF3
        go_wp2_with (first | ((with_reducible refine gate_load (T := 68) ?_); refine wpList_load_row rfl 68 _ rfl _ rfl 68 _ _ _ hI3.2.at_ Tryd.underlying68 rfl (by kernel_rfl) ?_) | fail)
        exact step_end ⟨⟨K3, Ext.refl _, hI3⟩, rfl⟩
      · rfl
      apply RunAll.sat_
      · intro K3 W3 hE3 hI3 hF3
        go_wp2_with (first | (go_at_call 62; refine (vWith_ok K3 (.slice (some ⟨b, off, none⟩) S.vs.length cap) S.vs n ⟨zi, zt, zp, zn, zL⟩ _ hI3.1.inn (H1.out.keep (hE4.trans hE3)) HF.out hlen hlt).mono ?_; rintro e W5 ⟨v5, rfl, hrow, hb5⟩) | fail)
        have hne : v5.ownBlock ≠ some g1 := fun h => by have h1 := (ownsRow_lt hrow h).2; have h2 := hI3.2.lt; omega
        have r5 := Row.fresh hI3.1.inn hI3.1.size hrow
        obtain ⟨K6, s6, hE6, hS6, hsame⟩ := Row.fix (hI3.1.quiet hb5) r5 encV_len (by rw [List.length_set]) rfl
        exact step_end ⟨v5, K6, hE6, ⟨s6, (hI3.2.quiet hb5).fixed hsame hne⟩, rfl, hS6, r5.flatS⟩
      · intro v; rfl
      intro v7
      apply RunAll.sat_
      · intro K3 W3 hE3 hI3 hF3
        have HL := Lib.hid (hF3.2 rfl)
        clear hF3
        go_wp2_with (first | (go_at_call 34; refine (volumesAre_ok K3 _ S _ (S.vs.set n ⟨zi, zt, zp, zn, zL⟩) _ hI3.1.inn (HSp.out.ext (hE4.trans hE3)) HL.out.1 (fun x hx => (HTn.out x hx).ext hE3) HL.out.2).mono ?_; rintro e W5 ⟨v5, K5, rfl, hi, hl, hb5, hu5⟩) | fail)
        exact step_end ⟨v5, K5, Ext.of_le hI3.1.inn hl, ⟨hI3.1.call hi hl hb5, hI3.2.call hl hb5⟩, rfl, hu5⟩
      · intro v; rfl
      intro v8
      intro K5 W6 hE5 hI5 hF5
      have hu5 := hF5.2
      have s5 := hI5.1
      change wpList _ _ _ (List.cons _ _) _ _
      go_wp2
      go_ret2
      refine s5.ret ⟨_, by rw [hres.out]; rfl, fun _ => ?_, fun h => (h (by rw [hres.out])).elim⟩
      rw [hres.out]
      exact ⟨_, hu5, Habs.out, rfl, HRn.out, HR2.out⟩
    | false =>
      have hres : Hid (Asp.change ⟨S.vs.map Vol.abs, S.ss.map Snp.abs⟩ x false (AP.map b c) = (⟨S.vs.map Vol.abs, S.ss.map Snp.abs⟩, 0, 1)) := Lib.hid (by
        unfold Asp.change
        simp only [hix, List.length_map, if_pos hlt]
        rfl)
      clear hx h2 h3 h4 hn hix f1 f2 hR1 hR2
      go_enter Tryd.func36, Tryd.ntmps36
      go_wp2_with (first
        | ((with_reducible refine gate_load (T := 47) ?_); refine wpList_loadCell rfl rfl rfl Tryd.underlying47 rfl (s.inn.get hb) rfl ?_)
        | (go_at_call 27; refine (Hat.out _ s.inn).mono ?_; rw [hv.out]; rintro e W4 ⟨rfl, hb4⟩; replace s := s.quiet hb4; clear hb4)
        | fail)
      go_ret2
      refine s.ret ⟨.pointer none, by rw [hres.out]; rfl, fun h => ?_, fun _ => rfl⟩
      rw [hres.out] at h
      cases h
  · have hv : Hid (ixV Vol.id S.vs x = -1) := Lib.hid (by rw [ixV, hn, if_neg hlt])
    have hres : Hid (Asp.change ⟨S.vs.map Vol.abs, S.ss.map Snp.abs⟩ x ok (AP.map b c) = (⟨S.vs.map Vol.abs, S.ss.map Snp.abs⟩, 0, 12)) := Lib.hid (by
      unfold Asp.change
      simp only [hix, List.length_map, if_neg hlt])
    clear hx h2 h3 h4 hn hix f1 f2 hR1 hR2
    go_enter Tryd.func36, Tryd.ntmps36
    go_wp2_with (first
      | ((with_reducible refine gate_load (T := 47) ?_); refine wpList_loadCell rfl rfl rfl Tryd.underlying47 rfl (s.inn.get hb) rfl ?_)
      | (go_at_call 27; refine (Hat.out _ s.inn).mono ?_; rw [hv.out]; rintro e W4 ⟨rfl, hb4⟩; replace s := s.quiet hb4; clear hb4)
      | fail)
    go_ret2
    refine s.ret ⟨.pointer none, by rw [hres.out]; rfl, fun h => ?_, fun _ => rfl⟩
    rw [hres.out] at h
    cases h

set_option maxRecDepth 100000 in
set_option maxHeartbeats 2000000 in
theorem change_unmap (K : Fz) (v : Value) (A : Asp) (x : Int) (ok : Bool) (w : World) (hK : K.In w) (hS : SpA K v A) (hG : Good A) {B : Nat} {b : Int} (hB : K B = some (.cells #[.int .i64 b] 3 (0, 0))) :
    Calls Tryd.prog 36 #[v, .int .i64 x, .bool ok, .func (.func 42) #[] #[.pointer (some ⟨B, 0, none⟩)]] w (Ret K w fun K' u => ∃ v', u = .tuple #[v', .int .i64 (A.change x ok (AP.unmap b)).2.2] ∧ Res K' (A.change x ok (AP.unmap b)) v') := by
  obtain ⟨S, hSp, e1, e2, hR1, hR2⟩ := hS
  obtain rfl := Asp.eq_mk e1 e2
  clear e1 e2
  have hlen : S.vs.length ≤ 1000000 := by have := hG.v.len; simp only [List.length_map] at this; omega
  have HSp := Lib.hid hSp
  obtain ⟨g, T, sv, ss, rfl, hb, h1, h2, h3, h4, f1, f2⟩ := hSp
  have s := St.start hK
  have Hat := Lib.hid fun W (hW : K.In W) => vAt_ok K sv S.vs x W hW h1 hlen
  have H1 := Lib.hid h1
  have HT := Lib.hid h3
  have HF := Lib.hid f1
  have HR1 := Lib.hid hR1
  have HR2 := Lib.hid hR2
  have hle := ixN_le Vol.id S.vs x
  have hix : ixN AP.id (S.vs.map Vol.abs) x = ixN Vol.id S.vs x := ixN_map _ _ _ _
  obtain ⟨n, hn⟩ : ∃ n, ixN Vol.id S.vs x = n := ⟨_, rfl⟩
  rw [hn] at hle hix
  obtain ⟨a, cap, rfl, hcap, hx⟩ := h1
  by_cases hlt : n < S.vs.length
  · have hv : Hid (ixV Vol.id S.vs x = (n : Int)) := Lib.hid (by rw [ixV, hn, if_pos hlt])
    cases ok with
    | true =>
      have hres : Hid (Asp.change ⟨S.vs.map Vol.abs, S.ss.map Snp.abs⟩ x true (AP.unmap b) = (⟨(S.vs.map Vol.abs).modify n (AP.unmap b), S.ss.map Snp.abs⟩, 0, 0)) := Lib.hid (by
        unfold Asp.change
        simp only [hix, List.length_map, if_pos hlt, if_true])
      obtain ⟨y, hyn⟩ : ∃ y, S.vs[n]? = some y := ⟨_, List.getElem?_eq_getElem hlt⟩
      obtain ⟨yi, yt, yp, yn, yL⟩ := y
      obtain ⟨b, off, cs, ty, fr, rfl, hkb, hj⟩ := hx n _ hyn
      have Hj : Hid (∀ (j : Nat) (u : Value), [Value.int .i64 yi, .int .i64 yt, .pointer yp.ptr, .int .i64 yn][j]? = some u → cs[off + n * 4 + j]? = some u) := Lib.hid hj
      have hTy : Tr 122 K yp := h3 _ (List.mem_of_getElem? hyn)
      have hRy : Rep yp yn yL := hR1 _ (List.mem_of_getElem? hyn)
      have Hyn := Lib.hid hyn
      clear hj hyn hx h2 h3 h4 hn hix f1 f2 hR1 hR2
      go_enter Tryd.func36, Tryd.ntmps36
      go_wp2_with (first
        | ((with_reducible refine gate_load (T := 47) ?_); refine wpList_loadCell rfl rfl rfl Tryd.underlying47 rfl (s.inn.get hb) rfl ?_)
        | (go_at_call 27; refine (Hat.out _ s.inn).mono ?_; rw [hv.out]; rintro e W4 ⟨rfl, hb4⟩; replace s := s.quiet hb4; clear hb4)
        | ((with_reducible refine gate_load (T := 68) (x := .tmp 29) ?_); refine wpList_loadAgg (vs := [.int .i64 yi, .int .i64 yt, .pointer yp.ptr, .int .i64 yn]) (off := off + n * 4) rfl rfl rfl Tryd.underlying68 rfl (s.inn.get hkb) (by rw [size_Vol]; rfl) (fun j u hu => Hj.out j u hu) ?_)
        | ((with_reducible refine gate_alloc (T := 68) ?_); refine wpList_allocG rfl rfl zero_Vol (cs := #[.int .i64 0, .int .i64 0, .pointer none, .int .i64 0]) rfl ?_; intro g1 W1 e hn; have o1 := Own.made s e hn; replace s := s.new hn; clear e hn)
        | ((with_reducible refine gate_store (T := 68) ?_); refine wpList_storeAll rfl rfl rfl rfl (cs := #[.int .i64 yi, .int .i64 yt, .pointer yp.ptr, .int .i64 yn]) rfl o1.at_ rfl (by rw [size_Vol]; rfl) (by simp [Value.oneCell']) ?_; intro W3 hu; replace s := s.upd o1 hu; replace o1 := o1.upd hu; clear hu)
        | (go_at_call 42; refine (Unmap1_ok (y := ⟨yi, yt, yp, yn, yL⟩) s o1 hTy hRy hB).mono ?_; rintro e W5 ⟨rfl, K4, ⟨zi, zt, zp, zn, zL⟩, s4, hE4, o4, hT4, hR4, ha4⟩; clear s o1)
        | fail)
      replace o4 : Own w K4 W5 g1 (.cells #[.int .i64 zi, .int .i64 zt, .pointer zp.ptr, .int .i64 zn] 68 (0, 0)) := o4
      replace hT4 : Tr 122 K4 zp := hT4
      have HTn : Hid (∀ u ∈ S.vs.set n ⟨zi, zt, zp, zn, zL⟩, Tr 122 K4 u.t) := Lib.hid fun u hu => by
        rcases mem_set' hu with hu | rfl
        · exact (HT.out u hu).ext hE4
        · exact hT4
      have HRn : Hid (∀ u ∈ S.vs.set n ⟨zi, zt, zp, zn, zL⟩, Rep u.t u.n u.L) := Lib.hid fun u hu => by
        rcases mem_set' hu with hu | rfl
        · exact HR1.out u hu
        · exact hR4
      have Habs := Lib.hid (set_modify Hyn.out ha4)
      clear Hat hv ha4 hR4 hT4 hTy hRy Hyn Hj
      refine wp_region_run (m := 9) (n := 42) (I := fun K2 W2 => St K w K2 W2 ∧ Own w K2 W2 g1 (.cells #[.int .i64 zi, .int .i64 zt, .pointer zp.ptr, .int .i64 zn] 68 (0, 0))) (K0 := K4)
        (ws := [.is (.pointer (some ⟨g, 0, none⟩)), .is (.pointer (some ⟨g, 0, none⟩)), .is (.pointer (some ⟨g, 0, none⟩)), .is (.pointer (some ⟨g, 0, none⟩)), .is (.slice (some ⟨b, off, none⟩) S.vs.length cap), .is (.int .i64 (n : Nat)), .is (.agg #[.int .i64 zi, .int .i64 zt, .pointer zp.ptr, .int .i64 zn]), .sat (fun K v => VolsV (S.vs.set n ⟨zi, zt, zp, zn, zL⟩) K v), .sat (fun K v => SpK K v ⟨S.vs.set n ⟨zi, zt, zp, zn, zL⟩, S.ss⟩)])
        mixed_ok (by kernel_rfl) rfl rfl ?monoc ⟨s4.drew, o4.drew⟩ ?_
      case monoc =>
        simp only [List.forall_mem_cons]
        exact ⟨trivial, trivial, trivial, trivial, trivial, trivial, trivial, fun _ _ _ hE h => ⟨h.1.keep hE, h.2⟩, fun _ _ _ hE h => h.ext hE, fun _ h => by cases h⟩
      apply RunAll.is_
      · intro K3 W3 hE3 hI3 hF3
        go_wp2
        exact step_end ⟨⟨K3, Ext.refl _, hI3⟩, rfl⟩
      · rfl
      apply RunAll.is_
      · intro K3 W3 hE3 hI3 hF3
        go_wp2
        exact step_end ⟨⟨K3, Ext.refl _, hI3⟩, rfl⟩
      · rfl
      apply RunAll.is_
      · intro K3 W3 hE3 hI3 hF3
        go_wp2
        exact step_end ⟨⟨K3, Ext.refl _, hI3⟩, rfl⟩
      · rfl
      apply RunAll.is_
      · intro K3 W3 hE3 hI3 hF3
        go_wp2
        exact step_end ⟨⟨K3, Ext.refl _, hI3⟩, rfl⟩
      · rfl
      apply RunAll.is_
      · intro K3 W3 hE3 hI3 hF3
        go_wp2_with (first | ((with_reducible refine gate_load (T := 47) ?_); refine wpList_loadCell rfl rfl rfl Tryd.underlying47 rfl (hI3.1.inn.get (hE3 _ _ (hE4 _ _ hb))) rfl ?_) | fail)
        exact step_end ⟨⟨K3, Ext.refl _, hI3⟩, rfl⟩
      · rfl
      apply RunAll.is_
      · intro K3 W3 hE3 hI3 hF3
        go_wp2
        exact step_end ⟨⟨K3, Ext.refl _, hI3⟩, rfl⟩
      · rfl
      apply RunAll.is_
      · intro K3 W3 hE3 hI3 hF3
        go_wp2_with (first | ((with_reducible refine gate_load (T := 68) ?_); refine wpList_load_row rfl 68 _ rfl _ rfl 68 _ _ _ hI3.2.at_ Tryd.underlying68 rfl (by kernel_rfl) ?_) | fail)
        exact step_end ⟨⟨K3, Ext.refl _, hI3⟩, rfl⟩
      · rfl
      apply RunAll.sat_
      · intro K3 W3 hE3 hI3 hF3
        go_wp2_with (first | (go_at_call 62; refine (vWith_ok K3 (.slice (some ⟨b, off, none⟩) S.vs.length cap) S.vs n ⟨zi, zt, zp, zn, zL⟩ _ hI3.1.inn (H1.out.keep (hE4.trans hE3)) HF.out hlen hlt).mono ?_; rintro e W5 ⟨v5, rfl, hrow, hb5⟩) | fail)
        have hne : v5.ownBlock ≠ some g1 := fun h => by have h1 := (ownsRow_lt hrow h).2; have h2 := hI3.2.lt; omega
        have r5 := Row.fresh hI3.1.inn hI3.1.size hrow
        obtain ⟨K6, s6, hE6, hS6, hsame⟩ := Row.fix (hI3.1.quiet hb5) r5 encV_len (by rw [List.length_set]) rfl
        exact step_end ⟨v5, K6, hE6, ⟨s6, (hI3.2.quiet hb5).fixed hsame hne⟩, rfl, hS6, r5.flatS⟩
      · intro v; rfl
      intro v7
      apply RunAll.sat_
      · intro K3 W3 hE3 hI3 hF3
        have HL := Lib.hid (hF3.2 rfl)
        clear hF3
        go_wp2_with (first | (go_at_call 34; refine (volumesAre_ok K3 _ S _ (S.vs.set n ⟨zi, zt, zp, zn, zL⟩) _ hI3.1.inn (HSp.out.ext (hE4.trans hE3)) HL.out.1 (fun x hx => (HTn.out x hx).ext hE3) HL.out.2).mono ?_; rintro e W5 ⟨v5, K5, rfl, hi, hl, hb5, hu5⟩) | fail)
        exact step_end ⟨v5, K5, Ext.of_le hI3.1.inn hl, ⟨hI3.1.call hi hl hb5, hI3.2.call hl hb5⟩, rfl, hu5⟩
      · intro v; rfl
      intro v8
      intro K5 W6 hE5 hI5 hF5
      have hu5 := hF5.2
      have s5 := hI5.1
      change wpList _ _ _ (List.cons _ _) _ _
      go_wp2
      go_ret2
      refine s5.ret ⟨_, by rw [hres.out]; rfl, fun _ => ?_, fun h => (h (by rw [hres.out])).elim⟩
      rw [hres.out]
      exact ⟨_, hu5, Habs.out, rfl, HRn.out, HR2.out⟩
    | false =>
      have hres : Hid (Asp.change ⟨S.vs.map Vol.abs, S.ss.map Snp.abs⟩ x false (AP.unmap b) = (⟨S.vs.map Vol.abs, S.ss.map Snp.abs⟩, 0, 1)) := Lib.hid (by
        unfold Asp.change
        simp only [hix, List.length_map, if_pos hlt]
        rfl)
      clear hx h2 h3 h4 hn hix f1 f2 hR1 hR2
      go_enter Tryd.func36, Tryd.ntmps36
      go_wp2_with (first
        | ((with_reducible refine gate_load (T := 47) ?_); refine wpList_loadCell rfl rfl rfl Tryd.underlying47 rfl (s.inn.get hb) rfl ?_)
        | (go_at_call 27; refine (Hat.out _ s.inn).mono ?_; rw [hv.out]; rintro e W4 ⟨rfl, hb4⟩; replace s := s.quiet hb4; clear hb4)
        | fail)
      go_ret2
      refine s.ret ⟨.pointer none, by rw [hres.out]; rfl, fun h => ?_, fun _ => rfl⟩
      rw [hres.out] at h
      cases h
  · have hv : Hid (ixV Vol.id S.vs x = -1) := Lib.hid (by rw [ixV, hn, if_neg hlt])
    have hres : Hid (Asp.change ⟨S.vs.map Vol.abs, S.ss.map Snp.abs⟩ x ok (AP.unmap b) = (⟨S.vs.map Vol.abs, S.ss.map Snp.abs⟩, 0, 12)) := Lib.hid (by
      unfold Asp.change
      simp only [hix, List.length_map, if_neg hlt])
    clear hx h2 h3 h4 hn hix f1 f2 hR1 hR2
    go_enter Tryd.func36, Tryd.ntmps36
    go_wp2_with (first
      | ((with_reducible refine gate_load (T := 47) ?_); refine wpList_loadCell rfl rfl rfl Tryd.underlying47 rfl (s.inn.get hb) rfl ?_)
      | (go_at_call 27; refine (Hat.out _ s.inn).mono ?_; rw [hv.out]; rintro e W4 ⟨rfl, hb4⟩; replace s := s.quiet hb4; clear hb4)
      | fail)
    go_ret2
    refine s.ret ⟨.pointer none, by rw [hres.out]; rfl, fun h => ?_, fun _ => rfl⟩
    rw [hres.out] at h
    cases h

set_option maxRecDepth 100000 in
set_option maxHeartbeats 2000000 in
theorem change_restore (K : Fz) (v : Value) (A : Asp) (x : Int) (ok : Bool) (w : World) (hK : K.In w) (hS : SpA K v A) (hG : Good A) {B C TB j : Nat} {vq : Value} {Sq : Spc} {q : Snp} (hSq : SpK K vq Sq) (hq : Sq.ss[j]? = some q) (hTq : Tr 122 K q.t) (hRq : Rep q.t q.n q.L) (hlq : Sq.ss.length ≤ 1000000) (hB : K B = some (.cells #[vq] TB (0, 0))) (hC : K C = some (.cells #[.int .i64 (j : Nat)] 3 (0, 0))) :
    Calls Tryd.prog 36 #[v, .int .i64 x, .bool ok, .func (.func 49) #[] #[.pointer (some ⟨B, 0, none⟩), .pointer (some ⟨C, 0, none⟩)]] w (Ret K w fun K' u => ∃ v', u = .tuple #[v', .int .i64 (A.change x ok (AP.maps q.L)).2.2] ∧ Res K' (A.change x ok (AP.maps q.L)) v') := by
  obtain ⟨S, hSp, e1, e2, hR1, hR2⟩ := hS
  obtain rfl := Asp.eq_mk e1 e2
  clear e1 e2
  have hlen : S.vs.length ≤ 1000000 := by have := hG.v.len; simp only [List.length_map] at this; omega
  have HSp := Lib.hid hSp
  obtain ⟨g, T, sv, ss, rfl, hb, h1, h2, h3, h4, f1, f2⟩ := hSp
  have s := St.start hK
  have Hat := Lib.hid fun W (hW : K.In W) => vAt_ok K sv S.vs x W hW h1 hlen
  have H1 := Lib.hid h1
  have HT := Lib.hid h3
  have HF := Lib.hid f1
  have HR1 := Lib.hid hR1
  have HR2 := Lib.hid hR2
  have hle := ixN_le Vol.id S.vs x
  have hix : ixN AP.id (S.vs.map Vol.abs) x = ixN Vol.id S.vs x := ixN_map _ _ _ _
  obtain ⟨n, hn⟩ : ∃ n, ixN Vol.id S.vs x = n := ⟨_, rfl⟩
  rw [hn] at hle hix
  obtain ⟨a, cap, rfl, hcap, hx⟩ := h1
  by_cases hlt : n < S.vs.length
  · have hv : Hid (ixV Vol.id S.vs x = (n : Int)) := Lib.hid (by rw [ixV, hn, if_pos hlt])
    cases ok with
    | true =>
      have hres : Hid (Asp.change ⟨S.vs.map Vol.abs, S.ss.map Snp.abs⟩ x true (AP.maps q.L) = (⟨(S.vs.map Vol.abs).modify n (AP.maps q.L), S.ss.map Snp.abs⟩, 0, 0)) := Lib.hid (by
        unfold Asp.change
        simp only [hix, List.length_map, if_pos hlt, if_true])
      obtain ⟨y, hyn⟩ : ∃ y, S.vs[n]? = some y := ⟨_, List.getElem?_eq_getElem hlt⟩
      obtain ⟨yi, yt, yp, yn, yL⟩ := y
      obtain ⟨b, off, cs, ty, fr, rfl, hkb, hj⟩ := hx n _ hyn
      have Hj : Hid (∀ (j : Nat) (u : Value), [Value.int .i64 yi, .int .i64 yt, .pointer yp.ptr, .int .i64 yn][j]? = some u → cs[off + n * 4 + j]? = some u) := Lib.hid hj
      have hTy : Tr 122 K yp := h3 _ (List.mem_of_getElem? hyn)
      have hRy : Rep yp yn yL := hR1 _ (List.mem_of_getElem? hyn)
      have Hyn := Lib.hid hyn
      clear hj hyn hx h2 h3 h4 hn hix f1 f2 hR1 hR2
      go_enter Tryd.func36, Tryd.ntmps36
      go_wp2_with (first
        | ((with_reducible refine gate_load (T := 47) ?_); refine wpList_loadCell rfl rfl rfl Tryd.underlying47 rfl (s.inn.get hb) rfl ?_)
        | (go_at_call 27; refine (Hat.out _ s.inn).mono ?_; rw [hv.out]; rintro e W4 ⟨rfl, hb4⟩; replace s := s.quiet hb4; clear hb4)
        | ((with_reducible refine gate_load (T := 68) (x := .tmp 29) ?_); refine wpList_loadAgg (vs := [.int .i64 yi, .int .i64 yt, .pointer yp.ptr, .int .i64 yn]) (off := off + n * 4) rfl rfl rfl Tryd.underlying68 rfl (s.inn.get hkb) (by rw [size_Vol]; rfl) (fun j u hu => Hj.out j u hu) ?_)
        | ((with_reducible refine gate_alloc (T := 68) ?_); refine wpList_allocG rfl rfl zero_Vol (cs := #[.int .i64 0, .int .i64 0, .pointer none, .int .i64 0]) rfl ?_; intro g1 W1 e hn; have o1 := Own.made s e hn; replace s := s.new hn; clear e hn)
        | ((with_reducible refine gate_store (T := 68) ?_); refine wpList_storeAll rfl rfl rfl rfl (cs := #[.int .i64 yi, .int .i64 yt, .pointer yp.ptr, .int .i64 yn]) rfl o1.at_ rfl (by rw [size_Vol]; rfl) (by simp [Value.oneCell']) ?_; intro W3 hu; replace s := s.upd o1 hu; replace o1 := o1.upd hu; clear hu)
        | (go_at_call 49; refine (Restore1_ok (y := ⟨yi, yt, yp, yn, yL⟩) s o1 hSq hq hTq hRq hlq hB hC).mono ?_; rintro e W5 ⟨rfl, K4, ⟨zi, zt, zp, zn, zL⟩, s4, hE4, o4, hT4, hR4, ha4⟩; clear s o1)
        | fail)
      replace o4 : Own w K4 W5 g1 (.cells #[.int .i64 zi, .int .i64 zt, .pointer zp.ptr, .int .i64 zn] 68 (0, 0)) := o4
      replace hT4 : Tr 122 K4 zp := hT4
      have HTn : Hid (∀ u ∈ S.vs.set n ⟨zi, zt, zp, zn, zL⟩, Tr 122 K4 u.t) := Lib.hid fun u hu => by
        rcases mem_set' hu with hu | rfl
        · exact (HT.out u hu).ext hE4
        · exact hT4
      have HRn : Hid (∀ u ∈ S.vs.set n ⟨zi, zt, zp, zn, zL⟩, Rep u.t u.n u.L) := Lib.hid fun u hu => by
        rcases mem_set' hu with hu | rfl
        · exact HR1.out u hu
        · exact hR4
      have Habs := Lib.hid (set_modify Hyn.out ha4)
      clear Hat hv ha4 hR4 hT4 hTy hRy Hyn Hj
      refine wp_region_run (m := 9) (n := 42) (I := fun K2 W2 => St K w K2 W2 ∧ Own w K2 W2 g1 (.cells #[.int .i64 zi, .int .i64 zt, .pointer zp.ptr, .int .i64 zn] 68 (0, 0))) (K0 := K4)
        (ws := [.is (.pointer (some ⟨g, 0, none⟩)), .is (.pointer (some ⟨g, 0, none⟩)), .is (.pointer (some ⟨g, 0, none⟩)), .is (.pointer (some ⟨g, 0, none⟩)), .is (.slice (some ⟨b, off, none⟩) S.vs.length cap), .is (.int .i64 (n : Nat)), .is (.agg #[.int .i64 zi, .int .i64 zt, .pointer zp.ptr, .int .i64 zn]), .sat (fun K v => VolsV (S.vs.set n ⟨zi, zt, zp, zn, zL⟩) K v), .sat (fun K v => SpK K v ⟨S.vs.set n ⟨zi, zt, zp, zn, zL⟩, S.ss⟩)])
        mixed_ok (by kernel_rfl) rfl rfl ?monoc ⟨s4.drew, o4.drew⟩ ?_
      case monoc =>
        simp only [List.forall_mem_cons]
        exact ⟨trivial, trivial, trivial, trivial, trivial, trivial, trivial, fun _ _ _ hE h => ⟨h.1.keep hE, h.2⟩, fun _ _ _ hE h => h.ext hE, fun _ h => by cases h⟩
      apply RunAll.is_
      · intro K3 W3 hE3 hI3 hF3
        go_wp2
        exact step_end ⟨⟨K3, Ext.refl _, hI3⟩, rfl⟩
      · rfl
      apply RunAll.is_
      · intro K3 W3 hE3 hI3 hF3
        go_wp2
        exact step_end ⟨⟨K3, Ext.refl _, hI3⟩, rfl⟩
      · rfl
      apply RunAll.is_
      · intro K3 W3 hE3 hI3 hF3
        go_wp2
        exact step_end ⟨⟨K3, Ext.refl _, hI3⟩, rfl⟩
      · rfl
      apply RunAll.is_
      · intro K3 W3 hE3 hI3 hF3
        go_wp2
        exact step_end ⟨⟨K3, Ext.refl _, hI3⟩, rfl⟩
      · rfl
      apply RunAll.is_
      · intro K3 W3 hE3 hI3 hF3
        go_wp2_with (first | ((with_reducible refine gate_load (T := 47) ?_); refine wpList_loadCell rfl rfl rfl Tryd.underlying47 rfl (hI3.1.inn.get (hE3 _ _ (hE4 _ _ hb))) rfl ?_) | fail)
        exact step_end ⟨⟨K3, Ext.refl _, hI3⟩, rfl⟩
      · rfl
      apply RunAll.is_
      · intro K3 W3 hE3 hI3 hF3
        go_wp2
        exact step_end ⟨⟨K3, Ext.refl _, hI3⟩, rfl⟩
      · rfl
      apply RunAll.is_
      · intro K3 W3 hE3 hI3 hF3
        go_wp2_with (first | ((with_reducible refine gate_load (T := 68) ?_); refine wpList_load_row rfl 68 _ rfl _ rfl 68 _ _ _ hI3.2.at_ Tryd.underlying68 rfl (by kernel_rfl) ?_) | fail)
        exact step_end ⟨⟨K3, Ext.refl _, hI3⟩, rfl⟩
      · rfl
      apply RunAll.sat_
      · intro K3 W3 hE3 hI3 hF3
        go_wp2_with (first | (go_at_call 62; refine (vWith_ok K3 (.slice (some ⟨b, off, none⟩) S.vs.length cap) S.vs n ⟨zi, zt, zp, zn, zL⟩ _ hI3.1.inn (H1.out.keep (hE4.trans hE3)) HF.out hlen hlt).mono ?_; rintro e W5 ⟨v5, rfl, hrow, hb5⟩) | fail)
        have hne : v5.ownBlock ≠ some g1 := fun h => by have h1 := (ownsRow_lt hrow h).2; have h2 := hI3.2.lt; omega
        have r5 := Row.fresh hI3.1.inn hI3.1.size hrow
        obtain ⟨K6, s6, hE6, hS6, hsame⟩ := Row.fix (hI3.1.quiet hb5) r5 encV_len (by rw [List.length_set]) rfl
        exact step_end ⟨v5, K6, hE6, ⟨s6, (hI3.2.quiet hb5).fixed hsame hne⟩, rfl, hS6, r5.flatS⟩
      · intro v; rfl
      intro v7
      apply RunAll.sat_
      · intro K3 W3 hE3 hI3 hF3
        have HL := Lib.hid (hF3.2 rfl)
        clear hF3
        go_wp2_with (first | (go_at_call 34; refine (volumesAre_ok K3 _ S _ (S.vs.set n ⟨zi, zt, zp, zn, zL⟩) _ hI3.1.inn (HSp.out.ext (hE4.trans hE3)) HL.out.1 (fun x hx => (HTn.out x hx).ext hE3) HL.out.2).mono ?_; rintro e W5 ⟨v5, K5, rfl, hi, hl, hb5, hu5⟩) | fail)
        exact step_end ⟨v5, K5, Ext.of_le hI3.1.inn hl, ⟨hI3.1.call hi hl hb5, hI3.2.call hl hb5⟩, rfl, hu5⟩
      · intro v; rfl
      intro v8
      intro K5 W6 hE5 hI5 hF5
      have hu5 := hF5.2
      have s5 := hI5.1
      change wpList _ _ _ (List.cons _ _) _ _
      go_wp2
      go_ret2
      refine s5.ret ⟨_, by rw [hres.out]; rfl, fun _ => ?_, fun h => (h (by rw [hres.out])).elim⟩
      rw [hres.out]
      exact ⟨_, hu5, Habs.out, rfl, HRn.out, HR2.out⟩
    | false =>
      have hres : Hid (Asp.change ⟨S.vs.map Vol.abs, S.ss.map Snp.abs⟩ x false (AP.maps q.L) = (⟨S.vs.map Vol.abs, S.ss.map Snp.abs⟩, 0, 1)) := Lib.hid (by
        unfold Asp.change
        simp only [hix, List.length_map, if_pos hlt]
        rfl)
      clear hx h2 h3 h4 hn hix f1 f2 hR1 hR2
      go_enter Tryd.func36, Tryd.ntmps36
      go_wp2_with (first
        | ((with_reducible refine gate_load (T := 47) ?_); refine wpList_loadCell rfl rfl rfl Tryd.underlying47 rfl (s.inn.get hb) rfl ?_)
        | (go_at_call 27; refine (Hat.out _ s.inn).mono ?_; rw [hv.out]; rintro e W4 ⟨rfl, hb4⟩; replace s := s.quiet hb4; clear hb4)
        | fail)
      go_ret2
      refine s.ret ⟨.pointer none, by rw [hres.out]; rfl, fun h => ?_, fun _ => rfl⟩
      rw [hres.out] at h
      cases h
  · have hv : Hid (ixV Vol.id S.vs x = -1) := Lib.hid (by rw [ixV, hn, if_neg hlt])
    have hres : Hid (Asp.change ⟨S.vs.map Vol.abs, S.ss.map Snp.abs⟩ x ok (AP.maps q.L) = (⟨S.vs.map Vol.abs, S.ss.map Snp.abs⟩, 0, 12)) := Lib.hid (by
      unfold Asp.change
      simp only [hix, List.length_map, if_neg hlt])
    clear hx h2 h3 h4 hn hix f1 f2 hR1 hR2
    go_enter Tryd.func36, Tryd.ntmps36
    go_wp2_with (first
      | ((with_reducible refine gate_load (T := 47) ?_); refine wpList_loadCell rfl rfl rfl Tryd.underlying47 rfl (s.inn.get hb) rfl ?_)
      | (go_at_call 27; refine (Hat.out _ s.inn).mono ?_; rw [hv.out]; rintro e W4 ⟨rfl, hb4⟩; replace s := s.quiet hb4; clear hb4)
      | fail)
    go_ret2
    refine s.ret ⟨.pointer none, by rw [hres.out]; rfl, fun h => ?_, fun _ => rfl⟩
    rw [hres.out] at h
    cases h
end Go.Proofs.YtdaagmhkhfcmdaaDoor
