/- mappings: the mappings of a tree. -/
import Derived.Test.YtdaagmhkhfcmdaaDoorGI
import Derived.Test.YtdaagmhkhfcmdaaDoorGC
import Derived.Test.YtdaagmhkhfcmdaaDoorGH
import Derived.Test.YtdaagmhkhfcmdaaDoorGJ
namespace Go.Proofs.YtdaagmhkhfcmdaaDoor
open Go Go.RowKit
set_option maxHeartbeats 400000

theorem infoB_Mapping : (Tryd.prog.info? 70).map (fun i => (i.zero, i.size, i.bytes)) = some (some (.agg #[.int .i64 0, .int .i64 0]), 2, 16) := by kernel_rfl
theorem zero_Mappings (w : World) : (zeroValue 31).run Tryd.prog w = .ok (.slice none 0 0) w := by kernel_rfl
theorem encE_len (x : Int × Int) : (encE x).length = 2 := rfl

theorem results_cell1 {fn : Func} {P : Program} {p : Tmp} {ty : TypeId} (h : fn.results = #[.cell p ty]) (tmps : Array Value) (w : World) (g : Nat) (t : TypeId) (cs : Array Value) (fr : Nat × Nat) (d : TypeDesc) (v : Value)
    (hp : tmps.getD p undef = .pointer (some ⟨g, 0, none⟩)) (hg : w.heap[g]? = some (.cells cs t fr))
    (hu : P.underlying ty = some d) (hd : (match d with | .struct _ | .array _ _ => true | _ => false) = false) (hc : cs[0]? = some v) :
    (results fn tmps).run P w = .ok v w := by
  have hp' : tmps[p]?.getD undef = .pointer (some ⟨g, 0, none⟩) := by simpa using hp
  have hcell : w.cell? ⟨g, 0, none⟩ = some v := (cell_of_row w g 0 cs t fr hg).trans hc
  have hagg : (isAgg ty).run P w = .ok false w := by
    unfold isAgg
    rw [Sem.run_bind, run_underlying hu w]
    cases d <;> simp_all
  simp [results, h, hp', asAddr, loadVar, Sem.run_bind, hagg, run_load, hcell]

/-- What a round keeps. -/
def MapI (K0 : Fz) (w : World) (g : Nat) (pre : List (Int × Int)) (K : Fz) (W : World) : Prop :=
  St K0 w K W ∧ ∃ v, Own w K W g (.cells #[v] 31 (0, 0)) ∧ Row w K W 70 2 v pre.length (pre.flatMap encE) ∧ v.ownBlock ≠ some g ∧ ∃ a n c, v = .slice a n c

set_option maxRecDepth 100000 in
set_option maxHeartbeats 1000000 in
theorem mappings_walk (t : PT) (n : Int) (K : Fz) (w : World) (hK : K.In w) (ht : Tr 122 K t) (hxs : (walkTo 2 t 0 0 4096 16).length ≤ 100000) :
    Calls Tryd.prog 26 #[treeV t n] w (Ret K w fun K' v => SlK K' 2 encE v (walkTo 2 t 0 0 4096 16) ∧ FlatS v) := by
  have s := St.start hK
  refine callsIn_wide.1 (callsIn_of_wp_marks (n := 0) Tryd.func26 rfl trivial ?_)
  simp only [Tryd.ntmps26, List.size_toArray, List.length_cons, List.length_nil, Nat.reduceAdd, Nat.reduceSub, Array.replicate_succ, Array.replicate_zero, List.push_toArray, List.append_toArray, List.nil_append, List.cons_append]
  refine wpIn_seq (wpIn_wide.2 ?_)
  go_wp2_with (first
    | ((with_reducible refine gate_box (T := 60) (x := .tmp 0) ?_); refine wpList_boxG rfl rfl rfl (cs := #[.pointer t.ptr, .int .i64 n]) rfl ?_; intro g1 W1 e hn; have o1 := Own.made s e hn; replace s := s.new hn; clear e hn)
    | ((with_reducible refine gate_alloc (T := 31) ?_); refine wpList_allocG rfl rfl zero_Mappings (cs := #[.slice none 0 0]) rfl ?_; intro g5 W3 e hn; have n15 := o1.ne e; have o5 := Own.made s e hn; replace s := s.new hn; replace o1 := o1.new hn; clear e hn)
    | fail)
  refine wpIn_seq (wpIn_seq (wpIn_wide.2 ?_))
  go_wp2_with (first
    | ((with_reducible refine gate_load (T := 60) ?_); refine wpList_load_row rfl 60 _ rfl _ rfl 60 _ _ _ o1.at_ Tryd.underlying60 rfl (by rw [size_Tree]; rfl) ?_)
    | (go_at_call 32; refine (All_ok t n K _ s.inn).mono ?_; rintro e W4 ⟨v, K', rfl, hi, hl, hb', ⟨a1, a2, a3, rfl, hg1, hg2, hg3⟩, hE⟩; replace o5 := o5.call hl hb'; replace s := s.call hi hl hb'; clear o1)
    | fail)
  have hit := Range1_ok t n 0 4096 K' a1 a2 a3 (ht.ext hE) hg1 hg2 hg3
  have hsz := s.size
  refine wpIn_block ?_
  refine range_ok (gf := 72) (lb := #[.pointer (some ⟨a1, 0, none⟩), .pointer (some ⟨a2, 0, none⟩), .pointer (some ⟨a3, 0, none⟩)]) (K := K') rfl (by intro args w; rfl) hit (fun x => rfl)
    (MapI K w g5) (fun _ _ _ => False) (fun pre K1 W1 h => h.1.inn) ?_ (fun _ _ _ h => h.elim) (fun _ _ _ _ _ h => h.elim) ?_
    (fun x => { tmps := #[treeV t n, .pointer (some ⟨g1, 0, none⟩), .pointer (some ⟨g5, 0, none⟩), .int .i64 x.1, .int .i64 x.2, treeV t n, .func (.func 72) #[] #[.pointer (some ⟨a1, 0, none⟩), .pointer (some ⟨a2, 0, none⟩), .pointer (some ⟨a3, 0, none⟩)], .int .i64 x.1, .int .i64 x.2, undef, undef, undef, undef, undef, undef, undef], defers := [] }) ?_ ?_ ?_ ?_
  · rintro pre K1 W K2 W' ⟨s, v, o, r, hne, hv⟩ he
    exact ⟨s.ex he hsz, v, o.ex he, r.ex he, hne, hv⟩
  · exact ⟨s, _, o5, Row.nil _ _ _ _ _, by rintro ⟨⟩, _, _, _, rfl⟩
  · intro l x W N hN
    refine wpIn_seq (region_round (by rintro ⟨_, _, h⟩; exact h) rfl ?_)
    simp only [encP, List.size_toArray, List.length_cons, List.length_nil]
    go_wp2
    refine region_round (by rintro ⟨_, _, h⟩; exact h) rfl ?_
    go_wp2
    exact hN
  · rintro l D r pre x rest K1 W hx hE1 ⟨s, v, o, rw, hne, va, vn, vc, rfl⟩ hl hD hlD hl0 hD0
    obtain ⟨xb, xc⟩ := x
    have hlen : pre.length + 1 ≤ 100000 := by have h := congrArg List.length hx; simp at h; omega
    have hlg := o.ne_of hl (not_plain_loop _)
    have hDg := o.ne_of hD (not_plain_def _)
    have hlr := rw.ne_of hl (not_plain_loop _)
    have hDr := rw.ne_of hD (not_plain_def _)
    refine wpIn_block (region_round (by rintro ⟨_, _, h⟩; exact h) rfl ?_)
    go_wp2_with (first
      | ((with_reducible refine gate_load (T := 31) (x := .tmp 2) ?_); refine wpList_loadCell rfl rfl rfl Tryd.underlying31 rfl o.at_ rfl ?_)
      | ((with_reducible refine gate_buildSlice (T := 31) ?_); refine wpList_buildSlice1 rfl rfl rfl (cs := #[.int .i64 xb, .int .i64 xc]) Tryd.underlying31 infoB_Mapping (by decide) (by decide) (by kernel_rfl) ?_; intro gn W5 e hn; have hnew := hn.here; rw [← e] at hnew; replace s := s.new hn; replace o := o.new hn; replace rw := rw.new hn; replace hl := hn.at hl; replace hD := hn.at hD; clear hn e)
      | ((with_reducible refine gate_append ?_); refine wpList_appendRow rfl rfl Tryd.underlying31 infoB_Mapping rfl (by decide) rfl s rw rfl (news := [.int .i64 xb, .int .i64 xc]) rfl (by simp) (cells_here hnew) (by simp [Value.oneCell']) (by omega) (by decide) ?_; intro v2 W6 r2 gr; have hne2 := o.apart gr hne; replace s := s.grown rw gr; replace o := o.grown gr hne; replace hl := gr.at hl hlr; replace hD := gr.at hD hDr; obtain ⟨a2, n2, c2, rfl⟩ := r2.form; clear gr rw hnew)
      | ((with_reducible refine gate_store (T := 31) ?_); refine wpList_storeAll rfl rfl rfl rfl (cs := #[.slice a2 n2 c2]) rfl o.at_ rfl (by kernel_rfl) (by simp [Value.oneCell']) ?_; intro W7 hu; replace s := s.upd o hu; replace r2 := r2.upd hu hne2; replace o := o.upd hu; replace hl := hu.at hl hlg; replace hD := hu.at hD hDg; clear hu)
      | fail)
    refine ⟨⟨K1, Ext.refl _, s, _, o, ?_, hne2, _, _, _, rfl⟩, hl, hD⟩
    simpa [List.flatMap_append, encE] using r2
  · rintro D K1 W hD hE2 ⟨s, v, o, rw, hne, va, vn, vc, rfl⟩ hd
    have hDg := o.ne_of hd (not_plain_def _)
    simp only [Exit.inBlock, Exit.then]
    refine wpIn_seq (wpIn_wide.2 ?_)
    go_wp2_with (first
      | ((with_reducible refine gate_load (T := 31) (x := .tmp 2) ?_); refine wpList_loadCell rfl rfl rfl Tryd.underlying31 rfl o.at_ rfl ?_)
      | ((with_reducible refine gate_store (T := 31) ?_); refine wpList_storeAll rfl rfl rfl rfl (cs := #[.slice va vn vc]) rfl o.at_ rfl (by kernel_rfl) (by simp [Value.oneCell']) ?_; intro W7 hu; replace s := s.upd o hu; replace rw := rw.upd hu hne; replace o := o.upd hu; replace hd := hu.at hd hDg; clear hu)
      | fail)
    refine wpIn_ret ?_
    refine ⟨by simp, .inl ⟨_, _, rfl, run_takeDeferred hd, ?_⟩⟩
    have hfl := rw.flatS
    obtain ⟨K3, s3, hE3, hS, hK3⟩ := rw.fix s (enc := encE) (fun _ => rfl) rfl rfl
    have o3 := o.fixed hK3 hne
    have he := Ex.of_put (B := W4.heap.size) (o' := .deferred none) s3.inn hD hd (not_plain_def _)
    have s4 := s3.ex he hsz
    have o4 := o3.ex he
    refine ⟨_, results_cell1 rfl _ _ g5 _ _ _ _ (.slice va vn vc) rfl o4.at_ Tryd.underlying31 rfl rfl, ?_⟩
    exact s4.ret ⟨hS, hfl⟩
  · intro D c K1 W _ h
    exact h.elim

theorem inB_filter {L : Ents} (h : InB L) : L.filter (inR 0 4096) = L := by
  rw [List.filter_eq_self]
  intro x hx
  have := h x hx
  simp [inR]
  omega
theorem mappings_ok (t : PT) (n : Int) (L : Ents) (K : Fz) (w : World) (hK : K.In w) (ht : Tr 122 K t) (hR : Rep t n L) :
    Calls Tryd.prog 26 #[treeV t n] w (Ret K w fun K' v => SlK K' 2 encE v L ∧ FlatS v) := by
  have e : walkTo 2 t 0 0 4096 16 = L := by
    rw [walkPart_walks, hR.walks, inB_filter hR.inb]
  have hlen := hR.len_le
  have := mappings_walk t n K w hK ht (by rw [e]; omega)
  rw [e] at this
  exact this
end Go.Proofs.YtdaagmhkhfcmdaaDoor
/- Content, Image, Volumes and Snaps. Written by gen_VolY.py. -/
namespace Go.Proofs.YtdaagmhkhfcmdaaDoor
open Go Go.RowKit
set_option maxHeartbeats 400000

/-- What Content and Image say: the mappings, or none and the error. -/
def contE (o : Option AP) : Ents × Int := match o with
  | some a => (a.L, 0)
  | none => ([], 12)
def Asp.content (A : Asp) (x : Int) : Ents × Int := contE (lk AP.id A.vs x)
def Asp.image (A : Asp) (x : Int) : Ents × Int := contE (lk AP.id A.ss x)
def ContR (r : Ents × Int) (K' : Fz) (u : Value) : Prop := ∃ v', u = .tuple #[v', .int .i64 r.2] ∧ SlK K' 2 encE v' r.1 ∧ FlatS v'

set_option maxRecDepth 100000 in
theorem Content_ok (K : Fz) (v : Value) (A : Asp) (x : Int) (w : World) (hK : K.In w) (hS : SpA K v A) (hG : Good A) :
    Calls Tryd.prog 8 #[v, .int .i64 x] w (Ret K w (ContR (A.content x))) := by
  obtain ⟨S, hSp, e1, e2, hR1, hR2⟩ := hS
  obtain rfl := Asp.eq_mk e1 e2
  clear e1 e2
  have hlen : S.vs.length ≤ 1000000 := by have := hG.v.len; simp only [List.length_map] at this; omega
  obtain ⟨g, T, sv, ss, rfl, hb, h1, h2, h3, h4, f1, f2⟩ := hSp
  have s := St.start hK
  have Hat := Lib.hid fun W (hW : K.In W) => vAt_ok K sv S.vs x W hW h1 hlen
  have hle := ixN_le Vol.id S.vs x
  have hix : ixN AP.id (S.vs.map Vol.abs) x = ixN Vol.id S.vs x := ixN_map _ _ _ _
  obtain ⟨n, hn⟩ : ∃ n, ixN Vol.id S.vs x = n := ⟨_, rfl⟩
  rw [hn] at hle hix
  obtain ⟨a, cap, rfl, hcap, hx⟩ := h1
  by_cases hlt : n < S.vs.length
  · have hv : Hid (ixV Vol.id S.vs x = (n : Int)) := Lib.hid (by rw [ixV, hn, if_pos hlt])
    obtain ⟨y, hyn⟩ : ∃ y, S.vs[n]? = some y := ⟨_, List.getElem?_eq_getElem hlt⟩
    have hres : Hid (Asp.content ⟨S.vs.map Vol.abs, S.ss.map Snp.abs⟩ x = (y.L, 0)) := Lib.hid (by
      show contE ((S.vs.map Vol.abs)[ixN AP.id (S.vs.map Vol.abs) x]?) = _
      rw [hix, List.getElem?_map, hyn]
      rfl)
    obtain ⟨b, off, cs, ty, fr, rfl, hkb, hj⟩ := hx n y hyn
    have Hj : Hid (∀ (j : Nat) (u : Value), [Value.pointer y.t.ptr, .int .i64 y.n][j]? = some u → cs[off + n * 4 + 2 + j]? = some u) := Lib.hid (by
      intro j u hu
      have := hj (j + 2) u (by
        rcases j with _ | _ | j
        · exact hu
        · exact hu
        · simp at hu)
      rw [← this]
      congr 1
      omega)
    have hTy := h3 _ (List.mem_of_getElem? hyn)
    have hRy := hR1 _ (List.mem_of_getElem? hyn)
    clear hj hyn hx h2 h3 h4 hn hix f1 f2 hR1 hR2
    go_enter Tryd.func8, Tryd.ntmps8
    go_wp2_with (first
      | ((with_reducible refine gate_load (T := 47) ?_); refine wpList_loadCell rfl rfl rfl Tryd.underlying47 rfl (s.inn.get hb) rfl ?_)
      | (go_at_call 27; refine (Hat.out _ s.inn).mono ?_; rw [hv.out]; rintro e W4 ⟨rfl, hb4⟩; replace s := s.quiet hb4; clear hb4)
      | ((with_reducible refine gate_load (T := 60) ?_); refine wpList_loadAgg (vs := [.pointer y.t.ptr, .int .i64 y.n]) (off := off + n * 4 + 2) rfl rfl rfl Tryd.underlying60 rfl (s.inn.get hkb) (by rw [size_Tree]; rfl) (fun j u hu => Hj.out j u hu) ?_)
      | (go_at_call 26; refine (mappings_ok y.t y.n y.L K _ s.inn hTy hRy).mono ?_; rintro e W5 ⟨u, K2, rfl, hi, hl, hb5, hS5, hF5⟩; replace s := s.call hi hl hb5; clear hi hl hb5)
      | fail)
    go_ret2
    rw [hres.out]
    exact s.ret ⟨u, rfl, hS5, hF5⟩
  · have hv : Hid (ixV Vol.id S.vs x = -1) := Lib.hid (by rw [ixV, hn, if_neg hlt])
    have hres : Hid (Asp.content ⟨S.vs.map Vol.abs, S.ss.map Snp.abs⟩ x = ([], 12)) := Lib.hid (by
      show contE ((S.vs.map Vol.abs)[ixN AP.id (S.vs.map Vol.abs) x]?) = _
      rw [hix, List.getElem?_eq_none (by rw [List.length_map]; omega)]
      rfl)
    clear hx h2 h3 h4 hn hix f1 f2 hR1 hR2
    go_enter Tryd.func8, Tryd.ntmps8
    go_wp2_with (first
      | ((with_reducible refine gate_load (T := 47) ?_); refine wpList_loadCell rfl rfl rfl Tryd.underlying47 rfl (s.inn.get hb) rfl ?_)
      | (go_at_call 27; refine (Hat.out _ s.inn).mono ?_; rw [hv.out]; rintro e W4 ⟨rfl, hb4⟩; replace s := s.quiet hb4; clear hb4)
      | fail)
    go_ret2
    rw [hres.out]
    exact s.ret ⟨_, rfl, SlK.nil _ _ _ _ _, FlatS.nil _ _⟩

set_option maxRecDepth 100000 in
theorem Image_ok (K : Fz) (v : Value) (A : Asp) (x : Int) (w : World) (hK : K.In w) (hS : SpA K v A) (hG : Good A) :
    Calls Tryd.prog 7 #[v, .int .i64 x] w (Ret K w (ContR (A.image x))) := by
  obtain ⟨S, hSp, e1, e2, hR1, hR2⟩ := hS
  obtain rfl := Asp.eq_mk e1 e2
  clear e1 e2
  have hlen : S.ss.length ≤ 1000000 := by have := hG.s.len; simp only [List.length_map] at this; omega
  obtain ⟨g, T, sv, ss, rfl, hb, h1, h2, h3, h4, f1, f2⟩ := hSp
  have s := St.start hK
  have Hat := Lib.hid fun W (hW : K.In W) => sAt_ok K ss S.ss x W hW h2 hlen
  have hle := ixN_le Snp.num S.ss x
  have hix : ixN AP.id (S.ss.map Snp.abs) x = ixN Snp.num S.ss x := ixN_map _ _ _ _
  obtain ⟨n, hn⟩ : ∃ n, ixN Snp.num S.ss x = n := ⟨_, rfl⟩
  rw [hn] at hle hix
  obtain ⟨a, cap, rfl, hcap, hx⟩ := h2
  by_cases hlt : n < S.ss.length
  · have hv : Hid (ixV Snp.num S.ss x = (n : Int)) := Lib.hid (by rw [ixV, hn, if_pos hlt])
    obtain ⟨y, hyn⟩ : ∃ y, S.ss[n]? = some y := ⟨_, List.getElem?_eq_getElem hlt⟩
    have hres : Hid (Asp.image ⟨S.vs.map Vol.abs, S.ss.map Snp.abs⟩ x = (y.L, 0)) := Lib.hid (by
      show contE ((S.ss.map Snp.abs)[ixN AP.id (S.ss.map Snp.abs) x]?) = _
      rw [hix, List.getElem?_map, hyn]
      rfl)
    obtain ⟨b, off, cs, ty, fr, rfl, hkb, hj⟩ := hx n y hyn
    have Hj : Hid (∀ (j : Nat) (u : Value), [Value.pointer y.t.ptr, .int .i64 y.n][j]? = some u → cs[off + n * 5 + 2 + j]? = some u) := Lib.hid (by
      intro j u hu
      have := hj (j + 2) u (by
        rcases j with _ | _ | j
        · exact hu
        · exact hu
        · simp at hu)
      rw [← this]
      congr 1
      omega)
    have hTy := h4 _ (List.mem_of_getElem? hyn)
    have hRy := hR2 _ (List.mem_of_getElem? hyn)
    clear hj hyn hx h1 h3 h4 hn hix f1 f2 hR1 hR2
    go_enter Tryd.func7, Tryd.ntmps7
    go_wp2_with (first
      | ((with_reducible refine gate_load (T := 48) ?_); refine wpList_loadCell rfl rfl rfl Tryd.underlying48 rfl (s.inn.get hb) rfl ?_)
      | (go_at_call 25; refine (Hat.out _ s.inn).mono ?_; rw [hv.out]; rintro e W4 ⟨rfl, hb4⟩; replace s := s.quiet hb4; clear hb4)
      | ((with_reducible refine gate_load (T := 60) ?_); refine wpList_loadAgg (vs := [.pointer y.t.ptr, .int .i64 y.n]) (off := off + n * 5 + 2) rfl rfl rfl Tryd.underlying60 rfl (s.inn.get hkb) (by rw [size_Tree]; rfl) (fun j u hu => Hj.out j u hu) ?_)
      | (go_at_call 26; refine (mappings_ok y.t y.n y.L K _ s.inn hTy hRy).mono ?_; rintro e W5 ⟨u, K2, rfl, hi, hl, hb5, hS5, hF5⟩; replace s := s.call hi hl hb5; clear hi hl hb5)
      | fail)
    go_ret2
    rw [hres.out]
    exact s.ret ⟨u, rfl, hS5, hF5⟩
  · have hv : Hid (ixV Snp.num S.ss x = -1) := Lib.hid (by rw [ixV, hn, if_neg hlt])
    have hres : Hid (Asp.image ⟨S.vs.map Vol.abs, S.ss.map Snp.abs⟩ x = ([], 12)) := Lib.hid (by
      show contE ((S.ss.map Snp.abs)[ixN AP.id (S.ss.map Snp.abs) x]?) = _
      rw [hix, List.getElem?_eq_none (by rw [List.length_map]; omega)]
      rfl)
    clear hx h1 h3 h4 hn hix f1 f2 hR1 hR2
    go_enter Tryd.func7, Tryd.ntmps7
    go_wp2_with (first
      | ((with_reducible refine gate_load (T := 48) ?_); refine wpList_loadCell rfl rfl rfl Tryd.underlying48 rfl (s.inn.get hb) rfl ?_)
      | (go_at_call 25; refine (Hat.out _ s.inn).mono ?_; rw [hv.out]; rintro e W4 ⟨rfl, hb4⟩; replace s := s.quiet hb4; clear hb4)
      | fail)
    go_ret2
    rw [hres.out]
    exact s.ret ⟨_, rfl, SlK.nil _ _ _ _ _, FlatS.nil _ _⟩

theorem two_of5 {a b c d f : Value} (j : Nat) (u : Value) (hu : [c, d][j]? = some u) : (#[a, b, c, d, f] : Array Value)[2 + j]? = some u := by
  match j, hu with
  | 0, hu => exact hu
  | 1, hu => exact hu
  | j + 2, hu => simp at hu
/-- A block is made and frozen; a box and a row stay. -/
theorem box_new {K0 K : Fz} {w W W5 : World} {g gn t e sz n : Nat} {o : Obj} {cs : Array Value} {v : Value} {xs : List Value} (s : St K0 w K W) (eg : gn = W.heap.size) (hn : New W (.cells cs t) W5) (ow : Own w K W g o) (r : Row w K W e sz v n xs) :
    ∃ K5, Ext K K5 ∧ St K0 w K5 W5 ∧ K5 gn = some (.cells cs t (0, 0)) ∧ Own w K5 W5 g o ∧ Row w K5 W5 e sz v n xs := by
  have o2 := Own.made s eg hn
  refine ⟨_, fun b o' hb => ?_, (s.new hn).freeze o2, Fz.add_self _ _ _, (ow.new hn).freeze (ow.ne eg), (r.new hn).freeze (r.ne eg)⟩
  rw [Fz.add_other _ _ (by rintro rfl; rw [o2.none_] at hb; cases hb)]; exact hb

/-- What Volumes says of a volume. -/
def encAV (y : Vol) : List Value := match y with
  | ⟨yi, yt, yp, yn, yL⟩ => [.int .i64 yi, .int .i64 yt, .int .i64 yn]
theorem encAV_len (y : Vol) : (encAV y).length = 3 := by cases y; rfl
theorem infoB_AVol : (Tryd.prog.info? 74).map (fun i => (i.zero, i.size, i.bytes)) = some (some (.agg #[.int .i64 0, .int .i64 0, .int .i64 0]), 3, 24) := by kernel_rfl
set_option maxRecDepth 100000 in
set_option maxHeartbeats 2000000 in
theorem Volumes_walk (K : Fz) (v : Value) (S : Spc) (w : World) (hK : K.In w) (hSp : SpK K v S) (hlen : S.vs.length ≤ 100000) :
    Calls Tryd.prog 28 #[v] w (Ret K w fun K' u => SlK K' 3 encAV u S.vs ∧ FlatS u) := by
  obtain ⟨g, T, sv, ss, rfl, hb, h1, h2, h3, h4, f1, f2⟩ := hSp
  have s := St.start hK
  obtain ⟨a, cap, rfl, hcap, hx⟩ := h1
  have Hx := Lib.hid hx
  clear hx h2 h3 h4 f1 f2
  go_enter Tryd.func28, Tryd.ntmps28
  go_wp2_with (first
    | ((with_reducible refine gate_load (T := 47) ?_); refine wpList_loadCell rfl rfl rfl Tryd.underlying47 rfl (s.inn.get hb) rfl ?_)
    | fail)
  go_loopw [2, 10] (fun u vi wr => ∃ (i : Nat) (K1 : Fz), i ≤ S.vs.length ∧ vi = .int .i64 i ∧ St K w K1 wr ∧ Row w K1 wr 74 3 u i ((S.vs.take i).flatMap encAV)) (fun _ vi _ => S.vs.length - (intOf vi).toNat)
  case atStart => exact ⟨0, K, by omega, rfl, s, Row.nil _ _ _ _ _⟩
  case round =>
    clear s
    obtain ⟨i, K1, hi, rfl, s, rw1⟩ := hrel
    obtain ⟨va, vn, vc, rfl⟩ := rw1.form
    by_cases hlt : i < S.vs.length
    · obtain ⟨y, hyn⟩ : ∃ y, S.vs[i]? = some y := ⟨_, List.getElem?_eq_getElem hlt⟩
      obtain ⟨yi, yt, yp, yn, yL⟩ := y
      obtain ⟨b, off, cs, ty, fr, rfl, hkb, hj⟩ := Hx.out i _ hyn
      have Hj : Hid (∀ (j : Nat) (u : Value), ([.int .i64 yi, .int .i64 yt, .pointer yp.ptr, .int .i64 yn] : List Value)[j]? = some u → cs[off + i * 4 + j]? = some u) := Lib.hid hj
      have Hyn := Lib.hid hyn
      replace hkb := (Ext.of_st hK s) _ _ hkb
      clear hj hyn
      go_wp2_with (first
        | ((with_reducible refine gate_load (T := 68) (x := .tmp 12) ?_); refine wpList_loadAgg (vs := [.int .i64 yi, .int .i64 yt, .pointer yp.ptr, .int .i64 yn]) (off := off + i * 4) rfl rfl rfl Tryd.underlying68 rfl (s.inn.get hkb) (by rw [size_Vol]; rfl) (fun j u hu => Hj.out j u hu) ?_)
        | ((with_reducible refine gate_alloc (T := 68) ?_); refine wpList_allocG rfl rfl zero_Vol (cs := #[.int .i64 0, .int .i64 0, .pointer none, .int .i64 0]) rfl ?_; intro g1 W1 e hn; have o1 := Own.made s e hn; replace s := s.new hn; have hne1 := rw1.ne e; replace rw1 := rw1.new hn; clear e hn)
        | ((with_reducible refine gate_store (T := 68) ?_); refine wpList_storeAll rfl rfl rfl rfl (cs := #[.int .i64 yi, .int .i64 yt, .pointer yp.ptr, .int .i64 yn]) rfl o1.at_ rfl (by rw [size_Vol]; rfl) (by simp [Value.oneCell']) ?_; intro W3 hu; replace s := s.upd o1 hu; replace rw1 := rw1.upd hu hne1; replace o1 := o1.upd hu; clear hu)
        | fail)
      refine wp_region_run (m := 13) (n := 30) (I := fun K2 W2 => (St K w K2 W2 ∧ Own w K2 W2 g1 (.cells #[.int .i64 yi, .int .i64 yt, .pointer yp.ptr, .int .i64 yn] 68 (0, 0))) ∧ Row w K2 W2 74 3 (.slice va vn vc) i ((S.vs.take i).flatMap encAV)) (K0 := K1)
        (ws := [.is (.slice va vn vc), .is (.pointer (some ⟨g1, 0, none⟩)), .is (.pointer (some ⟨g1, 0, none⟩)), .is (.int .i64 yi), .is (.pointer (some ⟨g1, 0, none⟩)), .is (.pointer (some ⟨g1, 1, none⟩)), .is (.int .i64 yt), .is (.pointer (some ⟨g1, 0, none⟩)), .is (.pointer (some ⟨g1, 2, none⟩)), .is (.agg #[.pointer yp.ptr, .int .i64 yn]), .is (.int .i64 yn), .is (.agg #[.int .i64 yi, .int .i64 yt, .int .i64 yn]), .sat (fun K v => ∃ gn, v = .slice (some ⟨gn, 0, none⟩) 1 1 ∧ K gn = some (.cells #[.int .i64 yi, .int .i64 yt, .int .i64 yn] 74 (0, 0)))])
        mixed_ok (by kernel_rfl) rfl rfl ?monoc ⟨⟨s.drew, o1.drew⟩, rw1.drew⟩ ?_
      case monoc =>
        simp only [List.forall_mem_cons]
        exact ⟨trivial, trivial, trivial, trivial, trivial, trivial, trivial, trivial, trivial, trivial, trivial, trivial, fun _ _ _ hE h => by obtain ⟨gn, h1, h2⟩ := h; exact ⟨gn, h1, hE _ _ h2⟩, fun _ h => by cases h⟩
      apply RunAll.is_
      · intro K3 W3 hE3 hI3 hF3
        go_wp2
        exact step_end ⟨⟨K3, Ext.refl _, hI3⟩, rfl⟩
      · rfl
      apply RunAll.is_
      · intro K3 W3 hE3 hI3 hF3
        go_wp2
        exact step_end ⟨⟨K3, Ext.refl _, hI3⟩, rfl⟩
      · rfl
      apply RunAll.is_
      · intro K3 W3 hE3 hI3 hF3
        go_wp2
        exact step_end ⟨⟨K3, Ext.refl _, hI3⟩, rfl⟩
      · rfl
      apply RunAll.is_
      · intro K3 W3 hE3 hI3 hF3
        go_wp2_with (first | ((with_reducible refine gate_load (T := 3) ?_); refine wpList_loadCell rfl rfl rfl Tryd.underlying3 rfl hI3.1.2.at_ rfl ?_) | fail)
        exact step_end ⟨⟨K3, Ext.refl _, hI3⟩, rfl⟩
      · rfl
      apply RunAll.is_
      · intro K3 W3 hE3 hI3 hF3
        go_wp2
        exact step_end ⟨⟨K3, Ext.refl _, hI3⟩, rfl⟩
      · rfl
      apply RunAll.is_
      · intro K3 W3 hE3 hI3 hF3
        go_wp2
        exact step_end ⟨⟨K3, Ext.refl _, hI3⟩, rfl⟩
      · rfl
      apply RunAll.is_
      · intro K3 W3 hE3 hI3 hF3
        go_wp2_with (first | ((with_reducible refine gate_load (T := 3) ?_); refine wpList_loadCell rfl rfl rfl Tryd.underlying3 rfl hI3.1.2.at_ rfl ?_) | fail)
        exact step_end ⟨⟨K3, Ext.refl _, hI3⟩, rfl⟩
      · rfl
      apply RunAll.is_
      · intro K3 W3 hE3 hI3 hF3
        go_wp2
        exact step_end ⟨⟨K3, Ext.refl _, hI3⟩, rfl⟩
      · rfl
      apply RunAll.is_
      · intro K3 W3 hE3 hI3 hF3
        go_wp2
        exact step_end ⟨⟨K3, Ext.refl _, hI3⟩, rfl⟩
      · rfl
      apply RunAll.is_
      · intro K3 W3 hE3 hI3 hF3
        go_wp2_with (first | ((with_reducible refine gate_load (T := 60) ?_); refine wpList_loadAgg (vs := [.pointer yp.ptr, .int .i64 yn]) (off := 2) rfl rfl rfl Tryd.underlying60 rfl hI3.1.2.at_ (by rw [size_Tree]; rfl) (fun j u hu => two_of4 j u hu) ?_) | fail)
        exact step_end ⟨⟨K3, Ext.refl _, hI3⟩, rfl⟩
      · rfl
      apply RunAll.is_
      · intro K3 W3 hE3 hI3 hF3
        go_wp2_with (first | (go_at_call 54; refine (len_ok _ _ _).mono ?_; rintro e W4 ⟨rfl, hb4⟩) | fail)
        exact step_end ⟨⟨K3, Ext.refl _, ⟨hI3.1.1.quiet hb4, hI3.1.2.quiet hb4⟩, hI3.2.quiet hb4⟩, rfl⟩
      · rfl
      apply RunAll.is_
      · intro K3 W3 hE3 hI3 hF3
        go_wp2
        exact step_end ⟨⟨K3, Ext.refl _, hI3⟩, rfl⟩
      · rfl
      apply RunAll.sat_
      · intro K3 W3 hE3 hI3 hF3
        go_wp2_with (first | ((with_reducible refine gate_buildSlice (T := 71) ?_); refine wpList_buildSlice1 rfl rfl rfl (cs := #[.int .i64 yi, .int .i64 yt, .int .i64 yn]) Tryd.underlying71 infoB_AVol (by decide) (by decide) (by kernel_rfl) ?_; intro gn W5 eg hn; obtain ⟨K5, hE5, s5, hk5, o5, r5⟩ := box_new hI3.1.1 eg hn hI3.1.2 hI3.2; clear eg hn) | fail)
        generalize hgv : Value.slice (some ⟨gn, 0, none⟩) 1 1 = v10
        exact step_end ⟨v10, K5, hE5, ⟨⟨s5, o5⟩, r5⟩, rfl, gn, hgv.symm, hk5⟩
      · intro v; rfl
      intro v12
      intro K5 W5 hE5 hI5 hF5
      obtain ⟨gn, rfl, hk5⟩ := hF5.2
      have s5 := hI5.1.1
      have rw5 := hI5.2
      have hnew := s5.inn.get hk5
      change wpList _ _ _ (List.cons _ _) _ _
      go_wp2_with (first
        | ((with_reducible refine gate_append ?_); refine wpList_appendRow rfl rfl Tryd.underlying71 infoB_AVol rfl (by decide) rfl s5 rw5 rfl (news := [.int .i64 yi, .int .i64 yt, .int .i64 yn]) rfl (by simp) (cells_here hnew) (by simp [Value.oneCell']) (by omega) (by decide) ?_; intro v2 W6 r2 gr; replace s5 := s5.grown rw5 gr; clear gr rw5 hnew)
        | fail)
      go_roundw
      case rel =>
        refine ⟨i + 1, K5, by omega, by go_num, s5, ?_⟩
        rw [List.take_add_one, Hyn.out, List.flatMap_append]
        exact r2
      case measure => simp [intOf]; omega
    · obtain rfl : i = S.vs.length := by omega
      go_wp2
      go_ret
      have hfl := rw1.flatS
      rw [List.take_length] at rw1
      obtain ⟨K3, s3, hE3, hS3, _⟩ := Row.fix s rw1 encAV_len rfl rfl
      exact s3.ret ⟨hS3, hfl⟩

end Go.Proofs.YtdaagmhkhfcmdaaDoor
