/- What the law package's yields answers. -/
import Derived.Test.YtpfdlpniijgakaaDoorYieldsA
namespace Go.Proofs.YtpfdlpniijgakaaDoor
open Go Go.RowKit
set_option maxHeartbeats 400000

theorem run_cell_bool {fn : Func} {p : Tmp} (h : fn.results = #[.cell p 4]) (tmps : Array Value) (w : World) (g : Nat) (b : Bool) (hp : tmps.getD p undef = .pointer (some ⟨g, 0, none⟩)) (hg : w.heap[g]? = some (.cells #[.bool b] 4 (0, 0))) :
    (results fn tmps).run Tryd.prog w = .ok (.bool b) w := by
  have hp' : tmps[p]?.getD undef = .pointer (some ⟨g, 0, none⟩) := by simpa using hp
  have hcell : w.cell? ⟨g, 0, none⟩ = some (.bool b) := cell_of_row w g 0 _ _ _ hg
  have hagg : (isAgg 4).run Tryd.prog w = .ok false w := by
    unfold isAgg
    rw [Sem.run_bind, run_underlying Tryd.underlying4 w]
    rfl
  simp [results, h, hp', asAddr, loadVar, Sem.run_bind, hagg, run_load, hcell]

theorem run_eql_func_nil (w : World) (f : Nat) (lb : Array Value) : (binOp .eql 78 (.func (.func f) #[] lb) Value.nilFunc).run Tryd.prog w = .ok (.bool false) w := by kernel_rfl

set_option maxRecDepth 100000 in
set_option maxHeartbeats 32000000 in
theorem yields_false_ok (t : PT) (n : Int) (f u : Int) (wv : Value) (E : Ents) (nn : Int) (K : Fz) (w : World) (hK : K.In w) (hT : Tr 76 K t) (hS : SlK K 2 encE wv E) (hEl : E.length ≤ 1000000)
    (hE : E = walkTo 2 t 0 f u 16) :
    Calls Tryd.prog 24 #[treeV t n, .bool false, .int .i64 f, .int .i64 u, wv, .int .i64 nn] w fun e w' => e = .returned (.bool true) ∧ Below w.heap.size w w' := by
  have HS := Lib.hid hS
  have HE := Lib.hid hE
  obtain ⟨aw, cw, rfl, hcw, hxw⟩ := hS
  have Hxw := Lib.hid hxw
  clear hxw hE
  have s := St.start hK
  refine callsIn_wide.1 (callsIn_of_wp_marks (n := 0) Tryd.func24 rfl trivial ?_)
  simp only [Tryd.ntmps24, List.size_toArray, List.length_cons, List.length_nil, Nat.reduceAdd, Nat.reduceSub, Array.replicate_succ, Array.replicate_zero, List.push_toArray, List.append_toArray, List.nil_append, List.cons_append]
  refine wpIn_seq (wpIn_wide.2 ?_)
  go_wp2_with (first
    | ((with_reducible refine gate_box (T := 31) ?_); refine wpList_boxG rfl rfl rfl (cs := #[.pointer t.ptr, .int .i64 n]) rfl ?_; intro g6 W1 e hn; obtain ⟨K1, hE1, s1, hk6, _, _⟩ := s.box e hn; replace s := s1; clear s1 e hn)
    | ((with_reducible refine gate_box (T := 33) ?_); refine wpList_boxG rfl rfl rfl (cs := #[.slice aw E.length cw]) rfl ?_; intro g10 W2 e hn; obtain ⟨K2, hE2, s2, hk10, _, _⟩ := s.box e hn; replace s := s2; clear s2 e hn)
    | ((with_reducible refine gate_box (T := 3) ?_); refine wpList_boxG rfl rfl rfl (cs := #[.int .i64 nn]) rfl ?_; intro g11 W3 e hn; obtain ⟨K3, hE3, s3, hk11, _, _⟩ := s.box e hn; replace s := s3; clear s3 e hn)
    | ((with_reducible refine gate_alloc (T := 4) ?_); refine wpList_allocG rfl rfl (fun _ => zero_bool) (cs := #[.bool false]) rfl ?_; intro g12 W4 e hn; have o12 := Own.made s e hn; replace s := s.new hn; clear e hn)
    | fail)
  replace hk6 := hE3 _ _ (hE2 _ _ hk6)
  replace hk10 := hE3 _ _ hk10
  have hE03 := (hE1.trans hE2).trans hE3
  replace hT := hT.ext hE03
  clear hE1 hE2 hE3
  refine wpIn_seq (wpIn_wide.2 ?_)
  go_wp2_with (first
    | ((with_reducible refine gate_load (T := 31) ?_); refine wpList_load_row rfl 31 _ rfl _ rfl 31 _ _ _ (s.inn.get hk6) Tryd.underlying31 rfl (by rw [size_Tree]; rfl) ?_)
    | (go_at_call 38; refine (Range_ok t n f u K3 _ s.inn).mono ?_; rintro e W5 ⟨v5, K5, rfl, hi, hl, hb, ⟨g1, g2, g3, rfl, hg1, hg2, hg3⟩, hE5⟩; replace s := s.call hi hl hb; replace o12 := o12.call hl hb; clear hi hl hb)
    | fail)
  refine wpIn_seq (wpIn_wide.2 ?_)
  go_wp2
  obtain ⟨K6, hK65⟩ : ∃ K6, K6 = K5 := ⟨_, rfl⟩
  rw [← hK65] at s o12 hg1 hg2 hg3
  replace hk10 := (hK65.symm ▸ hE5) _ _ hk10
  replace hk11 := (hK65.symm ▸ hE5) _ _ hk11
  replace hT := hT.ext (hK65.symm ▸ hE5)
  have hE06 : Ext K K6 := hK65.symm ▸ hE03.trans hE5
  clear hK65 hE5 hE03
  have hnil := run_eql_func_nil (W5) 43 #[.pointer (some ⟨g1, 0, none⟩), .pointer (some ⟨g2, 0, none⟩), .pointer (some ⟨g3, 0, none⟩)]
  refine wpIn_seq (wpIn_wide.2 ?_)
  go_wp2
  clear hnil
  refine wpIn_seq (wpIn_seq (wpIn_wide.2 ?_))
  go_wp2_with (first
    | ((with_reducible refine gate_alloc (T := 3) ?_); refine wpList_allocG rfl rfl zero_int (cs := #[.int .i64 0]) rfl ?_; intro g14 W8 e hn; have o14 := Own.made s e hn; have n12_14 := Lib.hid (o12.ne e); replace s := s.new hn; replace o12 := o12.new hn; clear e hn)
    | ((with_reducible refine gate_store (T := 3) ?_); refine wpList_storeAll rfl rfl rfl rfl (cs := #[.int .i64 0]) rfl o14.at_ rfl (by rw [size_int]; rfl) (by simp [Value.oneCell']) ?_; intro W9 hu; replace s := s.upd o14 hu; replace o12 := o12.other hu n12_14.out; replace o14 := o14.upd hu; clear hu)
    | fail)
  obtain ⟨K7, hE7, s7, hk14, hfr⟩ := s.shut' o14
  replace o12 := hfr _ _ o12 n12_14.out
  have hit := Range1_ok t n f u K6 g1 g2 g3 hT hg1 hg2 hg3
  rw [← HE.out] at hit
  replace hit := hit.ext hE7
  have Hit := Lib.hid hit
  replace hk10 := hE7 _ _ hk10
  replace hk11 := hE7 _ _ hk11
  have hE07 := hE06.trans hE7
  have HEl := Lib.hid hEl
  clear s o14 hfr hE7 hE06 hg1 hg2 hg3 hit hk6 n12_14
  refine wpIn_block (wpIn_loop_rounds 3 ?_)
  rw [roundsIn_succ]
  refine wpIn_seq (wpIn_wide.2 ?_)
  go_wp2_with (first
    | ((with_reducible refine gate_load (T := 3) ?_); refine wpList_loadCellW rfl rfl rfl Tryd.underlying3 rfl (s7.inn.get hk14) rfl ?_)
    | fail)
  refine wpIn_seq (wpIn_block (wpIn_seq (wpIn_wide.2 ?_)))
  go_wp2_with (first
    | ((with_reducible refine gate_alloc (T := 3) ?_); refine wpList_allocG rfl rfl zero_int (cs := #[.int .i64 0]) rfl ?_; intro g15 Wa e hn; have o15 := Own.made s7 e hn; have n12_15 := Lib.hid (o12.ne e); replace s7 := s7.new hn; replace o12 := o12.new hn; clear e hn)
    | ((with_reducible refine gate_store (T := 3) ?_); refine wpList_storeAll rfl rfl rfl rfl (cs := #[.int .i64 0]) rfl o15.at_ rfl (by rw [size_int]; rfl) (by simp [Value.oneCell']) ?_; intro Wb hu; replace s7 := s7.upd o15 hu; replace o12 := o12.other hu n12_15.out; replace o15 := o15.upd hu; clear hu)
    | fail)
  refine wpIn_seq (wpIn_seq (wpIn_wide.2 ?_))
  go_wp2
  refine wpIn_block ?_
  have hB := s7.size
  refine range_ok (gf := 43) (lb := #[.pointer (some ⟨g1, 0, none⟩), .pointer (some ⟨g2, 0, none⟩), .pointer (some ⟨g3, 0, none⟩)]) (K := K7) rfl (by intro args w; rfl) Hit.out (fun x => rfl)
    (YI K w Wb.heap.size g12 g15 []) (YX True nn K7 K w Wb.heap.size g12 g15 []) (fun _ _ _ h => h.1.inn) (fun _ _ _ _ _ h e => h.ex hB e) (fun _ _ _ h => by obtain ⟨_, _, _, _, _, h⟩ := h; exact h.1.inn)
    (fun _ _ _ _ _ h e => by obtain ⟨h1, h2, h5, p, h3, h4⟩ := h; exact ⟨h1, h2, h5.trans (Ext.of_le h4.1.inn e.same), p, h3, h4.ex hB e⟩) ⟨s7, o15, o12, by intro D hD; simp at hD⟩ ?a11 ?assign1 ?body1 ?done1 ?stop1
  case assign1 =>
    intro l x W N hN
    refine wpIn_seq (region_round (by rintro ⟨_, _, h⟩; exact h) rfl ?_)
    simp only [encP, List.size_toArray, List.length_cons, List.length_nil]
    go_wp2
    refine region_round (by rintro ⟨_, _, h⟩; exact h) rfl ?_
    go_wp2
    exact hN
  case body1 =>
    rintro l D r pre x rest K1 W hx hE1 ⟨sB, oB15, oB12, hds⟩ hl hD hlD hl0 hD0
    have hlt : pre.length < E.length := by have h := congrArg List.length hx; simp at h; omega
    have hxe : E[pre.length]? = some x := by rw [← hx]; simp
    have hEl := HEl.out
    obtain ⟨b, off, cs, ty, fr, ea, hkb, hj⟩ := Hxw.out pre.length x hxe
    subst ea
    replace hkb := hE1 _ _ (hE07 _ _ hkb)
    have hk10' := hE1 _ _ hk10
    have hk11' := hE1 _ _ hk11
    have hk14' := hE1 _ _ hk14
    have hlg := oB15.ne_of hl (not_plain_loop _)
    have hDg := oB15.ne_of hD (not_plain_def _)
    have h12 := n12_15
    have Hj := Lib.hid hj
    have Hds := Lib.hid hds
    obtain ⟨x1, x2⟩ := x
    clear hj hxe hds hx
    have oBat := oB15.at_
    have hgB : decide (E.length ≤ pre.length) = false := by simp; omega
    refine wpIn_block (wpIn_seq (wpIn_seq (region_round (by rintro ⟨_, _, h⟩; exact h) rfl ?_)))
    go_wp2_with (first
      | ((with_reducible refine gate_load (T := 3) (x := .tmp 15) ?_); refine wpList_loadCellW rfl rfl rfl Tryd.underlying3 rfl oB15.at_ rfl ?_)
      | ((with_reducible refine gate_load (T := 33) (x := .tmp 10) ?_); refine wpList_loadCellW rfl rfl rfl Tryd.underlying33 rfl (sB.inn.get hk10') rfl ?_)
      | ((with_reducible refine gate_load (T := 3) (x := .tmp 42) ?_); refine wpList_loadCellW rfl rfl rfl Tryd.underlying3 rfl (sB.inn.get hkb) (Hj.out 0 _ rfl) ?_)
      | ((with_reducible refine gate_load (T := 3) (x := .tmp 51) ?_); refine wpList_loadCellW rfl rfl rfl Tryd.underlying3 rfl (sB.inn.get hkb) (Hj.out 1 _ rfl) ?_)
      | ((with_reducible refine gate_load (T := 3) (x := .tmp 14) ?_); refine wpList_loadCellW rfl rfl rfl Tryd.underlying3 rfl (sB.inn.get hk14') rfl ?_)
      | ((with_reducible refine gate_load (T := 3) (x := .tmp 11) ?_); refine wpList_loadCellW rfl rfl rfl Tryd.underlying3 rfl (sB.inn.get hk11') rfl ?_)
      | ((with_reducible refine gate_store (T := 3) ?_); refine wpList_storeAll rfl rfl rfl rfl (cs := #[.int .i64 ((pre.length : Nat) + 1)]) rfl oB15.at_ rfl (by rw [size_int]; rfl) (by simp [Value.oneCell']) ?_; intro Wc hu; replace sB := sB.upd oB15 hu; replace oB12 := oB12.other hu h12.out; replace oB15 := oB15.upd hu; replace hl := hu.at hl hlg; replace hD := hu.at hD hDg; have hds2 : ∀ D ∈ [], D < Wb.heap.size ∧ Wc.heap[D]? = some (.deferred (some [])) := (fun D hD => ⟨(Hds.out D hD).1, hu.at (Hds.out D hD).2 (by rintro rfl; have := (Hds.out _ hD).2; rw [oBat] at this; cases this)⟩); replace hds2 := Lib.hid hds2; clear hu)
      | fail)
    refine wpIn_cond_false rfl (wpIn_skip ?_)
    refine wpIn_seq (region_round (by rintro ⟨_, _, h⟩; exact h) rfl ?_)
    go_wp2_with (first
      | ((with_reducible refine gate_load (T := 3) (x := .tmp 15) ?_); refine wpList_loadCellW rfl rfl rfl Tryd.underlying3 rfl oB15.at_ rfl ?_)
      | ((with_reducible refine gate_load (T := 33) (x := .tmp 10) ?_); refine wpList_loadCellW rfl rfl rfl Tryd.underlying33 rfl (sB.inn.get hk10') rfl ?_)
      | ((with_reducible refine gate_load (T := 3) (x := .tmp 42) ?_); refine wpList_loadCellW rfl rfl rfl Tryd.underlying3 rfl (sB.inn.get hkb) (Hj.out 0 _ rfl) ?_)
      | ((with_reducible refine gate_load (T := 3) (x := .tmp 51) ?_); refine wpList_loadCellW rfl rfl rfl Tryd.underlying3 rfl (sB.inn.get hkb) (Hj.out 1 _ rfl) ?_)
      | ((with_reducible refine gate_load (T := 3) (x := .tmp 14) ?_); refine wpList_loadCellW rfl rfl rfl Tryd.underlying3 rfl (sB.inn.get hk14') rfl ?_)
      | ((with_reducible refine gate_load (T := 3) (x := .tmp 11) ?_); refine wpList_loadCellW rfl rfl rfl Tryd.underlying3 rfl (sB.inn.get hk11') rfl ?_)
      | ((with_reducible refine gate_store (T := 3) ?_); refine wpList_storeAll rfl rfl rfl rfl (cs := #[.int .i64 ((pre.length : Nat) + 1)]) rfl oB15.at_ rfl (by rw [size_int]; rfl) (by simp [Value.oneCell']) ?_; intro Wc hu; replace sB := sB.upd oB15 hu; replace oB12 := oB12.other hu h12.out; replace oB15 := oB15.upd hu; replace hl := hu.at hl hlg; replace hD := hu.at hD hDg; have hds2 : ∀ D ∈ [], D < Wb.heap.size ∧ Wc.heap[D]? = some (.deferred (some [])) := (fun D hD => ⟨(Hds.out D hD).1, hu.at (Hds.out D hD).2 (by rintro rfl; have := (Hds.out _ hD).2; rw [oBat] at this; cases this)⟩); replace hds2 := Lib.hid hds2; clear hu)
      | fail)
    clear oBat
    refine wpIn_seq (region_round (by rintro ⟨_, _, h⟩; exact h) rfl ?_)
    have hlen1 : ((pre ++ [(x1, x2)]).length : Int) = (pre.length : Nat) + 1 := by simp
    have hYI : YI K w Wb.heap.size g12 g15 [] (pre ++ [(x1, x2)]) K1 Wc := ⟨sB, by rw [hlen1]; exact oB15, oB12, hds2.out⟩
    have HYI := Lib.hid hYI
    have Hlen1 := Lib.hid hlen1
    clear hYI hlen1
    by_cases hst : ((pre.length : Nat) : Int) + 1 = nn
    · have hsb : (((pre.length : Nat) : Int) + 1 == nn) = true := by rw [beq_iff_eq]; exact hst
      have Hst := Lib.hid hst
      clear hst
      go_wp2_with (first
        | ((with_reducible refine gate_load (T := 3) (x := .tmp 15) ?_); refine wpList_loadCellW rfl rfl rfl Tryd.underlying3 rfl oB15.at_ rfl ?_)
        | ((with_reducible refine gate_load (T := 33) (x := .tmp 10) ?_); refine wpList_loadCellW rfl rfl rfl Tryd.underlying33 rfl (sB.inn.get hk10') rfl ?_)
        | ((with_reducible refine gate_load (T := 3) (x := .tmp 42) ?_); refine wpList_loadCellW rfl rfl rfl Tryd.underlying3 rfl (sB.inn.get hkb) (Hj.out 0 _ rfl) ?_)
        | ((with_reducible refine gate_load (T := 3) (x := .tmp 51) ?_); refine wpList_loadCellW rfl rfl rfl Tryd.underlying3 rfl (sB.inn.get hkb) (Hj.out 1 _ rfl) ?_)
        | ((with_reducible refine gate_load (T := 3) (x := .tmp 14) ?_); refine wpList_loadCellW rfl rfl rfl Tryd.underlying3 rfl (sB.inn.get hk14') rfl ?_)
        | ((with_reducible refine gate_load (T := 3) (x := .tmp 11) ?_); refine wpList_loadCellW rfl rfl rfl Tryd.underlying3 rfl (sB.inn.get hk11') rfl ?_)
        | ((with_reducible refine gate_store (T := 3) ?_); refine wpList_storeAll rfl rfl rfl rfl (cs := #[.int .i64 ((pre.length : Nat) + 1)]) rfl oB15.at_ rfl (by rw [size_int]; rfl) (by simp [Value.oneCell']) ?_; intro Wc hu; replace sB := sB.upd oB15 hu; replace oB12 := oB12.other hu h12.out; replace oB15 := oB15.upd hu; replace hl := hu.at hl hlg; replace hD := hu.at hD hDg; have hds2 : ∀ D ∈ [], D < Wb.heap.size ∧ Wc.heap[D]? = some (.deferred (some [])) := (fun D hD => ⟨(Hds.out D hD).1, hu.at (Hds.out D hD).2 (by rintro rfl; have := (Hds.out _ hD).2; rw [oBat] at this; cases this)⟩); replace hds2 := Lib.hid hds2; clear hu)
        | fail)
      refine wpIn_cond_true rfl (wpIn_exit ?_)
      exact ⟨⟨K1, trivial, rfl, hE1, _, Hlen1.out.trans Hst.out, HYI.out⟩, hl, hD⟩
    · have hsb : (((pre.length : Nat) : Int) + 1 == nn) = false := by rw [beq_eq_false_iff_ne]; exact hst
      clear hst
      go_wp2_with (first
        | ((with_reducible refine gate_load (T := 3) (x := .tmp 15) ?_); refine wpList_loadCellW rfl rfl rfl Tryd.underlying3 rfl oB15.at_ rfl ?_)
        | ((with_reducible refine gate_load (T := 33) (x := .tmp 10) ?_); refine wpList_loadCellW rfl rfl rfl Tryd.underlying33 rfl (sB.inn.get hk10') rfl ?_)
        | ((with_reducible refine gate_load (T := 3) (x := .tmp 42) ?_); refine wpList_loadCellW rfl rfl rfl Tryd.underlying3 rfl (sB.inn.get hkb) (Hj.out 0 _ rfl) ?_)
        | ((with_reducible refine gate_load (T := 3) (x := .tmp 51) ?_); refine wpList_loadCellW rfl rfl rfl Tryd.underlying3 rfl (sB.inn.get hkb) (Hj.out 1 _ rfl) ?_)
        | ((with_reducible refine gate_load (T := 3) (x := .tmp 14) ?_); refine wpList_loadCellW rfl rfl rfl Tryd.underlying3 rfl (sB.inn.get hk14') rfl ?_)
        | ((with_reducible refine gate_load (T := 3) (x := .tmp 11) ?_); refine wpList_loadCellW rfl rfl rfl Tryd.underlying3 rfl (sB.inn.get hk11') rfl ?_)
        | ((with_reducible refine gate_store (T := 3) ?_); refine wpList_storeAll rfl rfl rfl rfl (cs := #[.int .i64 ((pre.length : Nat) + 1)]) rfl oB15.at_ rfl (by rw [size_int]; rfl) (by simp [Value.oneCell']) ?_; intro Wc hu; replace sB := sB.upd oB15 hu; replace oB12 := oB12.other hu h12.out; replace oB15 := oB15.upd hu; replace hl := hu.at hl hlg; replace hD := hu.at hD hDg; have hds2 : ∀ D ∈ [], D < Wb.heap.size ∧ Wc.heap[D]? = some (.deferred (some [])) := (fun D hD => ⟨(Hds.out D hD).1, hu.at (Hds.out D hD).2 (by rintro rfl; have := (Hds.out _ hD).2; rw [oBat] at this; cases this)⟩); replace hds2 := Lib.hid hds2; clear hu)
        | fail)
      refine wpIn_cond_false rfl (wpIn_skip ?_)
      exact ⟨⟨K1, Ext.refl _, HYI.out⟩, hl, hD⟩
  case done1 =>
    rintro D0 K1 W hD hE2 ⟨sB, oB15, oB12, hds⟩ hd0
    try simp only [Exit.inBlock, Exit.then]
    refine wpIn_wide.2 ?_
    have hk10' := hE2 _ _ hk10
    have hk11' := hE2 _ _ hk11
    have hk14' := hE2 _ _ hk14
    have hE07' := hE07.trans hE2
    have Hit' := Lib.hid (Hit.out.ext hE2)
    have hDw0 : w.heap.size ≤ D0 := Nat.le_trans hB hD
    have h12 := n12_15
    clear hds hk10 hk11 hk14 n12_15 hE2 o12 o15 s7
    have hbb : (((E.length : Nat) : Int) != ((E.length : Nat) : Int)) = false := by simp
    go_wp2_with (first
      | ((with_reducible refine gate_load (T := 3) (x := .tmp 15) (dst := some 65) ?_); refine wpList_loadCellW rfl rfl rfl Tryd.underlying3 rfl oB15.at_ rfl ?_)
      | ((with_reducible refine gate_load (T := 33) (x := .tmp 10) (dst := some 66) ?_); refine wpList_loadCellW rfl rfl rfl Tryd.underlying33 rfl (sB.inn.get hk10') rfl ?_)
      | fail)
    try simp only [Exit.inBlock, Exit.then]
    refine wpIn_wide.2 ?_
    go_wp2_with (first
      | ((with_reducible refine gate_load (T := 3) (x := .tmp 14) ?_); refine wpList_loadCellW rfl rfl rfl Tryd.underlying3 rfl (sB.inn.get hk14') rfl ?_)
      | ((with_reducible refine gate_alloc (T := 3) ?_); refine wpList_allocG rfl rfl zero_int (cs := #[.int .i64 0]) rfl ?_; intro g14n Wd e hn; have oN := Own.made sB e hn; have n12_N := Lib.hid (oB12.ne e); replace sB := sB.new hn; replace oB12 := oB12.new hn; replace hd0 := hn.at hd0; clear e hn oB15)
      | ((with_reducible refine gate_store (T := 3) (y := .tmp 78) ?_); refine wpList_storeAll rfl rfl rfl rfl (cs := #[.int .i64 0]) rfl oN.at_ rfl (by rw [size_int]; rfl) (by simp [Value.oneCell']) ?_; intro We hu; replace sB := sB.upd oN hu; replace oB12 := oB12.other hu n12_N.out; replace hd0 := hu.at hd0 (oN.ne_of hd0 (not_plain_def _)); replace oN := oN.upd hu; clear hu)
      | ((with_reducible refine gate_load (T := 3) (x := .tmp 14) ?_); refine wpList_loadCellW rfl rfl rfl Tryd.underlying3 rfl oN.at_ rfl ?_)
      | ((with_reducible refine gate_store (T := 3) (y := .tmp 30) ?_); refine wpList_storeAll rfl rfl rfl rfl (cs := #[.int .i64 1]) rfl oN.at_ rfl (by rw [size_int]; rfl) (by simp [Value.oneCell']) ?_; intro Wf hu; replace sB := sB.upd oN hu; replace oB12 := oB12.other hu n12_N.out; replace hd0 := hu.at hd0 (oN.ne_of hd0 (not_plain_def _)); replace oN := oN.upd hu; clear hu)
      | fail)
    obtain ⟨Ka0, hEn, sa0, hk14, hfr⟩ := sB.shut' oN
    have o12 := hfr _ _ oB12 n12_N.out
    have hk10 := hEn _ _ hk10'
    have hk11 := hEn _ _ hk11'
    have hE07 := hE07'.trans hEn
    have Hit := Lib.hid (Hit'.out.ext hEn)
    clear hk10' hk11' hk14' hE07' Hit' hEn sB oN oB12 hfr n12_N h12
    rw [roundsIn_succ]
    refine wpIn_seq (wpIn_wide.2 ?_)
    go_wp2_with (first
      | ((with_reducible refine gate_load (T := 3) ?_); refine wpList_loadCellW rfl rfl rfl Tryd.underlying3 rfl (sa0.inn.get hk14) rfl ?_)
      | fail)
    refine wpIn_seq (wpIn_block (wpIn_seq (wpIn_wide.2 ?_)))
    go_wp2_with (first
      | ((with_reducible refine gate_alloc (T := 3) ?_); refine wpList_allocG rfl rfl zero_int (cs := #[.int .i64 0]) rfl ?_; intro g15 Wa e hn; have o15 := Own.made sa0 e hn; have n12_15 := Lib.hid (o12.ne e); replace sa0 := sa0.new hn; replace o12 := o12.new hn; replace hd0 := hn.at hd0; clear e hn)
      | ((with_reducible refine gate_store (T := 3) ?_); refine wpList_storeAll rfl rfl rfl rfl (cs := #[.int .i64 0]) rfl o15.at_ rfl (by rw [size_int]; rfl) (by simp [Value.oneCell']) ?_; intro Wb hu; replace sa0 := sa0.upd o15 hu; replace o12 := o12.other hu n12_15.out; replace hd0 := hu.at hd0 (o15.ne_of hd0 (not_plain_def _)); replace o15 := o15.upd hu; clear hu)
      | fail)
    refine wpIn_seq (wpIn_seq (wpIn_wide.2 ?_))
    go_wp2
    refine wpIn_block ?_
    have hB := sa0.size
    refine range_ok (gf := 43) (lb := #[.pointer (some ⟨g1, 0, none⟩), .pointer (some ⟨g2, 0, none⟩), .pointer (some ⟨g3, 0, none⟩)]) (K := Ka0) rfl (by intro args w; rfl) Hit.out (fun x => rfl)
      (YI K w Wb.heap.size g12 g15 [D0]) (YX False nn Ka0 K w Wb.heap.size g12 g15 [D0]) (fun _ _ _ h => h.1.inn) (fun _ _ _ _ _ h e => h.ex hB e) (fun _ _ _ h => by obtain ⟨_, _, _, _, _, h⟩ := h; exact h.1.inn)
      (fun _ _ _ _ _ h e => by obtain ⟨h1, h2, h5, p, h3, h4⟩ := h; exact ⟨h1, h2, h5.trans (Ext.of_le h4.1.inn e.same), p, h3, h4.ex hB e⟩) ⟨sa0, o15, o12, by intro D hD; simp at hD; subst hD; exact ⟨lt_of_at hd0, hd0⟩⟩ ?a12 ?assign2 ?body2 ?done2 ?stop2
    case assign2 =>
      intro l x W N hN
      refine wpIn_seq (region_round (by rintro ⟨_, _, h⟩; exact h) rfl ?_)
      simp only [encP, List.size_toArray, List.length_cons, List.length_nil]
      go_wp2
      refine region_round (by rintro ⟨_, _, h⟩; exact h) rfl ?_
      go_wp2
      exact hN
    case body2 =>
      rintro l D r pre x rest K1 W hx hE1 ⟨sB, oB15, oB12, hds⟩ hl hD hlD hl0 hD0
      have hlt : pre.length < E.length := by have h := congrArg List.length hx; simp at h; omega
      have hxe : E[pre.length]? = some x := by rw [← hx]; simp
      have hEl := HEl.out
      obtain ⟨b, off, cs, ty, fr, ea, hkb, hj⟩ := Hxw.out pre.length x hxe
      subst ea
      replace hkb := hE1 _ _ (hE07 _ _ hkb)
      have hk10' := hE1 _ _ hk10
      have hk11' := hE1 _ _ hk11
      have hk14' := hE1 _ _ hk14
      have hlg := oB15.ne_of hl (not_plain_loop _)
      have hDg := oB15.ne_of hD (not_plain_def _)
      have h12 := n12_15
      have Hj := Lib.hid hj
      have Hds := Lib.hid hds
      obtain ⟨x1, x2⟩ := x
      clear hj hxe hds hx
      have oBat := oB15.at_
      have hgB : decide (E.length ≤ pre.length) = false := by simp; omega
      refine wpIn_block (wpIn_seq (wpIn_seq (region_round (by rintro ⟨_, _, h⟩; exact h) rfl ?_)))
      go_wp2_with (first
        | ((with_reducible refine gate_load (T := 3) (x := .tmp 15) ?_); refine wpList_loadCellW rfl rfl rfl Tryd.underlying3 rfl oB15.at_ rfl ?_)
        | ((with_reducible refine gate_load (T := 33) (x := .tmp 10) ?_); refine wpList_loadCellW rfl rfl rfl Tryd.underlying33 rfl (sB.inn.get hk10') rfl ?_)
        | ((with_reducible refine gate_load (T := 3) (x := .tmp 42) ?_); refine wpList_loadCellW rfl rfl rfl Tryd.underlying3 rfl (sB.inn.get hkb) (Hj.out 0 _ rfl) ?_)
        | ((with_reducible refine gate_load (T := 3) (x := .tmp 51) ?_); refine wpList_loadCellW rfl rfl rfl Tryd.underlying3 rfl (sB.inn.get hkb) (Hj.out 1 _ rfl) ?_)
        | ((with_reducible refine gate_load (T := 3) (x := .tmp 14) ?_); refine wpList_loadCellW rfl rfl rfl Tryd.underlying3 rfl (sB.inn.get hk14') rfl ?_)
        | ((with_reducible refine gate_load (T := 3) (x := .tmp 11) ?_); refine wpList_loadCellW rfl rfl rfl Tryd.underlying3 rfl (sB.inn.get hk11') rfl ?_)
        | ((with_reducible refine gate_store (T := 3) ?_); refine wpList_storeAll rfl rfl rfl rfl (cs := #[.int .i64 ((pre.length : Nat) + 1)]) rfl oB15.at_ rfl (by rw [size_int]; rfl) (by simp [Value.oneCell']) ?_; intro Wc hu; replace sB := sB.upd oB15 hu; replace oB12 := oB12.other hu h12.out; replace oB15 := oB15.upd hu; replace hl := hu.at hl hlg; replace hD := hu.at hD hDg; have hds2 : ∀ D ∈ [D0], D < Wb.heap.size ∧ Wc.heap[D]? = some (.deferred (some [])) := (fun D hD => ⟨(Hds.out D hD).1, hu.at (Hds.out D hD).2 (by rintro rfl; have := (Hds.out _ hD).2; rw [oBat] at this; cases this)⟩); replace hds2 := Lib.hid hds2; clear hu)
        | fail)
      refine wpIn_cond_false rfl (wpIn_skip ?_)
      refine wpIn_seq (region_round (by rintro ⟨_, _, h⟩; exact h) rfl ?_)
      go_wp2_with (first
        | ((with_reducible refine gate_load (T := 3) (x := .tmp 15) ?_); refine wpList_loadCellW rfl rfl rfl Tryd.underlying3 rfl oB15.at_ rfl ?_)
        | ((with_reducible refine gate_load (T := 33) (x := .tmp 10) ?_); refine wpList_loadCellW rfl rfl rfl Tryd.underlying33 rfl (sB.inn.get hk10') rfl ?_)
        | ((with_reducible refine gate_load (T := 3) (x := .tmp 42) ?_); refine wpList_loadCellW rfl rfl rfl Tryd.underlying3 rfl (sB.inn.get hkb) (Hj.out 0 _ rfl) ?_)
        | ((with_reducible refine gate_load (T := 3) (x := .tmp 51) ?_); refine wpList_loadCellW rfl rfl rfl Tryd.underlying3 rfl (sB.inn.get hkb) (Hj.out 1 _ rfl) ?_)
        | ((with_reducible refine gate_load (T := 3) (x := .tmp 14) ?_); refine wpList_loadCellW rfl rfl rfl Tryd.underlying3 rfl (sB.inn.get hk14') rfl ?_)
        | ((with_reducible refine gate_load (T := 3) (x := .tmp 11) ?_); refine wpList_loadCellW rfl rfl rfl Tryd.underlying3 rfl (sB.inn.get hk11') rfl ?_)
        | ((with_reducible refine gate_store (T := 3) ?_); refine wpList_storeAll rfl rfl rfl rfl (cs := #[.int .i64 ((pre.length : Nat) + 1)]) rfl oB15.at_ rfl (by rw [size_int]; rfl) (by simp [Value.oneCell']) ?_; intro Wc hu; replace sB := sB.upd oB15 hu; replace oB12 := oB12.other hu h12.out; replace oB15 := oB15.upd hu; replace hl := hu.at hl hlg; replace hD := hu.at hD hDg; have hds2 : ∀ D ∈ [D0], D < Wb.heap.size ∧ Wc.heap[D]? = some (.deferred (some [])) := (fun D hD => ⟨(Hds.out D hD).1, hu.at (Hds.out D hD).2 (by rintro rfl; have := (Hds.out _ hD).2; rw [oBat] at this; cases this)⟩); replace hds2 := Lib.hid hds2; clear hu)
        | fail)
      clear oBat
      refine wpIn_seq (region_round (by rintro ⟨_, _, h⟩; exact h) rfl ?_)
      have hlen1 : ((pre ++ [(x1, x2)]).length : Int) = (pre.length : Nat) + 1 := by simp
      have hYI : YI K w Wb.heap.size g12 g15 [D0] (pre ++ [(x1, x2)]) K1 Wc := ⟨sB, by rw [hlen1]; exact oB15, oB12, hds2.out⟩
      have HYI := Lib.hid hYI
      have Hlen1 := Lib.hid hlen1
      clear hYI hlen1
      go_wp2_with (first
        | ((with_reducible refine gate_load (T := 33) (x := .tmp 10) ?_); refine wpList_loadCellW rfl rfl rfl Tryd.underlying33 rfl (sB.inn.get hk10') rfl ?_)
        | ((with_reducible refine gate_load (T := 3) (x := .tmp 42) ?_); refine wpList_loadCellW rfl rfl rfl Tryd.underlying3 rfl (sB.inn.get hkb) (Hj.out 0 _ rfl) ?_)
        | ((with_reducible refine gate_load (T := 3) (x := .tmp 51) ?_); refine wpList_loadCellW rfl rfl rfl Tryd.underlying3 rfl (sB.inn.get hkb) (Hj.out 1 _ rfl) ?_)
        | ((with_reducible refine gate_load (T := 3) (x := .tmp 14) ?_); refine wpList_loadCellW rfl rfl rfl Tryd.underlying3 rfl (sB.inn.get hk14') rfl ?_)
        | ((with_reducible refine gate_store (T := 3) ?_); refine wpList_storeAll rfl rfl rfl rfl (cs := #[.int .i64 ((pre.length : Nat) + 1)]) rfl oB15.at_ rfl (by rw [size_int]; rfl) (by simp [Value.oneCell']) ?_; intro Wc hu; replace sB := sB.upd oB15 hu; replace oB12 := oB12.other hu h12.out; replace oB15 := oB15.upd hu; replace hl := hu.at hl hlg; replace hD := hu.at hD hDg; have hds2 : ∀ D ∈ [D0], D < Wb.heap.size ∧ Wc.heap[D]? = some (.deferred (some [])) := (fun D hD => ⟨(Hds.out D hD).1, hu.at (Hds.out D hD).2 (by rintro rfl; have := (Hds.out _ hD).2; rw [oBat] at this; cases this)⟩); replace hds2 := Lib.hid hds2; clear hu)
        | fail)
      refine wpIn_cond_false rfl (wpIn_skip ?_)
      exact ⟨⟨K1, Ext.refl _, HYI.out⟩, hl, hD⟩
    case done2 =>
      rintro D1 K1 W hD hE2 ⟨sB, oB15, oB12, hds⟩ hd1
      try simp only [Exit.inBlock, Exit.then]
      refine wpIn_wide.2 ?_
      have hk10' := hE2 _ _ hk10
      have hk11' := hE2 _ _ hk11
      have hk14' := hE2 _ _ hk14
      have hE07' := hE07.trans hE2
      have Hit' := Lib.hid (Hit.out.ext hE2)
      have hd0 := (hds D0 (by simp)).2
      have hdl : D0 < D1 := Nat.lt_of_lt_of_le (hds D0 (by simp)).1 hD
      have hDw : w.heap.size ≤ D1 := Nat.le_trans hB hD
      have h12 := n12_15
      clear hds hk10 hk11 hk14 n12_15 hE2 o12 o15 sa0
      have hbb : (((E.length : Nat) : Int) != ((E.length : Nat) : Int)) = false := by simp
      go_wp2_with (first
        | ((with_reducible refine gate_load (T := 3) (x := .tmp 15) (dst := some 65) ?_); refine wpList_loadCellW rfl rfl rfl Tryd.underlying3 rfl oB15.at_ rfl ?_)
        | ((with_reducible refine gate_load (T := 33) (x := .tmp 10) (dst := some 66) ?_); refine wpList_loadCellW rfl rfl rfl Tryd.underlying33 rfl (sB.inn.get hk10') rfl ?_)
        | fail)
      try simp only [Exit.inBlock, Exit.then]
      refine wpIn_wide.2 ?_
      go_wp2_with (first
        | ((with_reducible refine gate_load (T := 3) (x := .tmp 14) ?_); refine wpList_loadCellW rfl rfl rfl Tryd.underlying3 rfl (sB.inn.get hk14') rfl ?_)
        | ((with_reducible refine gate_alloc (T := 3) ?_); refine wpList_allocG rfl rfl zero_int (cs := #[.int .i64 0]) rfl ?_; intro g14n Wd e hn; have oN := Own.made sB e hn; have n12_N := Lib.hid (oB12.ne e); replace sB := sB.new hn; replace oB12 := oB12.new hn; replace hd0 := hn.at hd0; replace hd1 := hn.at hd1; clear e hn oB15)
        | ((with_reducible refine gate_store (T := 3) (y := .tmp 78) ?_); refine wpList_storeAll rfl rfl rfl rfl (cs := #[.int .i64 1]) rfl oN.at_ rfl (by rw [size_int]; rfl) (by simp [Value.oneCell']) ?_; intro We hu; replace sB := sB.upd oN hu; replace oB12 := oB12.other hu n12_N.out; replace hd0 := hu.at hd0 (oN.ne_of hd0 (not_plain_def _)); replace hd1 := hu.at hd1 (oN.ne_of hd1 (not_plain_def _)); replace oN := oN.upd hu; clear hu)
        | ((with_reducible refine gate_load (T := 3) (x := .tmp 14) ?_); refine wpList_loadCellW rfl rfl rfl Tryd.underlying3 rfl oN.at_ rfl ?_)
        | ((with_reducible refine gate_store (T := 3) (y := .tmp 30) ?_); refine wpList_storeAll rfl rfl rfl rfl (cs := #[.int .i64 2]) rfl oN.at_ rfl (by rw [size_int]; rfl) (by simp [Value.oneCell']) ?_; intro Wf hu; replace sB := sB.upd oN hu; replace oB12 := oB12.other hu n12_N.out; replace hd0 := hu.at hd0 (oN.ne_of hd0 (not_plain_def _)); replace hd1 := hu.at hd1 (oN.ne_of hd1 (not_plain_def _)); replace oN := oN.upd hu; clear hu)
        | fail)
      obtain ⟨Ka1, hEn, sa1, hk14, hfr⟩ := sB.shut' oN
      have o12 := hfr _ _ oB12 n12_N.out
      have hk10 := hEn _ _ hk10'
      have hk11 := hEn _ _ hk11'
      have hE07 := hE07'.trans hEn
      have Hit := Lib.hid (Hit'.out.ext hEn)
      clear hk10' hk11' hk14' hE07' Hit' hEn sB oN oB12 hfr n12_N h12
      rw [roundsIn_succ]
      refine wpIn_seq (wpIn_wide.2 ?_)
      go_wp2_with (first
        | ((with_reducible refine gate_load (T := 3) ?_); refine wpList_loadCellW rfl rfl rfl Tryd.underlying3 rfl (sa1.inn.get hk14) rfl ?_)
        | fail)
      try simp only [Exit.inBlock, Exit.then, if_true]
      refine wpIn_seq (wpIn_wide.2 ?_)
      go_wp2_with (first
        | ((with_reducible refine gate_store (T := 4) ?_); refine wpList_storeAll rfl rfl rfl rfl (cs := #[.bool true]) rfl o12.at_ rfl (by rw [size_bool]; rfl) (by simp [Value.oneCell']) ?_; intro Wz hu; replace sa1 := sa1.upd o12 hu; replace hd0 := hu.at hd0 (o12.ne_of hd0 (not_plain_def _)); replace hd1 := hu.at hd1 (o12.ne_of hd1 (not_plain_def _)); replace o12 := o12.upd hu; clear hu)
        | fail)
      refine wpIn_ret ?_
      refine ⟨by simp, .inl ⟨_, _, rfl, run_takeDeferred hd1, ?_⟩⟩
      have he1 := Ex.of_put (B := w.heap.size) (o' := .deferred none) sa1.inn hDw hd1 (not_plain_def _)
      have sy := sa1.ex he1 (Nat.le_refl _)
      have o12y := o12.ex he1
      have hd0y := (World.putObj_heap_other (o := .deferred none) (Nat.ne_of_lt hdl)).trans hd0
      refine ⟨by simp, .inl ⟨_, _, rfl, run_takeDeferred hd0y, ?_⟩⟩
      have he0 := Ex.of_put (B := w.heap.size) (o' := .deferred none) sy.inn hDw0 hd0y (not_plain_def _)
      have sz := sy.ex he0 (Nat.le_refl _)
      have o12z := o12y.ex he0
      refine ⟨_, run_cell_bool rfl _ _ g12 true rfl o12z.at_, ?_⟩
      exact ⟨rfl, sz.below⟩
    case stop2 =>
      rintro D c K1 W hD ⟨h, _⟩
      exact h.elim
  case stop1 =>
    rintro D0 c K1 W hD ⟨_, rfl, hE2, pst, hpn, sB, oB15, oB12, hds⟩ hd0
    subst hpn
    refine wpIn_exit ?_
    try simp only [Exit.inBlock, Exit.then, if_true]
    refine wpIn_wide.2 ?_
    cases hbb : (((pst.length : Nat) : Int) != ((E.length : Nat) : Int))
    case false =>
      have hk10' := hE2 _ _ hk10
      have hk11' := hE2 _ _ hk11
      have hk14' := hE2 _ _ hk14
      have hE07' := hE07.trans hE2
      have Hit' := Lib.hid (Hit.out.ext hE2)
      have hDw0 : w.heap.size ≤ D0 := Nat.le_trans hB hD
      have h12 := n12_15
      clear hds hk10 hk11 hk14 n12_15 hE2 o12 o15 s7
      go_wp2_with (first
        | ((with_reducible refine gate_load (T := 3) (x := .tmp 15) (dst := some 65) ?_); refine wpList_loadCellW rfl rfl rfl Tryd.underlying3 rfl oB15.at_ rfl ?_)
        | ((with_reducible refine gate_load (T := 33) (x := .tmp 10) (dst := some 66) ?_); refine wpList_loadCellW rfl rfl rfl Tryd.underlying33 rfl (sB.inn.get hk10') rfl ?_)
        | fail)
      try simp only [Exit.inBlock, Exit.then]
      refine wpIn_wide.2 ?_
      go_wp2_with (first
        | ((with_reducible refine gate_load (T := 3) (x := .tmp 14) ?_); refine wpList_loadCellW rfl rfl rfl Tryd.underlying3 rfl (sB.inn.get hk14') rfl ?_)
        | ((with_reducible refine gate_alloc (T := 3) ?_); refine wpList_allocG rfl rfl zero_int (cs := #[.int .i64 0]) rfl ?_; intro g14n Wd e hn; have oN := Own.made sB e hn; have n12_N := Lib.hid (oB12.ne e); replace sB := sB.new hn; replace oB12 := oB12.new hn; replace hd0 := hn.at hd0; clear e hn oB15)
        | ((with_reducible refine gate_store (T := 3) (y := .tmp 78) ?_); refine wpList_storeAll rfl rfl rfl rfl (cs := #[.int .i64 0]) rfl oN.at_ rfl (by rw [size_int]; rfl) (by simp [Value.oneCell']) ?_; intro We hu; replace sB := sB.upd oN hu; replace oB12 := oB12.other hu n12_N.out; replace hd0 := hu.at hd0 (oN.ne_of hd0 (not_plain_def _)); replace oN := oN.upd hu; clear hu)
        | ((with_reducible refine gate_load (T := 3) (x := .tmp 14) ?_); refine wpList_loadCellW rfl rfl rfl Tryd.underlying3 rfl oN.at_ rfl ?_)
        | ((with_reducible refine gate_store (T := 3) (y := .tmp 30) ?_); refine wpList_storeAll rfl rfl rfl rfl (cs := #[.int .i64 1]) rfl oN.at_ rfl (by rw [size_int]; rfl) (by simp [Value.oneCell']) ?_; intro Wf hu; replace sB := sB.upd oN hu; replace oB12 := oB12.other hu n12_N.out; replace hd0 := hu.at hd0 (oN.ne_of hd0 (not_plain_def _)); replace oN := oN.upd hu; clear hu)
        | fail)
      obtain ⟨Kb0, hEn, sb0, hk14, hfr⟩ := sB.shut' oN
      have o12 := hfr _ _ oB12 n12_N.out
      have hk10 := hEn _ _ hk10'
      have hk11 := hEn _ _ hk11'
      have hE07 := hE07'.trans hEn
      have Hit := Lib.hid (Hit'.out.ext hEn)
      clear hk10' hk11' hk14' hE07' Hit' hEn sB oN oB12 hfr n12_N h12
      rw [roundsIn_succ]
      refine wpIn_seq (wpIn_wide.2 ?_)
      go_wp2_with (first
        | ((with_reducible refine gate_load (T := 3) ?_); refine wpList_loadCellW rfl rfl rfl Tryd.underlying3 rfl (sb0.inn.get hk14) rfl ?_)
        | fail)
      refine wpIn_seq (wpIn_block (wpIn_seq (wpIn_wide.2 ?_)))
      go_wp2_with (first
        | ((with_reducible refine gate_alloc (T := 3) ?_); refine wpList_allocG rfl rfl zero_int (cs := #[.int .i64 0]) rfl ?_; intro g15 Wa e hn; have o15 := Own.made sb0 e hn; have n12_15 := Lib.hid (o12.ne e); replace sb0 := sb0.new hn; replace o12 := o12.new hn; replace hd0 := hn.at hd0; clear e hn)
        | ((with_reducible refine gate_store (T := 3) ?_); refine wpList_storeAll rfl rfl rfl rfl (cs := #[.int .i64 0]) rfl o15.at_ rfl (by rw [size_int]; rfl) (by simp [Value.oneCell']) ?_; intro Wb hu; replace sb0 := sb0.upd o15 hu; replace o12 := o12.other hu n12_15.out; replace hd0 := hu.at hd0 (o15.ne_of hd0 (not_plain_def _)); replace o15 := o15.upd hu; clear hu)
        | fail)
      refine wpIn_seq (wpIn_seq (wpIn_wide.2 ?_))
      go_wp2
      refine wpIn_block ?_
      have hB := sb0.size
      refine range_ok (gf := 43) (lb := #[.pointer (some ⟨g1, 0, none⟩), .pointer (some ⟨g2, 0, none⟩), .pointer (some ⟨g3, 0, none⟩)]) (K := Kb0) rfl (by intro args w; rfl) Hit.out (fun x => rfl)
        (YI K w Wb.heap.size g12 g15 [D0]) (YX False ((pst.length : Nat) : Int) Kb0 K w Wb.heap.size g12 g15 [D0]) (fun _ _ _ h => h.1.inn) (fun _ _ _ _ _ h e => h.ex hB e) (fun _ _ _ h => by obtain ⟨_, _, _, _, _, h⟩ := h; exact h.1.inn)
        (fun _ _ _ _ _ h e => by obtain ⟨h1, h2, h5, p, h3, h4⟩ := h; exact ⟨h1, h2, h5.trans (Ext.of_le h4.1.inn e.same), p, h3, h4.ex hB e⟩) ⟨sb0, o15, o12, by intro D hD; simp at hD; subst hD; exact ⟨lt_of_at hd0, hd0⟩⟩ ?a13 ?assign3 ?body3 ?done3 ?stop3
      case assign3 =>
        intro l x W N hN
        refine wpIn_seq (region_round (by rintro ⟨_, _, h⟩; exact h) rfl ?_)
        simp only [encP, List.size_toArray, List.length_cons, List.length_nil]
        go_wp2
        refine region_round (by rintro ⟨_, _, h⟩; exact h) rfl ?_
        go_wp2
        exact hN
      case body3 =>
        rintro l D r pre x rest K1 W hx hE1 ⟨sB, oB15, oB12, hds⟩ hl hD hlD hl0 hD0
        have hlt : pre.length < E.length := by have h := congrArg List.length hx; simp at h; omega
        have hxe : E[pre.length]? = some x := by rw [← hx]; simp
        have hEl := HEl.out
        obtain ⟨b, off, cs, ty, fr, ea, hkb, hj⟩ := Hxw.out pre.length x hxe
        subst ea
        replace hkb := hE1 _ _ (hE07 _ _ hkb)
        have hk10' := hE1 _ _ hk10
        have hk11' := hE1 _ _ hk11
        have hk14' := hE1 _ _ hk14
        have hlg := oB15.ne_of hl (not_plain_loop _)
        have hDg := oB15.ne_of hD (not_plain_def _)
        have h12 := n12_15
        have Hj := Lib.hid hj
        have Hds := Lib.hid hds
        obtain ⟨x1, x2⟩ := x
        clear hj hxe hds hx
        have oBat := oB15.at_
        have hgB : decide (E.length ≤ pre.length) = false := by simp; omega
        refine wpIn_block (wpIn_seq (wpIn_seq (region_round (by rintro ⟨_, _, h⟩; exact h) rfl ?_)))
        go_wp2_with (first
          | ((with_reducible refine gate_load (T := 3) (x := .tmp 15) ?_); refine wpList_loadCellW rfl rfl rfl Tryd.underlying3 rfl oB15.at_ rfl ?_)
          | ((with_reducible refine gate_load (T := 33) (x := .tmp 10) ?_); refine wpList_loadCellW rfl rfl rfl Tryd.underlying33 rfl (sB.inn.get hk10') rfl ?_)
          | ((with_reducible refine gate_load (T := 3) (x := .tmp 42) ?_); refine wpList_loadCellW rfl rfl rfl Tryd.underlying3 rfl (sB.inn.get hkb) (Hj.out 0 _ rfl) ?_)
          | ((with_reducible refine gate_load (T := 3) (x := .tmp 51) ?_); refine wpList_loadCellW rfl rfl rfl Tryd.underlying3 rfl (sB.inn.get hkb) (Hj.out 1 _ rfl) ?_)
          | ((with_reducible refine gate_load (T := 3) (x := .tmp 14) ?_); refine wpList_loadCellW rfl rfl rfl Tryd.underlying3 rfl (sB.inn.get hk14') rfl ?_)
          | ((with_reducible refine gate_load (T := 3) (x := .tmp 11) ?_); refine wpList_loadCellW rfl rfl rfl Tryd.underlying3 rfl (sB.inn.get hk11') rfl ?_)
          | ((with_reducible refine gate_store (T := 3) ?_); refine wpList_storeAll rfl rfl rfl rfl (cs := #[.int .i64 ((pre.length : Nat) + 1)]) rfl oB15.at_ rfl (by rw [size_int]; rfl) (by simp [Value.oneCell']) ?_; intro Wc hu; replace sB := sB.upd oB15 hu; replace oB12 := oB12.other hu h12.out; replace oB15 := oB15.upd hu; replace hl := hu.at hl hlg; replace hD := hu.at hD hDg; have hds2 : ∀ D ∈ [D0], D < Wb.heap.size ∧ Wc.heap[D]? = some (.deferred (some [])) := (fun D hD => ⟨(Hds.out D hD).1, hu.at (Hds.out D hD).2 (by rintro rfl; have := (Hds.out _ hD).2; rw [oBat] at this; cases this)⟩); replace hds2 := Lib.hid hds2; clear hu)
          | fail)
        refine wpIn_cond_false rfl (wpIn_skip ?_)
        refine wpIn_seq (region_round (by rintro ⟨_, _, h⟩; exact h) rfl ?_)
        go_wp2_with (first
          | ((with_reducible refine gate_load (T := 3) (x := .tmp 15) ?_); refine wpList_loadCellW rfl rfl rfl Tryd.underlying3 rfl oB15.at_ rfl ?_)
          | ((with_reducible refine gate_load (T := 33) (x := .tmp 10) ?_); refine wpList_loadCellW rfl rfl rfl Tryd.underlying33 rfl (sB.inn.get hk10') rfl ?_)
          | ((with_reducible refine gate_load (T := 3) (x := .tmp 42) ?_); refine wpList_loadCellW rfl rfl rfl Tryd.underlying3 rfl (sB.inn.get hkb) (Hj.out 0 _ rfl) ?_)
          | ((with_reducible refine gate_load (T := 3) (x := .tmp 51) ?_); refine wpList_loadCellW rfl rfl rfl Tryd.underlying3 rfl (sB.inn.get hkb) (Hj.out 1 _ rfl) ?_)
          | ((with_reducible refine gate_load (T := 3) (x := .tmp 14) ?_); refine wpList_loadCellW rfl rfl rfl Tryd.underlying3 rfl (sB.inn.get hk14') rfl ?_)
          | ((with_reducible refine gate_load (T := 3) (x := .tmp 11) ?_); refine wpList_loadCellW rfl rfl rfl Tryd.underlying3 rfl (sB.inn.get hk11') rfl ?_)
          | ((with_reducible refine gate_store (T := 3) ?_); refine wpList_storeAll rfl rfl rfl rfl (cs := #[.int .i64 ((pre.length : Nat) + 1)]) rfl oB15.at_ rfl (by rw [size_int]; rfl) (by simp [Value.oneCell']) ?_; intro Wc hu; replace sB := sB.upd oB15 hu; replace oB12 := oB12.other hu h12.out; replace oB15 := oB15.upd hu; replace hl := hu.at hl hlg; replace hD := hu.at hD hDg; have hds2 : ∀ D ∈ [D0], D < Wb.heap.size ∧ Wc.heap[D]? = some (.deferred (some [])) := (fun D hD => ⟨(Hds.out D hD).1, hu.at (Hds.out D hD).2 (by rintro rfl; have := (Hds.out _ hD).2; rw [oBat] at this; cases this)⟩); replace hds2 := Lib.hid hds2; clear hu)
          | fail)
        clear oBat
        refine wpIn_seq (region_round (by rintro ⟨_, _, h⟩; exact h) rfl ?_)
        have hlen1 : ((pre ++ [(x1, x2)]).length : Int) = (pre.length : Nat) + 1 := by simp
        have hYI : YI K w Wb.heap.size g12 g15 [D0] (pre ++ [(x1, x2)]) K1 Wc := ⟨sB, by rw [hlen1]; exact oB15, oB12, hds2.out⟩
        have HYI := Lib.hid hYI
        have Hlen1 := Lib.hid hlen1
        clear hYI hlen1
        go_wp2_with (first
          | ((with_reducible refine gate_load (T := 33) (x := .tmp 10) ?_); refine wpList_loadCellW rfl rfl rfl Tryd.underlying33 rfl (sB.inn.get hk10') rfl ?_)
          | ((with_reducible refine gate_load (T := 3) (x := .tmp 42) ?_); refine wpList_loadCellW rfl rfl rfl Tryd.underlying3 rfl (sB.inn.get hkb) (Hj.out 0 _ rfl) ?_)
          | ((with_reducible refine gate_load (T := 3) (x := .tmp 51) ?_); refine wpList_loadCellW rfl rfl rfl Tryd.underlying3 rfl (sB.inn.get hkb) (Hj.out 1 _ rfl) ?_)
          | ((with_reducible refine gate_load (T := 3) (x := .tmp 14) ?_); refine wpList_loadCellW rfl rfl rfl Tryd.underlying3 rfl (sB.inn.get hk14') rfl ?_)
          | ((with_reducible refine gate_store (T := 3) ?_); refine wpList_storeAll rfl rfl rfl rfl (cs := #[.int .i64 ((pre.length : Nat) + 1)]) rfl oB15.at_ rfl (by rw [size_int]; rfl) (by simp [Value.oneCell']) ?_; intro Wc hu; replace sB := sB.upd oB15 hu; replace oB12 := oB12.other hu h12.out; replace oB15 := oB15.upd hu; replace hl := hu.at hl hlg; replace hD := hu.at hD hDg; have hds2 : ∀ D ∈ [D0], D < Wb.heap.size ∧ Wc.heap[D]? = some (.deferred (some [])) := (fun D hD => ⟨(Hds.out D hD).1, hu.at (Hds.out D hD).2 (by rintro rfl; have := (Hds.out _ hD).2; rw [oBat] at this; cases this)⟩); replace hds2 := Lib.hid hds2; clear hu)
          | fail)
        refine wpIn_cond_false rfl (wpIn_skip ?_)
        exact ⟨⟨K1, Ext.refl _, HYI.out⟩, hl, hD⟩
      case done3 =>
        rintro D1 K1 W hD hE2 ⟨sB, oB15, oB12, hds⟩ hd1
        try simp only [Exit.inBlock, Exit.then]
        refine wpIn_wide.2 ?_
        have hk10' := hE2 _ _ hk10
        have hk11' := hE2 _ _ hk11
        have hk14' := hE2 _ _ hk14
        have hE07' := hE07.trans hE2
        have Hit' := Lib.hid (Hit.out.ext hE2)
        have hd0 := (hds D0 (by simp)).2
        have hdl : D0 < D1 := Nat.lt_of_lt_of_le (hds D0 (by simp)).1 hD
        have hDw : w.heap.size ≤ D1 := Nat.le_trans hB hD
        have h12 := n12_15
        clear hds hk10 hk11 hk14 n12_15 hE2 o12 o15 sb0
        have hbb : (((E.length : Nat) : Int) != ((E.length : Nat) : Int)) = false := by simp
        go_wp2_with (first
          | ((with_reducible refine gate_load (T := 3) (x := .tmp 15) (dst := some 65) ?_); refine wpList_loadCellW rfl rfl rfl Tryd.underlying3 rfl oB15.at_ rfl ?_)
          | ((with_reducible refine gate_load (T := 33) (x := .tmp 10) (dst := some 66) ?_); refine wpList_loadCellW rfl rfl rfl Tryd.underlying33 rfl (sB.inn.get hk10') rfl ?_)
          | fail)
        try simp only [Exit.inBlock, Exit.then]
        refine wpIn_wide.2 ?_
        go_wp2_with (first
          | ((with_reducible refine gate_load (T := 3) (x := .tmp 14) ?_); refine wpList_loadCellW rfl rfl rfl Tryd.underlying3 rfl (sB.inn.get hk14') rfl ?_)
          | ((with_reducible refine gate_alloc (T := 3) ?_); refine wpList_allocG rfl rfl zero_int (cs := #[.int .i64 0]) rfl ?_; intro g14n Wd e hn; have oN := Own.made sB e hn; have n12_N := Lib.hid (oB12.ne e); replace sB := sB.new hn; replace oB12 := oB12.new hn; replace hd0 := hn.at hd0; replace hd1 := hn.at hd1; clear e hn oB15)
          | ((with_reducible refine gate_store (T := 3) (y := .tmp 78) ?_); refine wpList_storeAll rfl rfl rfl rfl (cs := #[.int .i64 1]) rfl oN.at_ rfl (by rw [size_int]; rfl) (by simp [Value.oneCell']) ?_; intro We hu; replace sB := sB.upd oN hu; replace oB12 := oB12.other hu n12_N.out; replace hd0 := hu.at hd0 (oN.ne_of hd0 (not_plain_def _)); replace hd1 := hu.at hd1 (oN.ne_of hd1 (not_plain_def _)); replace oN := oN.upd hu; clear hu)
          | ((with_reducible refine gate_load (T := 3) (x := .tmp 14) ?_); refine wpList_loadCellW rfl rfl rfl Tryd.underlying3 rfl oN.at_ rfl ?_)
          | ((with_reducible refine gate_store (T := 3) (y := .tmp 30) ?_); refine wpList_storeAll rfl rfl rfl rfl (cs := #[.int .i64 2]) rfl oN.at_ rfl (by rw [size_int]; rfl) (by simp [Value.oneCell']) ?_; intro Wf hu; replace sB := sB.upd oN hu; replace oB12 := oB12.other hu n12_N.out; replace hd0 := hu.at hd0 (oN.ne_of hd0 (not_plain_def _)); replace hd1 := hu.at hd1 (oN.ne_of hd1 (not_plain_def _)); replace oN := oN.upd hu; clear hu)
          | fail)
        obtain ⟨Ka1, hEn, sa1, hk14, hfr⟩ := sB.shut' oN
        have o12 := hfr _ _ oB12 n12_N.out
        have hk10 := hEn _ _ hk10'
        have hk11 := hEn _ _ hk11'
        have hE07 := hE07'.trans hEn
        have Hit := Lib.hid (Hit'.out.ext hEn)
        clear hk10' hk11' hk14' hE07' Hit' hEn sB oN oB12 hfr n12_N h12
        rw [roundsIn_succ]
        refine wpIn_seq (wpIn_wide.2 ?_)
        go_wp2_with (first
          | ((with_reducible refine gate_load (T := 3) ?_); refine wpList_loadCellW rfl rfl rfl Tryd.underlying3 rfl (sa1.inn.get hk14) rfl ?_)
          | fail)
        try simp only [Exit.inBlock, Exit.then, if_true]
        refine wpIn_seq (wpIn_wide.2 ?_)
        go_wp2_with (first
          | ((with_reducible refine gate_store (T := 4) ?_); refine wpList_storeAll rfl rfl rfl rfl (cs := #[.bool true]) rfl o12.at_ rfl (by rw [size_bool]; rfl) (by simp [Value.oneCell']) ?_; intro Wz hu; replace sa1 := sa1.upd o12 hu; replace hd0 := hu.at hd0 (o12.ne_of hd0 (not_plain_def _)); replace hd1 := hu.at hd1 (o12.ne_of hd1 (not_plain_def _)); replace o12 := o12.upd hu; clear hu)
          | fail)
        refine wpIn_ret ?_
        refine ⟨by simp, .inl ⟨_, _, rfl, run_takeDeferred hd1, ?_⟩⟩
        have he1 := Ex.of_put (B := w.heap.size) (o' := .deferred none) sa1.inn hDw hd1 (not_plain_def _)
        have sy := sa1.ex he1 (Nat.le_refl _)
        have o12y := o12.ex he1
        have hd0y := (World.putObj_heap_other (o := .deferred none) (Nat.ne_of_lt hdl)).trans hd0
        refine ⟨by simp, .inl ⟨_, _, rfl, run_takeDeferred hd0y, ?_⟩⟩
        have he0 := Ex.of_put (B := w.heap.size) (o' := .deferred none) sy.inn hDw0 hd0y (not_plain_def _)
        have sz := sy.ex he0 (Nat.le_refl _)
        have o12z := o12y.ex he0
        refine ⟨_, run_cell_bool rfl _ _ g12 true rfl o12z.at_, ?_⟩
        exact ⟨rfl, sz.below⟩
      case stop3 =>
        rintro D c K1 W hD ⟨h, _⟩
        exact h.elim
    case true =>
      have hk10' := hE2 _ _ hk10
      have hk11' := hE2 _ _ hk11
      have hk14' := hE2 _ _ hk14
      have hE07' := hE07.trans hE2
      have Hit' := Lib.hid (Hit.out.ext hE2)
      have hDw0 : w.heap.size ≤ D0 := Nat.le_trans hB hD
      have h12 := n12_15
      clear hds hk10 hk11 hk14 n12_15 hE2 o12 o15 s7
      go_wp2_with (first
        | ((with_reducible refine gate_load (T := 3) (x := .tmp 15) (dst := some 65) ?_); refine wpList_loadCellW rfl rfl rfl Tryd.underlying3 rfl oB15.at_ rfl ?_)
        | ((with_reducible refine gate_load (T := 33) (x := .tmp 10) (dst := some 66) ?_); refine wpList_loadCellW rfl rfl rfl Tryd.underlying33 rfl (sB.inn.get hk10') rfl ?_)
        | ((with_reducible refine gate_load (T := 3) (x := .tmp 14) (dst := some 70) ?_); refine wpList_loadCellW rfl rfl rfl Tryd.underlying3 rfl (sB.inn.get hk14') rfl ?_)
        | ((with_reducible refine gate_load (T := 3) (x := .tmp 15) (dst := some 73) ?_); refine wpList_loadCellW rfl rfl rfl Tryd.underlying3 rfl oB15.at_ rfl ?_)
        | ((with_reducible refine gate_load (T := 3) (x := .tmp 11) (dst := some 74) ?_); refine wpList_loadCellW rfl rfl rfl Tryd.underlying3 rfl (sB.inn.get hk11') rfl ?_)
        | fail)
      try simp only [Exit.inBlock, Exit.then]
      refine wpIn_wide.2 ?_
      go_wp2_with (first
        | ((with_reducible refine gate_load (T := 3) (x := .tmp 14) ?_); refine wpList_loadCellW rfl rfl rfl Tryd.underlying3 rfl (sB.inn.get hk14') rfl ?_)
        | ((with_reducible refine gate_alloc (T := 3) ?_); refine wpList_allocG rfl rfl zero_int (cs := #[.int .i64 0]) rfl ?_; intro g14n Wd e hn; have oN := Own.made sB e hn; have n12_N := Lib.hid (oB12.ne e); replace sB := sB.new hn; replace oB12 := oB12.new hn; replace hd0 := hn.at hd0; clear e hn oB15)
        | ((with_reducible refine gate_store (T := 3) (y := .tmp 78) ?_); refine wpList_storeAll rfl rfl rfl rfl (cs := #[.int .i64 0]) rfl oN.at_ rfl (by rw [size_int]; rfl) (by simp [Value.oneCell']) ?_; intro We hu; replace sB := sB.upd oN hu; replace oB12 := oB12.other hu n12_N.out; replace hd0 := hu.at hd0 (oN.ne_of hd0 (not_plain_def _)); replace oN := oN.upd hu; clear hu)
        | ((with_reducible refine gate_load (T := 3) (x := .tmp 14) ?_); refine wpList_loadCellW rfl rfl rfl Tryd.underlying3 rfl oN.at_ rfl ?_)
        | ((with_reducible refine gate_store (T := 3) (y := .tmp 30) ?_); refine wpList_storeAll rfl rfl rfl rfl (cs := #[.int .i64 1]) rfl oN.at_ rfl (by rw [size_int]; rfl) (by simp [Value.oneCell']) ?_; intro Wf hu; replace sB := sB.upd oN hu; replace oB12 := oB12.other hu n12_N.out; replace hd0 := hu.at hd0 (oN.ne_of hd0 (not_plain_def _)); replace oN := oN.upd hu; clear hu)
        | fail)
      obtain ⟨Kb0, hEn, sb0, hk14, hfr⟩ := sB.shut' oN
      have o12 := hfr _ _ oB12 n12_N.out
      have hk10 := hEn _ _ hk10'
      have hk11 := hEn _ _ hk11'
      have hE07 := hE07'.trans hEn
      have Hit := Lib.hid (Hit'.out.ext hEn)
      clear hk10' hk11' hk14' hE07' Hit' hEn sB oN oB12 hfr n12_N h12
      rw [roundsIn_succ]
      refine wpIn_seq (wpIn_wide.2 ?_)
      go_wp2_with (first
        | ((with_reducible refine gate_load (T := 3) ?_); refine wpList_loadCellW rfl rfl rfl Tryd.underlying3 rfl (sb0.inn.get hk14) rfl ?_)
        | fail)
      refine wpIn_seq (wpIn_block (wpIn_seq (wpIn_wide.2 ?_)))
      go_wp2_with (first
        | ((with_reducible refine gate_alloc (T := 3) ?_); refine wpList_allocG rfl rfl zero_int (cs := #[.int .i64 0]) rfl ?_; intro g15 Wa e hn; have o15 := Own.made sb0 e hn; have n12_15 := Lib.hid (o12.ne e); replace sb0 := sb0.new hn; replace o12 := o12.new hn; replace hd0 := hn.at hd0; clear e hn)
        | ((with_reducible refine gate_store (T := 3) ?_); refine wpList_storeAll rfl rfl rfl rfl (cs := #[.int .i64 0]) rfl o15.at_ rfl (by rw [size_int]; rfl) (by simp [Value.oneCell']) ?_; intro Wb hu; replace sb0 := sb0.upd o15 hu; replace o12 := o12.other hu n12_15.out; replace hd0 := hu.at hd0 (o15.ne_of hd0 (not_plain_def _)); replace o15 := o15.upd hu; clear hu)
        | fail)
      refine wpIn_seq (wpIn_seq (wpIn_wide.2 ?_))
      go_wp2
      refine wpIn_block ?_
      have hB := sb0.size
      refine range_ok (gf := 43) (lb := #[.pointer (some ⟨g1, 0, none⟩), .pointer (some ⟨g2, 0, none⟩), .pointer (some ⟨g3, 0, none⟩)]) (K := Kb0) rfl (by intro args w; rfl) Hit.out (fun x => rfl)
        (YI K w Wb.heap.size g12 g15 [D0]) (YX False ((pst.length : Nat) : Int) Kb0 K w Wb.heap.size g12 g15 [D0]) (fun _ _ _ h => h.1.inn) (fun _ _ _ _ _ h e => h.ex hB e) (fun _ _ _ h => by obtain ⟨_, _, _, _, _, h⟩ := h; exact h.1.inn)
        (fun _ _ _ _ _ h e => by obtain ⟨h1, h2, h5, p, h3, h4⟩ := h; exact ⟨h1, h2, h5.trans (Ext.of_le h4.1.inn e.same), p, h3, h4.ex hB e⟩) ⟨sb0, o15, o12, by intro D hD; simp at hD; subst hD; exact ⟨lt_of_at hd0, hd0⟩⟩ ?a14 ?assign4 ?body4 ?done4 ?stop4
      case assign4 =>
        intro l x W N hN
        refine wpIn_seq (region_round (by rintro ⟨_, _, h⟩; exact h) rfl ?_)
        simp only [encP, List.size_toArray, List.length_cons, List.length_nil]
        go_wp2
        refine region_round (by rintro ⟨_, _, h⟩; exact h) rfl ?_
        go_wp2
        exact hN
      case body4 =>
        rintro l D r pre x rest K1 W hx hE1 ⟨sB, oB15, oB12, hds⟩ hl hD hlD hl0 hD0
        have hlt : pre.length < E.length := by have h := congrArg List.length hx; simp at h; omega
        have hxe : E[pre.length]? = some x := by rw [← hx]; simp
        have hEl := HEl.out
        obtain ⟨b, off, cs, ty, fr, ea, hkb, hj⟩ := Hxw.out pre.length x hxe
        subst ea
        replace hkb := hE1 _ _ (hE07 _ _ hkb)
        have hk10' := hE1 _ _ hk10
        have hk11' := hE1 _ _ hk11
        have hk14' := hE1 _ _ hk14
        have hlg := oB15.ne_of hl (not_plain_loop _)
        have hDg := oB15.ne_of hD (not_plain_def _)
        have h12 := n12_15
        have Hj := Lib.hid hj
        have Hds := Lib.hid hds
        obtain ⟨x1, x2⟩ := x
        clear hj hxe hds hx
        have oBat := oB15.at_
        have hgB : decide (E.length ≤ pre.length) = false := by simp; omega
        refine wpIn_block (wpIn_seq (wpIn_seq (region_round (by rintro ⟨_, _, h⟩; exact h) rfl ?_)))
        go_wp2_with (first
          | ((with_reducible refine gate_load (T := 3) (x := .tmp 15) ?_); refine wpList_loadCellW rfl rfl rfl Tryd.underlying3 rfl oB15.at_ rfl ?_)
          | ((with_reducible refine gate_load (T := 33) (x := .tmp 10) ?_); refine wpList_loadCellW rfl rfl rfl Tryd.underlying33 rfl (sB.inn.get hk10') rfl ?_)
          | ((with_reducible refine gate_load (T := 3) (x := .tmp 42) ?_); refine wpList_loadCellW rfl rfl rfl Tryd.underlying3 rfl (sB.inn.get hkb) (Hj.out 0 _ rfl) ?_)
          | ((with_reducible refine gate_load (T := 3) (x := .tmp 51) ?_); refine wpList_loadCellW rfl rfl rfl Tryd.underlying3 rfl (sB.inn.get hkb) (Hj.out 1 _ rfl) ?_)
          | ((with_reducible refine gate_load (T := 3) (x := .tmp 14) ?_); refine wpList_loadCellW rfl rfl rfl Tryd.underlying3 rfl (sB.inn.get hk14') rfl ?_)
          | ((with_reducible refine gate_load (T := 3) (x := .tmp 11) ?_); refine wpList_loadCellW rfl rfl rfl Tryd.underlying3 rfl (sB.inn.get hk11') rfl ?_)
          | ((with_reducible refine gate_store (T := 3) ?_); refine wpList_storeAll rfl rfl rfl rfl (cs := #[.int .i64 ((pre.length : Nat) + 1)]) rfl oB15.at_ rfl (by rw [size_int]; rfl) (by simp [Value.oneCell']) ?_; intro Wc hu; replace sB := sB.upd oB15 hu; replace oB12 := oB12.other hu h12.out; replace oB15 := oB15.upd hu; replace hl := hu.at hl hlg; replace hD := hu.at hD hDg; have hds2 : ∀ D ∈ [D0], D < Wb.heap.size ∧ Wc.heap[D]? = some (.deferred (some [])) := (fun D hD => ⟨(Hds.out D hD).1, hu.at (Hds.out D hD).2 (by rintro rfl; have := (Hds.out _ hD).2; rw [oBat] at this; cases this)⟩); replace hds2 := Lib.hid hds2; clear hu)
          | fail)
        refine wpIn_cond_false rfl (wpIn_skip ?_)
        refine wpIn_seq (region_round (by rintro ⟨_, _, h⟩; exact h) rfl ?_)
        go_wp2_with (first
          | ((with_reducible refine gate_load (T := 3) (x := .tmp 15) ?_); refine wpList_loadCellW rfl rfl rfl Tryd.underlying3 rfl oB15.at_ rfl ?_)
          | ((with_reducible refine gate_load (T := 33) (x := .tmp 10) ?_); refine wpList_loadCellW rfl rfl rfl Tryd.underlying33 rfl (sB.inn.get hk10') rfl ?_)
          | ((with_reducible refine gate_load (T := 3) (x := .tmp 42) ?_); refine wpList_loadCellW rfl rfl rfl Tryd.underlying3 rfl (sB.inn.get hkb) (Hj.out 0 _ rfl) ?_)
          | ((with_reducible refine gate_load (T := 3) (x := .tmp 51) ?_); refine wpList_loadCellW rfl rfl rfl Tryd.underlying3 rfl (sB.inn.get hkb) (Hj.out 1 _ rfl) ?_)
          | ((with_reducible refine gate_load (T := 3) (x := .tmp 14) ?_); refine wpList_loadCellW rfl rfl rfl Tryd.underlying3 rfl (sB.inn.get hk14') rfl ?_)
          | ((with_reducible refine gate_load (T := 3) (x := .tmp 11) ?_); refine wpList_loadCellW rfl rfl rfl Tryd.underlying3 rfl (sB.inn.get hk11') rfl ?_)
          | ((with_reducible refine gate_store (T := 3) ?_); refine wpList_storeAll rfl rfl rfl rfl (cs := #[.int .i64 ((pre.length : Nat) + 1)]) rfl oB15.at_ rfl (by rw [size_int]; rfl) (by simp [Value.oneCell']) ?_; intro Wc hu; replace sB := sB.upd oB15 hu; replace oB12 := oB12.other hu h12.out; replace oB15 := oB15.upd hu; replace hl := hu.at hl hlg; replace hD := hu.at hD hDg; have hds2 : ∀ D ∈ [D0], D < Wb.heap.size ∧ Wc.heap[D]? = some (.deferred (some [])) := (fun D hD => ⟨(Hds.out D hD).1, hu.at (Hds.out D hD).2 (by rintro rfl; have := (Hds.out _ hD).2; rw [oBat] at this; cases this)⟩); replace hds2 := Lib.hid hds2; clear hu)
          | fail)
        clear oBat
        refine wpIn_seq (region_round (by rintro ⟨_, _, h⟩; exact h) rfl ?_)
        have hlen1 : ((pre ++ [(x1, x2)]).length : Int) = (pre.length : Nat) + 1 := by simp
        have hYI : YI K w Wb.heap.size g12 g15 [D0] (pre ++ [(x1, x2)]) K1 Wc := ⟨sB, by rw [hlen1]; exact oB15, oB12, hds2.out⟩
        have HYI := Lib.hid hYI
        have Hlen1 := Lib.hid hlen1
        clear hYI hlen1
        go_wp2_with (first
          | ((with_reducible refine gate_load (T := 33) (x := .tmp 10) ?_); refine wpList_loadCellW rfl rfl rfl Tryd.underlying33 rfl (sB.inn.get hk10') rfl ?_)
          | ((with_reducible refine gate_load (T := 3) (x := .tmp 42) ?_); refine wpList_loadCellW rfl rfl rfl Tryd.underlying3 rfl (sB.inn.get hkb) (Hj.out 0 _ rfl) ?_)
          | ((with_reducible refine gate_load (T := 3) (x := .tmp 51) ?_); refine wpList_loadCellW rfl rfl rfl Tryd.underlying3 rfl (sB.inn.get hkb) (Hj.out 1 _ rfl) ?_)
          | ((with_reducible refine gate_load (T := 3) (x := .tmp 14) ?_); refine wpList_loadCellW rfl rfl rfl Tryd.underlying3 rfl (sB.inn.get hk14') rfl ?_)
          | ((with_reducible refine gate_store (T := 3) ?_); refine wpList_storeAll rfl rfl rfl rfl (cs := #[.int .i64 ((pre.length : Nat) + 1)]) rfl oB15.at_ rfl (by rw [size_int]; rfl) (by simp [Value.oneCell']) ?_; intro Wc hu; replace sB := sB.upd oB15 hu; replace oB12 := oB12.other hu h12.out; replace oB15 := oB15.upd hu; replace hl := hu.at hl hlg; replace hD := hu.at hD hDg; have hds2 : ∀ D ∈ [D0], D < Wb.heap.size ∧ Wc.heap[D]? = some (.deferred (some [])) := (fun D hD => ⟨(Hds.out D hD).1, hu.at (Hds.out D hD).2 (by rintro rfl; have := (Hds.out _ hD).2; rw [oBat] at this; cases this)⟩); replace hds2 := Lib.hid hds2; clear hu)
          | fail)
        refine wpIn_cond_false rfl (wpIn_skip ?_)
        exact ⟨⟨K1, Ext.refl _, HYI.out⟩, hl, hD⟩
      case done4 =>
        rintro D1 K1 W hD hE2 ⟨sB, oB15, oB12, hds⟩ hd1
        try simp only [Exit.inBlock, Exit.then]
        refine wpIn_wide.2 ?_
        have hk10' := hE2 _ _ hk10
        have hk11' := hE2 _ _ hk11
        have hk14' := hE2 _ _ hk14
        have hE07' := hE07.trans hE2
        have Hit' := Lib.hid (Hit.out.ext hE2)
        have hd0 := (hds D0 (by simp)).2
        have hdl : D0 < D1 := Nat.lt_of_lt_of_le (hds D0 (by simp)).1 hD
        have hDw : w.heap.size ≤ D1 := Nat.le_trans hB hD
        have h12 := n12_15
        clear hds hk10 hk11 hk14 n12_15 hE2 o12 o15 sb0
        have hbb : (((E.length : Nat) : Int) != ((E.length : Nat) : Int)) = false := by simp
        go_wp2_with (first
          | ((with_reducible refine gate_load (T := 3) (x := .tmp 15) (dst := some 65) ?_); refine wpList_loadCellW rfl rfl rfl Tryd.underlying3 rfl oB15.at_ rfl ?_)
          | ((with_reducible refine gate_load (T := 33) (x := .tmp 10) (dst := some 66) ?_); refine wpList_loadCellW rfl rfl rfl Tryd.underlying33 rfl (sB.inn.get hk10') rfl ?_)
          | fail)
        try simp only [Exit.inBlock, Exit.then]
        refine wpIn_wide.2 ?_
        go_wp2_with (first
          | ((with_reducible refine gate_load (T := 3) (x := .tmp 14) ?_); refine wpList_loadCellW rfl rfl rfl Tryd.underlying3 rfl (sB.inn.get hk14') rfl ?_)
          | ((with_reducible refine gate_alloc (T := 3) ?_); refine wpList_allocG rfl rfl zero_int (cs := #[.int .i64 0]) rfl ?_; intro g14n Wd e hn; have oN := Own.made sB e hn; have n12_N := Lib.hid (oB12.ne e); replace sB := sB.new hn; replace oB12 := oB12.new hn; replace hd0 := hn.at hd0; replace hd1 := hn.at hd1; clear e hn oB15)
          | ((with_reducible refine gate_store (T := 3) (y := .tmp 78) ?_); refine wpList_storeAll rfl rfl rfl rfl (cs := #[.int .i64 1]) rfl oN.at_ rfl (by rw [size_int]; rfl) (by simp [Value.oneCell']) ?_; intro We hu; replace sB := sB.upd oN hu; replace oB12 := oB12.other hu n12_N.out; replace hd0 := hu.at hd0 (oN.ne_of hd0 (not_plain_def _)); replace hd1 := hu.at hd1 (oN.ne_of hd1 (not_plain_def _)); replace oN := oN.upd hu; clear hu)
          | ((with_reducible refine gate_load (T := 3) (x := .tmp 14) ?_); refine wpList_loadCellW rfl rfl rfl Tryd.underlying3 rfl oN.at_ rfl ?_)
          | ((with_reducible refine gate_store (T := 3) (y := .tmp 30) ?_); refine wpList_storeAll rfl rfl rfl rfl (cs := #[.int .i64 2]) rfl oN.at_ rfl (by rw [size_int]; rfl) (by simp [Value.oneCell']) ?_; intro Wf hu; replace sB := sB.upd oN hu; replace oB12 := oB12.other hu n12_N.out; replace hd0 := hu.at hd0 (oN.ne_of hd0 (not_plain_def _)); replace hd1 := hu.at hd1 (oN.ne_of hd1 (not_plain_def _)); replace oN := oN.upd hu; clear hu)
          | fail)
        obtain ⟨Ka1, hEn, sa1, hk14, hfr⟩ := sB.shut' oN
        have o12 := hfr _ _ oB12 n12_N.out
        have hk10 := hEn _ _ hk10'
        have hk11 := hEn _ _ hk11'
        have hE07 := hE07'.trans hEn
        have Hit := Lib.hid (Hit'.out.ext hEn)
        clear hk10' hk11' hk14' hE07' Hit' hEn sB oN oB12 hfr n12_N h12
        rw [roundsIn_succ]
        refine wpIn_seq (wpIn_wide.2 ?_)
        go_wp2_with (first
          | ((with_reducible refine gate_load (T := 3) ?_); refine wpList_loadCellW rfl rfl rfl Tryd.underlying3 rfl (sa1.inn.get hk14) rfl ?_)
          | fail)
        try simp only [Exit.inBlock, Exit.then, if_true]
        refine wpIn_seq (wpIn_wide.2 ?_)
        go_wp2_with (first
          | ((with_reducible refine gate_store (T := 4) ?_); refine wpList_storeAll rfl rfl rfl rfl (cs := #[.bool true]) rfl o12.at_ rfl (by rw [size_bool]; rfl) (by simp [Value.oneCell']) ?_; intro Wz hu; replace sa1 := sa1.upd o12 hu; replace hd0 := hu.at hd0 (o12.ne_of hd0 (not_plain_def _)); replace hd1 := hu.at hd1 (o12.ne_of hd1 (not_plain_def _)); replace o12 := o12.upd hu; clear hu)
          | fail)
        refine wpIn_ret ?_
        refine ⟨by simp, .inl ⟨_, _, rfl, run_takeDeferred hd1, ?_⟩⟩
        have he1 := Ex.of_put (B := w.heap.size) (o' := .deferred none) sa1.inn hDw hd1 (not_plain_def _)
        have sy := sa1.ex he1 (Nat.le_refl _)
        have o12y := o12.ex he1
        have hd0y := (World.putObj_heap_other (o := .deferred none) (Nat.ne_of_lt hdl)).trans hd0
        refine ⟨by simp, .inl ⟨_, _, rfl, run_takeDeferred hd0y, ?_⟩⟩
        have he0 := Ex.of_put (B := w.heap.size) (o' := .deferred none) sy.inn hDw0 hd0y (not_plain_def _)
        have sz := sy.ex he0 (Nat.le_refl _)
        have o12z := o12y.ex he0
        refine ⟨_, run_cell_bool rfl _ _ g12 true rfl o12z.at_, ?_⟩
        exact ⟨rfl, sz.below⟩
      case stop4 =>
        rintro D c K1 W hD ⟨h, _⟩
        exact h.elim

set_option maxRecDepth 100000 in
set_option maxHeartbeats 32000000 in
theorem yields_true_ok (t : PT) (n : Int) (f u : Int) (wv : Value) (E : Ents) (nn : Int) (K : Fz) (w : World) (hK : K.In w) (hT : Tr 76 K t) (hS : SlK K 2 encE wv E) (hEl : E.length ≤ 1000000)
    (hE : E = walkTo 2 t 0 0 4096 16) :
    Calls Tryd.prog 24 #[treeV t n, .bool true, .int .i64 f, .int .i64 u, wv, .int .i64 nn] w fun e w' => e = .returned (.bool true) ∧ Below w.heap.size w w' := by
  have HS := Lib.hid hS
  have HE := Lib.hid hE
  obtain ⟨aw, cw, rfl, hcw, hxw⟩ := hS
  have Hxw := Lib.hid hxw
  clear hxw hE
  have s := St.start hK
  refine callsIn_wide.1 (callsIn_of_wp_marks (n := 0) Tryd.func24 rfl trivial ?_)
  simp only [Tryd.ntmps24, List.size_toArray, List.length_cons, List.length_nil, Nat.reduceAdd, Nat.reduceSub, Array.replicate_succ, Array.replicate_zero, List.push_toArray, List.append_toArray, List.nil_append, List.cons_append]
  refine wpIn_seq (wpIn_wide.2 ?_)
  go_wp2_with (first
    | ((with_reducible refine gate_box (T := 31) ?_); refine wpList_boxG rfl rfl rfl (cs := #[.pointer t.ptr, .int .i64 n]) rfl ?_; intro g6 W1 e hn; obtain ⟨K1, hE1, s1, hk6, _, _⟩ := s.box e hn; replace s := s1; clear s1 e hn)
    | ((with_reducible refine gate_box (T := 33) ?_); refine wpList_boxG rfl rfl rfl (cs := #[.slice aw E.length cw]) rfl ?_; intro g10 W2 e hn; obtain ⟨K2, hE2, s2, hk10, _, _⟩ := s.box e hn; replace s := s2; clear s2 e hn)
    | ((with_reducible refine gate_box (T := 3) ?_); refine wpList_boxG rfl rfl rfl (cs := #[.int .i64 nn]) rfl ?_; intro g11 W3 e hn; obtain ⟨K3, hE3, s3, hk11, _, _⟩ := s.box e hn; replace s := s3; clear s3 e hn)
    | ((with_reducible refine gate_alloc (T := 4) ?_); refine wpList_allocG rfl rfl (fun _ => zero_bool) (cs := #[.bool false]) rfl ?_; intro g12 W4 e hn; have o12 := Own.made s e hn; replace s := s.new hn; clear e hn)
    | fail)
  replace hk6 := hE3 _ _ (hE2 _ _ hk6)
  replace hk10 := hE3 _ _ hk10
  have hE03 := (hE1.trans hE2).trans hE3
  replace hT := hT.ext hE03
  clear hE1 hE2 hE3
  refine wpIn_seq (wpIn_wide.2 ?_)
  go_wp2_with (first
    | ((with_reducible refine gate_load (T := 31) ?_); refine wpList_load_row rfl 31 _ rfl _ rfl 31 _ _ _ (s.inn.get hk6) Tryd.underlying31 rfl (by rw [size_Tree]; rfl) ?_)
    | (go_at_call 38; refine (Range_ok t n f u K3 _ s.inn).mono ?_; rintro e W5 ⟨v5, K5, rfl, hi, hl, hb, ⟨g1, g2, g3, rfl, hg1, hg2, hg3⟩, hE5⟩; replace s := s.call hi hl hb; replace o12 := o12.call hl hb; clear hi hl hb)
    | fail)
  refine wpIn_seq (wpIn_wide.2 ?_)
  go_wp2_with (first
    | ((with_reducible refine gate_load (T := 31) ?_); refine wpList_load_row rfl 31 _ rfl _ rfl 31 _ _ _ (s.inn.get (hE5 _ _ hk6)) Tryd.underlying31 rfl (by rw [size_Tree]; rfl) ?_)
    | (go_at_call 39; clear hg1 hg2 hg3; refine (All_ok t n K5 _ s.inn).mono ?_; rintro e W6 ⟨v6, K6, rfl, hi, hl, hb, ⟨g1, g2, g3, rfl, hg1, hg2, hg3⟩, hE6⟩; replace s := s.call hi hl hb; replace o12 := o12.call hl hb; clear hi hl hb)
    | fail)
  replace hk10 := hE6 _ _ (hE5 _ _ hk10)
  replace hk11 := hE6 _ _ (hE5 _ _ hk11)
  replace hT := hT.ext (hE5.trans hE6)
  have hE06 : Ext K K6 := hE03.trans (hE5.trans hE6)
  clear hE5 hE6 hE03
  have hnil := run_eql_func_nil (W6) 43 #[.pointer (some ⟨g1, 0, none⟩), .pointer (some ⟨g2, 0, none⟩), .pointer (some ⟨g3, 0, none⟩)]
  refine wpIn_seq (wpIn_wide.2 ?_)
  go_wp2
  clear hnil
  refine wpIn_seq (wpIn_seq (wpIn_wide.2 ?_))
  go_wp2_with (first
    | ((with_reducible refine gate_alloc (T := 3) ?_); refine wpList_allocG rfl rfl zero_int (cs := #[.int .i64 0]) rfl ?_; intro g14 W8 e hn; have o14 := Own.made s e hn; have n12_14 := Lib.hid (o12.ne e); replace s := s.new hn; replace o12 := o12.new hn; clear e hn)
    | ((with_reducible refine gate_store (T := 3) ?_); refine wpList_storeAll rfl rfl rfl rfl (cs := #[.int .i64 0]) rfl o14.at_ rfl (by rw [size_int]; rfl) (by simp [Value.oneCell']) ?_; intro W9 hu; replace s := s.upd o14 hu; replace o12 := o12.other hu n12_14.out; replace o14 := o14.upd hu; clear hu)
    | fail)
  obtain ⟨K7, hE7, s7, hk14, hfr⟩ := s.shut' o14
  replace o12 := hfr _ _ o12 n12_14.out
  have hit := Range1_ok t n 0 4096 K6 g1 g2 g3 hT hg1 hg2 hg3
  rw [← HE.out] at hit
  replace hit := hit.ext hE7
  have Hit := Lib.hid hit
  replace hk10 := hE7 _ _ hk10
  replace hk11 := hE7 _ _ hk11
  have hE07 := hE06.trans hE7
  have HEl := Lib.hid hEl
  clear s o14 hfr hE7 hE06 hg1 hg2 hg3 hit hk6 n12_14
  refine wpIn_block (wpIn_loop_rounds 3 ?_)
  rw [roundsIn_succ]
  refine wpIn_seq (wpIn_wide.2 ?_)
  go_wp2_with (first
    | ((with_reducible refine gate_load (T := 3) ?_); refine wpList_loadCellW rfl rfl rfl Tryd.underlying3 rfl (s7.inn.get hk14) rfl ?_)
    | fail)
  refine wpIn_seq (wpIn_block (wpIn_seq (wpIn_wide.2 ?_)))
  go_wp2_with (first
    | ((with_reducible refine gate_alloc (T := 3) ?_); refine wpList_allocG rfl rfl zero_int (cs := #[.int .i64 0]) rfl ?_; intro g15 Wa e hn; have o15 := Own.made s7 e hn; have n12_15 := Lib.hid (o12.ne e); replace s7 := s7.new hn; replace o12 := o12.new hn; clear e hn)
    | ((with_reducible refine gate_store (T := 3) ?_); refine wpList_storeAll rfl rfl rfl rfl (cs := #[.int .i64 0]) rfl o15.at_ rfl (by rw [size_int]; rfl) (by simp [Value.oneCell']) ?_; intro Wb hu; replace s7 := s7.upd o15 hu; replace o12 := o12.other hu n12_15.out; replace o15 := o15.upd hu; clear hu)
    | fail)
  refine wpIn_seq (wpIn_seq (wpIn_wide.2 ?_))
  go_wp2
  refine wpIn_block ?_
  have hB := s7.size
  refine range_ok (gf := 43) (lb := #[.pointer (some ⟨g1, 0, none⟩), .pointer (some ⟨g2, 0, none⟩), .pointer (some ⟨g3, 0, none⟩)]) (K := K7) rfl (by intro args w; rfl) Hit.out (fun x => rfl)
    (YI K w Wb.heap.size g12 g15 []) (YX True nn K7 K w Wb.heap.size g12 g15 []) (fun _ _ _ h => h.1.inn) (fun _ _ _ _ _ h e => h.ex hB e) (fun _ _ _ h => by obtain ⟨_, _, _, _, _, h⟩ := h; exact h.1.inn)
    (fun _ _ _ _ _ h e => by obtain ⟨h1, h2, h5, p, h3, h4⟩ := h; exact ⟨h1, h2, h5.trans (Ext.of_le h4.1.inn e.same), p, h3, h4.ex hB e⟩) ⟨s7, o15, o12, by intro D hD; simp at hD⟩ ?a11 ?assign1 ?body1 ?done1 ?stop1
  case assign1 =>
    intro l x W N hN
    refine wpIn_seq (region_round (by rintro ⟨_, _, h⟩; exact h) rfl ?_)
    simp only [encP, List.size_toArray, List.length_cons, List.length_nil]
    go_wp2
    refine region_round (by rintro ⟨_, _, h⟩; exact h) rfl ?_
    go_wp2
    exact hN
  case body1 =>
    rintro l D r pre x rest K1 W hx hE1 ⟨sB, oB15, oB12, hds⟩ hl hD hlD hl0 hD0
    have hlt : pre.length < E.length := by have h := congrArg List.length hx; simp at h; omega
    have hxe : E[pre.length]? = some x := by rw [← hx]; simp
    have hEl := HEl.out
    obtain ⟨b, off, cs, ty, fr, ea, hkb, hj⟩ := Hxw.out pre.length x hxe
    subst ea
    replace hkb := hE1 _ _ (hE07 _ _ hkb)
    have hk10' := hE1 _ _ hk10
    have hk11' := hE1 _ _ hk11
    have hk14' := hE1 _ _ hk14
    have hlg := oB15.ne_of hl (not_plain_loop _)
    have hDg := oB15.ne_of hD (not_plain_def _)
    have h12 := n12_15
    have Hj := Lib.hid hj
    have Hds := Lib.hid hds
    obtain ⟨x1, x2⟩ := x
    clear hj hxe hds hx
    have oBat := oB15.at_
    have hgB : decide (E.length ≤ pre.length) = false := by simp; omega
    refine wpIn_block (wpIn_seq (wpIn_seq (region_round (by rintro ⟨_, _, h⟩; exact h) rfl ?_)))
    go_wp2_with (first
      | ((with_reducible refine gate_load (T := 3) (x := .tmp 15) ?_); refine wpList_loadCellW rfl rfl rfl Tryd.underlying3 rfl oB15.at_ rfl ?_)
      | ((with_reducible refine gate_load (T := 33) (x := .tmp 10) ?_); refine wpList_loadCellW rfl rfl rfl Tryd.underlying33 rfl (sB.inn.get hk10') rfl ?_)
      | ((with_reducible refine gate_load (T := 3) (x := .tmp 42) ?_); refine wpList_loadCellW rfl rfl rfl Tryd.underlying3 rfl (sB.inn.get hkb) (Hj.out 0 _ rfl) ?_)
      | ((with_reducible refine gate_load (T := 3) (x := .tmp 51) ?_); refine wpList_loadCellW rfl rfl rfl Tryd.underlying3 rfl (sB.inn.get hkb) (Hj.out 1 _ rfl) ?_)
      | ((with_reducible refine gate_load (T := 3) (x := .tmp 14) ?_); refine wpList_loadCellW rfl rfl rfl Tryd.underlying3 rfl (sB.inn.get hk14') rfl ?_)
      | ((with_reducible refine gate_load (T := 3) (x := .tmp 11) ?_); refine wpList_loadCellW rfl rfl rfl Tryd.underlying3 rfl (sB.inn.get hk11') rfl ?_)
      | ((with_reducible refine gate_store (T := 3) ?_); refine wpList_storeAll rfl rfl rfl rfl (cs := #[.int .i64 ((pre.length : Nat) + 1)]) rfl oB15.at_ rfl (by rw [size_int]; rfl) (by simp [Value.oneCell']) ?_; intro Wc hu; replace sB := sB.upd oB15 hu; replace oB12 := oB12.other hu h12.out; replace oB15 := oB15.upd hu; replace hl := hu.at hl hlg; replace hD := hu.at hD hDg; have hds2 : ∀ D ∈ [], D < Wb.heap.size ∧ Wc.heap[D]? = some (.deferred (some [])) := (fun D hD => ⟨(Hds.out D hD).1, hu.at (Hds.out D hD).2 (by rintro rfl; have := (Hds.out _ hD).2; rw [oBat] at this; cases this)⟩); replace hds2 := Lib.hid hds2; clear hu)
      | fail)
    refine wpIn_cond_false rfl (wpIn_skip ?_)
    refine wpIn_seq (region_round (by rintro ⟨_, _, h⟩; exact h) rfl ?_)
    go_wp2_with (first
      | ((with_reducible refine gate_load (T := 3) (x := .tmp 15) ?_); refine wpList_loadCellW rfl rfl rfl Tryd.underlying3 rfl oB15.at_ rfl ?_)
      | ((with_reducible refine gate_load (T := 33) (x := .tmp 10) ?_); refine wpList_loadCellW rfl rfl rfl Tryd.underlying33 rfl (sB.inn.get hk10') rfl ?_)
      | ((with_reducible refine gate_load (T := 3) (x := .tmp 42) ?_); refine wpList_loadCellW rfl rfl rfl Tryd.underlying3 rfl (sB.inn.get hkb) (Hj.out 0 _ rfl) ?_)
      | ((with_reducible refine gate_load (T := 3) (x := .tmp 51) ?_); refine wpList_loadCellW rfl rfl rfl Tryd.underlying3 rfl (sB.inn.get hkb) (Hj.out 1 _ rfl) ?_)
      | ((with_reducible refine gate_load (T := 3) (x := .tmp 14) ?_); refine wpList_loadCellW rfl rfl rfl Tryd.underlying3 rfl (sB.inn.get hk14') rfl ?_)
      | ((with_reducible refine gate_load (T := 3) (x := .tmp 11) ?_); refine wpList_loadCellW rfl rfl rfl Tryd.underlying3 rfl (sB.inn.get hk11') rfl ?_)
      | ((with_reducible refine gate_store (T := 3) ?_); refine wpList_storeAll rfl rfl rfl rfl (cs := #[.int .i64 ((pre.length : Nat) + 1)]) rfl oB15.at_ rfl (by rw [size_int]; rfl) (by simp [Value.oneCell']) ?_; intro Wc hu; replace sB := sB.upd oB15 hu; replace oB12 := oB12.other hu h12.out; replace oB15 := oB15.upd hu; replace hl := hu.at hl hlg; replace hD := hu.at hD hDg; have hds2 : ∀ D ∈ [], D < Wb.heap.size ∧ Wc.heap[D]? = some (.deferred (some [])) := (fun D hD => ⟨(Hds.out D hD).1, hu.at (Hds.out D hD).2 (by rintro rfl; have := (Hds.out _ hD).2; rw [oBat] at this; cases this)⟩); replace hds2 := Lib.hid hds2; clear hu)
      | fail)
    clear oBat
    refine wpIn_seq (region_round (by rintro ⟨_, _, h⟩; exact h) rfl ?_)
    have hlen1 : ((pre ++ [(x1, x2)]).length : Int) = (pre.length : Nat) + 1 := by simp
    have hYI : YI K w Wb.heap.size g12 g15 [] (pre ++ [(x1, x2)]) K1 Wc := ⟨sB, by rw [hlen1]; exact oB15, oB12, hds2.out⟩
    have HYI := Lib.hid hYI
    have Hlen1 := Lib.hid hlen1
    clear hYI hlen1
    by_cases hst : ((pre.length : Nat) : Int) + 1 = nn
    · have hsb : (((pre.length : Nat) : Int) + 1 == nn) = true := by rw [beq_iff_eq]; exact hst
      have Hst := Lib.hid hst
      clear hst
      go_wp2_with (first
        | ((with_reducible refine gate_load (T := 3) (x := .tmp 15) ?_); refine wpList_loadCellW rfl rfl rfl Tryd.underlying3 rfl oB15.at_ rfl ?_)
        | ((with_reducible refine gate_load (T := 33) (x := .tmp 10) ?_); refine wpList_loadCellW rfl rfl rfl Tryd.underlying33 rfl (sB.inn.get hk10') rfl ?_)
        | ((with_reducible refine gate_load (T := 3) (x := .tmp 42) ?_); refine wpList_loadCellW rfl rfl rfl Tryd.underlying3 rfl (sB.inn.get hkb) (Hj.out 0 _ rfl) ?_)
        | ((with_reducible refine gate_load (T := 3) (x := .tmp 51) ?_); refine wpList_loadCellW rfl rfl rfl Tryd.underlying3 rfl (sB.inn.get hkb) (Hj.out 1 _ rfl) ?_)
        | ((with_reducible refine gate_load (T := 3) (x := .tmp 14) ?_); refine wpList_loadCellW rfl rfl rfl Tryd.underlying3 rfl (sB.inn.get hk14') rfl ?_)
        | ((with_reducible refine gate_load (T := 3) (x := .tmp 11) ?_); refine wpList_loadCellW rfl rfl rfl Tryd.underlying3 rfl (sB.inn.get hk11') rfl ?_)
        | ((with_reducible refine gate_store (T := 3) ?_); refine wpList_storeAll rfl rfl rfl rfl (cs := #[.int .i64 ((pre.length : Nat) + 1)]) rfl oB15.at_ rfl (by rw [size_int]; rfl) (by simp [Value.oneCell']) ?_; intro Wc hu; replace sB := sB.upd oB15 hu; replace oB12 := oB12.other hu h12.out; replace oB15 := oB15.upd hu; replace hl := hu.at hl hlg; replace hD := hu.at hD hDg; have hds2 : ∀ D ∈ [], D < Wb.heap.size ∧ Wc.heap[D]? = some (.deferred (some [])) := (fun D hD => ⟨(Hds.out D hD).1, hu.at (Hds.out D hD).2 (by rintro rfl; have := (Hds.out _ hD).2; rw [oBat] at this; cases this)⟩); replace hds2 := Lib.hid hds2; clear hu)
        | fail)
      refine wpIn_cond_true rfl (wpIn_exit ?_)
      exact ⟨⟨K1, trivial, rfl, hE1, _, Hlen1.out.trans Hst.out, HYI.out⟩, hl, hD⟩
    · have hsb : (((pre.length : Nat) : Int) + 1 == nn) = false := by rw [beq_eq_false_iff_ne]; exact hst
      clear hst
      go_wp2_with (first
        | ((with_reducible refine gate_load (T := 3) (x := .tmp 15) ?_); refine wpList_loadCellW rfl rfl rfl Tryd.underlying3 rfl oB15.at_ rfl ?_)
        | ((with_reducible refine gate_load (T := 33) (x := .tmp 10) ?_); refine wpList_loadCellW rfl rfl rfl Tryd.underlying33 rfl (sB.inn.get hk10') rfl ?_)
        | ((with_reducible refine gate_load (T := 3) (x := .tmp 42) ?_); refine wpList_loadCellW rfl rfl rfl Tryd.underlying3 rfl (sB.inn.get hkb) (Hj.out 0 _ rfl) ?_)
        | ((with_reducible refine gate_load (T := 3) (x := .tmp 51) ?_); refine wpList_loadCellW rfl rfl rfl Tryd.underlying3 rfl (sB.inn.get hkb) (Hj.out 1 _ rfl) ?_)
        | ((with_reducible refine gate_load (T := 3) (x := .tmp 14) ?_); refine wpList_loadCellW rfl rfl rfl Tryd.underlying3 rfl (sB.inn.get hk14') rfl ?_)
        | ((with_reducible refine gate_load (T := 3) (x := .tmp 11) ?_); refine wpList_loadCellW rfl rfl rfl Tryd.underlying3 rfl (sB.inn.get hk11') rfl ?_)
        | ((with_reducible refine gate_store (T := 3) ?_); refine wpList_storeAll rfl rfl rfl rfl (cs := #[.int .i64 ((pre.length : Nat) + 1)]) rfl oB15.at_ rfl (by rw [size_int]; rfl) (by simp [Value.oneCell']) ?_; intro Wc hu; replace sB := sB.upd oB15 hu; replace oB12 := oB12.other hu h12.out; replace oB15 := oB15.upd hu; replace hl := hu.at hl hlg; replace hD := hu.at hD hDg; have hds2 : ∀ D ∈ [], D < Wb.heap.size ∧ Wc.heap[D]? = some (.deferred (some [])) := (fun D hD => ⟨(Hds.out D hD).1, hu.at (Hds.out D hD).2 (by rintro rfl; have := (Hds.out _ hD).2; rw [oBat] at this; cases this)⟩); replace hds2 := Lib.hid hds2; clear hu)
        | fail)
      refine wpIn_cond_false rfl (wpIn_skip ?_)
      exact ⟨⟨K1, Ext.refl _, HYI.out⟩, hl, hD⟩
  case done1 =>
    rintro D0 K1 W hD hE2 ⟨sB, oB15, oB12, hds⟩ hd0
    try simp only [Exit.inBlock, Exit.then]
    refine wpIn_wide.2 ?_
    have hk10' := hE2 _ _ hk10
    have hk11' := hE2 _ _ hk11
    have hk14' := hE2 _ _ hk14
    have hE07' := hE07.trans hE2
    have Hit' := Lib.hid (Hit.out.ext hE2)
    have hDw0 : w.heap.size ≤ D0 := Nat.le_trans hB hD
    have h12 := n12_15
    clear hds hk10 hk11 hk14 n12_15 hE2 o12 o15 s7
    have hbb : (((E.length : Nat) : Int) != ((E.length : Nat) : Int)) = false := by simp
    go_wp2_with (first
      | ((with_reducible refine gate_load (T := 3) (x := .tmp 15) (dst := some 65) ?_); refine wpList_loadCellW rfl rfl rfl Tryd.underlying3 rfl oB15.at_ rfl ?_)
      | ((with_reducible refine gate_load (T := 33) (x := .tmp 10) (dst := some 66) ?_); refine wpList_loadCellW rfl rfl rfl Tryd.underlying33 rfl (sB.inn.get hk10') rfl ?_)
      | fail)
    try simp only [Exit.inBlock, Exit.then]
    refine wpIn_wide.2 ?_
    go_wp2_with (first
      | ((with_reducible refine gate_load (T := 3) (x := .tmp 14) ?_); refine wpList_loadCellW rfl rfl rfl Tryd.underlying3 rfl (sB.inn.get hk14') rfl ?_)
      | ((with_reducible refine gate_alloc (T := 3) ?_); refine wpList_allocG rfl rfl zero_int (cs := #[.int .i64 0]) rfl ?_; intro g14n Wd e hn; have oN := Own.made sB e hn; have n12_N := Lib.hid (oB12.ne e); replace sB := sB.new hn; replace oB12 := oB12.new hn; replace hd0 := hn.at hd0; clear e hn oB15)
      | ((with_reducible refine gate_store (T := 3) (y := .tmp 78) ?_); refine wpList_storeAll rfl rfl rfl rfl (cs := #[.int .i64 0]) rfl oN.at_ rfl (by rw [size_int]; rfl) (by simp [Value.oneCell']) ?_; intro We hu; replace sB := sB.upd oN hu; replace oB12 := oB12.other hu n12_N.out; replace hd0 := hu.at hd0 (oN.ne_of hd0 (not_plain_def _)); replace oN := oN.upd hu; clear hu)
      | ((with_reducible refine gate_load (T := 3) (x := .tmp 14) ?_); refine wpList_loadCellW rfl rfl rfl Tryd.underlying3 rfl oN.at_ rfl ?_)
      | ((with_reducible refine gate_store (T := 3) (y := .tmp 30) ?_); refine wpList_storeAll rfl rfl rfl rfl (cs := #[.int .i64 1]) rfl oN.at_ rfl (by rw [size_int]; rfl) (by simp [Value.oneCell']) ?_; intro Wf hu; replace sB := sB.upd oN hu; replace oB12 := oB12.other hu n12_N.out; replace hd0 := hu.at hd0 (oN.ne_of hd0 (not_plain_def _)); replace oN := oN.upd hu; clear hu)
      | fail)
    obtain ⟨Ka0, hEn, sa0, hk14, hfr⟩ := sB.shut' oN
    have o12 := hfr _ _ oB12 n12_N.out
    have hk10 := hEn _ _ hk10'
    have hk11 := hEn _ _ hk11'
    have hE07 := hE07'.trans hEn
    have Hit := Lib.hid (Hit'.out.ext hEn)
    clear hk10' hk11' hk14' hE07' Hit' hEn sB oN oB12 hfr n12_N h12
    rw [roundsIn_succ]
    refine wpIn_seq (wpIn_wide.2 ?_)
    go_wp2_with (first
      | ((with_reducible refine gate_load (T := 3) ?_); refine wpList_loadCellW rfl rfl rfl Tryd.underlying3 rfl (sa0.inn.get hk14) rfl ?_)
      | fail)
    refine wpIn_seq (wpIn_block (wpIn_seq (wpIn_wide.2 ?_)))
    go_wp2_with (first
      | ((with_reducible refine gate_alloc (T := 3) ?_); refine wpList_allocG rfl rfl zero_int (cs := #[.int .i64 0]) rfl ?_; intro g15 Wa e hn; have o15 := Own.made sa0 e hn; have n12_15 := Lib.hid (o12.ne e); replace sa0 := sa0.new hn; replace o12 := o12.new hn; replace hd0 := hn.at hd0; clear e hn)
      | ((with_reducible refine gate_store (T := 3) ?_); refine wpList_storeAll rfl rfl rfl rfl (cs := #[.int .i64 0]) rfl o15.at_ rfl (by rw [size_int]; rfl) (by simp [Value.oneCell']) ?_; intro Wb hu; replace sa0 := sa0.upd o15 hu; replace o12 := o12.other hu n12_15.out; replace hd0 := hu.at hd0 (o15.ne_of hd0 (not_plain_def _)); replace o15 := o15.upd hu; clear hu)
      | fail)
    refine wpIn_seq (wpIn_seq (wpIn_wide.2 ?_))
    go_wp2
    refine wpIn_block ?_
    have hB := sa0.size
    refine range_ok (gf := 43) (lb := #[.pointer (some ⟨g1, 0, none⟩), .pointer (some ⟨g2, 0, none⟩), .pointer (some ⟨g3, 0, none⟩)]) (K := Ka0) rfl (by intro args w; rfl) Hit.out (fun x => rfl)
      (YI K w Wb.heap.size g12 g15 [D0]) (YX False nn Ka0 K w Wb.heap.size g12 g15 [D0]) (fun _ _ _ h => h.1.inn) (fun _ _ _ _ _ h e => h.ex hB e) (fun _ _ _ h => by obtain ⟨_, _, _, _, _, h⟩ := h; exact h.1.inn)
      (fun _ _ _ _ _ h e => by obtain ⟨h1, h2, h5, p, h3, h4⟩ := h; exact ⟨h1, h2, h5.trans (Ext.of_le h4.1.inn e.same), p, h3, h4.ex hB e⟩) ⟨sa0, o15, o12, by intro D hD; simp at hD; subst hD; exact ⟨lt_of_at hd0, hd0⟩⟩ ?a12 ?assign2 ?body2 ?done2 ?stop2
    case assign2 =>
      intro l x W N hN
      refine wpIn_seq (region_round (by rintro ⟨_, _, h⟩; exact h) rfl ?_)
      simp only [encP, List.size_toArray, List.length_cons, List.length_nil]
      go_wp2
      refine region_round (by rintro ⟨_, _, h⟩; exact h) rfl ?_
      go_wp2
      exact hN
    case body2 =>
      rintro l D r pre x rest K1 W hx hE1 ⟨sB, oB15, oB12, hds⟩ hl hD hlD hl0 hD0
      have hlt : pre.length < E.length := by have h := congrArg List.length hx; simp at h; omega
      have hxe : E[pre.length]? = some x := by rw [← hx]; simp
      have hEl := HEl.out
      obtain ⟨b, off, cs, ty, fr, ea, hkb, hj⟩ := Hxw.out pre.length x hxe
      subst ea
      replace hkb := hE1 _ _ (hE07 _ _ hkb)
      have hk10' := hE1 _ _ hk10
      have hk11' := hE1 _ _ hk11
      have hk14' := hE1 _ _ hk14
      have hlg := oB15.ne_of hl (not_plain_loop _)
      have hDg := oB15.ne_of hD (not_plain_def _)
      have h12 := n12_15
      have Hj := Lib.hid hj
      have Hds := Lib.hid hds
      obtain ⟨x1, x2⟩ := x
      clear hj hxe hds hx
      have oBat := oB15.at_
      have hgB : decide (E.length ≤ pre.length) = false := by simp; omega
      refine wpIn_block (wpIn_seq (wpIn_seq (region_round (by rintro ⟨_, _, h⟩; exact h) rfl ?_)))
      go_wp2_with (first
        | ((with_reducible refine gate_load (T := 3) (x := .tmp 15) ?_); refine wpList_loadCellW rfl rfl rfl Tryd.underlying3 rfl oB15.at_ rfl ?_)
        | ((with_reducible refine gate_load (T := 33) (x := .tmp 10) ?_); refine wpList_loadCellW rfl rfl rfl Tryd.underlying33 rfl (sB.inn.get hk10') rfl ?_)
        | ((with_reducible refine gate_load (T := 3) (x := .tmp 42) ?_); refine wpList_loadCellW rfl rfl rfl Tryd.underlying3 rfl (sB.inn.get hkb) (Hj.out 0 _ rfl) ?_)
        | ((with_reducible refine gate_load (T := 3) (x := .tmp 51) ?_); refine wpList_loadCellW rfl rfl rfl Tryd.underlying3 rfl (sB.inn.get hkb) (Hj.out 1 _ rfl) ?_)
        | ((with_reducible refine gate_load (T := 3) (x := .tmp 14) ?_); refine wpList_loadCellW rfl rfl rfl Tryd.underlying3 rfl (sB.inn.get hk14') rfl ?_)
        | ((with_reducible refine gate_load (T := 3) (x := .tmp 11) ?_); refine wpList_loadCellW rfl rfl rfl Tryd.underlying3 rfl (sB.inn.get hk11') rfl ?_)
        | ((with_reducible refine gate_store (T := 3) ?_); refine wpList_storeAll rfl rfl rfl rfl (cs := #[.int .i64 ((pre.length : Nat) + 1)]) rfl oB15.at_ rfl (by rw [size_int]; rfl) (by simp [Value.oneCell']) ?_; intro Wc hu; replace sB := sB.upd oB15 hu; replace oB12 := oB12.other hu h12.out; replace oB15 := oB15.upd hu; replace hl := hu.at hl hlg; replace hD := hu.at hD hDg; have hds2 : ∀ D ∈ [D0], D < Wb.heap.size ∧ Wc.heap[D]? = some (.deferred (some [])) := (fun D hD => ⟨(Hds.out D hD).1, hu.at (Hds.out D hD).2 (by rintro rfl; have := (Hds.out _ hD).2; rw [oBat] at this; cases this)⟩); replace hds2 := Lib.hid hds2; clear hu)
        | fail)
      refine wpIn_cond_false rfl (wpIn_skip ?_)
      refine wpIn_seq (region_round (by rintro ⟨_, _, h⟩; exact h) rfl ?_)
      go_wp2_with (first
        | ((with_reducible refine gate_load (T := 3) (x := .tmp 15) ?_); refine wpList_loadCellW rfl rfl rfl Tryd.underlying3 rfl oB15.at_ rfl ?_)
        | ((with_reducible refine gate_load (T := 33) (x := .tmp 10) ?_); refine wpList_loadCellW rfl rfl rfl Tryd.underlying33 rfl (sB.inn.get hk10') rfl ?_)
        | ((with_reducible refine gate_load (T := 3) (x := .tmp 42) ?_); refine wpList_loadCellW rfl rfl rfl Tryd.underlying3 rfl (sB.inn.get hkb) (Hj.out 0 _ rfl) ?_)
        | ((with_reducible refine gate_load (T := 3) (x := .tmp 51) ?_); refine wpList_loadCellW rfl rfl rfl Tryd.underlying3 rfl (sB.inn.get hkb) (Hj.out 1 _ rfl) ?_)
        | ((with_reducible refine gate_load (T := 3) (x := .tmp 14) ?_); refine wpList_loadCellW rfl rfl rfl Tryd.underlying3 rfl (sB.inn.get hk14') rfl ?_)
        | ((with_reducible refine gate_load (T := 3) (x := .tmp 11) ?_); refine wpList_loadCellW rfl rfl rfl Tryd.underlying3 rfl (sB.inn.get hk11') rfl ?_)
        | ((with_reducible refine gate_store (T := 3) ?_); refine wpList_storeAll rfl rfl rfl rfl (cs := #[.int .i64 ((pre.length : Nat) + 1)]) rfl oB15.at_ rfl (by rw [size_int]; rfl) (by simp [Value.oneCell']) ?_; intro Wc hu; replace sB := sB.upd oB15 hu; replace oB12 := oB12.other hu h12.out; replace oB15 := oB15.upd hu; replace hl := hu.at hl hlg; replace hD := hu.at hD hDg; have hds2 : ∀ D ∈ [D0], D < Wb.heap.size ∧ Wc.heap[D]? = some (.deferred (some [])) := (fun D hD => ⟨(Hds.out D hD).1, hu.at (Hds.out D hD).2 (by rintro rfl; have := (Hds.out _ hD).2; rw [oBat] at this; cases this)⟩); replace hds2 := Lib.hid hds2; clear hu)
        | fail)
      clear oBat
      refine wpIn_seq (region_round (by rintro ⟨_, _, h⟩; exact h) rfl ?_)
      have hlen1 : ((pre ++ [(x1, x2)]).length : Int) = (pre.length : Nat) + 1 := by simp
      have hYI : YI K w Wb.heap.size g12 g15 [D0] (pre ++ [(x1, x2)]) K1 Wc := ⟨sB, by rw [hlen1]; exact oB15, oB12, hds2.out⟩
      have HYI := Lib.hid hYI
      have Hlen1 := Lib.hid hlen1
      clear hYI hlen1
      go_wp2_with (first
        | ((with_reducible refine gate_load (T := 33) (x := .tmp 10) ?_); refine wpList_loadCellW rfl rfl rfl Tryd.underlying33 rfl (sB.inn.get hk10') rfl ?_)
        | ((with_reducible refine gate_load (T := 3) (x := .tmp 42) ?_); refine wpList_loadCellW rfl rfl rfl Tryd.underlying3 rfl (sB.inn.get hkb) (Hj.out 0 _ rfl) ?_)
        | ((with_reducible refine gate_load (T := 3) (x := .tmp 51) ?_); refine wpList_loadCellW rfl rfl rfl Tryd.underlying3 rfl (sB.inn.get hkb) (Hj.out 1 _ rfl) ?_)
        | ((with_reducible refine gate_load (T := 3) (x := .tmp 14) ?_); refine wpList_loadCellW rfl rfl rfl Tryd.underlying3 rfl (sB.inn.get hk14') rfl ?_)
        | ((with_reducible refine gate_store (T := 3) ?_); refine wpList_storeAll rfl rfl rfl rfl (cs := #[.int .i64 ((pre.length : Nat) + 1)]) rfl oB15.at_ rfl (by rw [size_int]; rfl) (by simp [Value.oneCell']) ?_; intro Wc hu; replace sB := sB.upd oB15 hu; replace oB12 := oB12.other hu h12.out; replace oB15 := oB15.upd hu; replace hl := hu.at hl hlg; replace hD := hu.at hD hDg; have hds2 : ∀ D ∈ [D0], D < Wb.heap.size ∧ Wc.heap[D]? = some (.deferred (some [])) := (fun D hD => ⟨(Hds.out D hD).1, hu.at (Hds.out D hD).2 (by rintro rfl; have := (Hds.out _ hD).2; rw [oBat] at this; cases this)⟩); replace hds2 := Lib.hid hds2; clear hu)
        | fail)
      refine wpIn_cond_false rfl (wpIn_skip ?_)
      exact ⟨⟨K1, Ext.refl _, HYI.out⟩, hl, hD⟩
    case done2 =>
      rintro D1 K1 W hD hE2 ⟨sB, oB15, oB12, hds⟩ hd1
      try simp only [Exit.inBlock, Exit.then]
      refine wpIn_wide.2 ?_
      have hk10' := hE2 _ _ hk10
      have hk11' := hE2 _ _ hk11
      have hk14' := hE2 _ _ hk14
      have hE07' := hE07.trans hE2
      have Hit' := Lib.hid (Hit.out.ext hE2)
      have hd0 := (hds D0 (by simp)).2
      have hdl : D0 < D1 := Nat.lt_of_lt_of_le (hds D0 (by simp)).1 hD
      have hDw : w.heap.size ≤ D1 := Nat.le_trans hB hD
      have h12 := n12_15
      clear hds hk10 hk11 hk14 n12_15 hE2 o12 o15 sa0
      have hbb : (((E.length : Nat) : Int) != ((E.length : Nat) : Int)) = false := by simp
      go_wp2_with (first
        | ((with_reducible refine gate_load (T := 3) (x := .tmp 15) (dst := some 65) ?_); refine wpList_loadCellW rfl rfl rfl Tryd.underlying3 rfl oB15.at_ rfl ?_)
        | ((with_reducible refine gate_load (T := 33) (x := .tmp 10) (dst := some 66) ?_); refine wpList_loadCellW rfl rfl rfl Tryd.underlying33 rfl (sB.inn.get hk10') rfl ?_)
        | fail)
      try simp only [Exit.inBlock, Exit.then]
      refine wpIn_wide.2 ?_
      go_wp2_with (first
        | ((with_reducible refine gate_load (T := 3) (x := .tmp 14) ?_); refine wpList_loadCellW rfl rfl rfl Tryd.underlying3 rfl (sB.inn.get hk14') rfl ?_)
        | ((with_reducible refine gate_alloc (T := 3) ?_); refine wpList_allocG rfl rfl zero_int (cs := #[.int .i64 0]) rfl ?_; intro g14n Wd e hn; have oN := Own.made sB e hn; have n12_N := Lib.hid (oB12.ne e); replace sB := sB.new hn; replace oB12 := oB12.new hn; replace hd0 := hn.at hd0; replace hd1 := hn.at hd1; clear e hn oB15)
        | ((with_reducible refine gate_store (T := 3) (y := .tmp 78) ?_); refine wpList_storeAll rfl rfl rfl rfl (cs := #[.int .i64 1]) rfl oN.at_ rfl (by rw [size_int]; rfl) (by simp [Value.oneCell']) ?_; intro We hu; replace sB := sB.upd oN hu; replace oB12 := oB12.other hu n12_N.out; replace hd0 := hu.at hd0 (oN.ne_of hd0 (not_plain_def _)); replace hd1 := hu.at hd1 (oN.ne_of hd1 (not_plain_def _)); replace oN := oN.upd hu; clear hu)
        | ((with_reducible refine gate_load (T := 3) (x := .tmp 14) ?_); refine wpList_loadCellW rfl rfl rfl Tryd.underlying3 rfl oN.at_ rfl ?_)
        | ((with_reducible refine gate_store (T := 3) (y := .tmp 30) ?_); refine wpList_storeAll rfl rfl rfl rfl (cs := #[.int .i64 2]) rfl oN.at_ rfl (by rw [size_int]; rfl) (by simp [Value.oneCell']) ?_; intro Wf hu; replace sB := sB.upd oN hu; replace oB12 := oB12.other hu n12_N.out; replace hd0 := hu.at hd0 (oN.ne_of hd0 (not_plain_def _)); replace hd1 := hu.at hd1 (oN.ne_of hd1 (not_plain_def _)); replace oN := oN.upd hu; clear hu)
        | fail)
      obtain ⟨Ka1, hEn, sa1, hk14, hfr⟩ := sB.shut' oN
      have o12 := hfr _ _ oB12 n12_N.out
      have hk10 := hEn _ _ hk10'
      have hk11 := hEn _ _ hk11'
      have hE07 := hE07'.trans hEn
      have Hit := Lib.hid (Hit'.out.ext hEn)
      clear hk10' hk11' hk14' hE07' Hit' hEn sB oN oB12 hfr n12_N h12
      rw [roundsIn_succ]
      refine wpIn_seq (wpIn_wide.2 ?_)
      go_wp2_with (first
        | ((with_reducible refine gate_load (T := 3) ?_); refine wpList_loadCellW rfl rfl rfl Tryd.underlying3 rfl (sa1.inn.get hk14) rfl ?_)
        | fail)
      try simp only [Exit.inBlock, Exit.then, if_true]
      refine wpIn_seq (wpIn_wide.2 ?_)
      go_wp2_with (first
        | ((with_reducible refine gate_store (T := 4) ?_); refine wpList_storeAll rfl rfl rfl rfl (cs := #[.bool true]) rfl o12.at_ rfl (by rw [size_bool]; rfl) (by simp [Value.oneCell']) ?_; intro Wz hu; replace sa1 := sa1.upd o12 hu; replace hd0 := hu.at hd0 (o12.ne_of hd0 (not_plain_def _)); replace hd1 := hu.at hd1 (o12.ne_of hd1 (not_plain_def _)); replace o12 := o12.upd hu; clear hu)
        | fail)
      refine wpIn_ret ?_
      refine ⟨by simp, .inl ⟨_, _, rfl, run_takeDeferred hd1, ?_⟩⟩
      have he1 := Ex.of_put (B := w.heap.size) (o' := .deferred none) sa1.inn hDw hd1 (not_plain_def _)
      have sy := sa1.ex he1 (Nat.le_refl _)
      have o12y := o12.ex he1
      have hd0y := (World.putObj_heap_other (o := .deferred none) (Nat.ne_of_lt hdl)).trans hd0
      refine ⟨by simp, .inl ⟨_, _, rfl, run_takeDeferred hd0y, ?_⟩⟩
      have he0 := Ex.of_put (B := w.heap.size) (o' := .deferred none) sy.inn hDw0 hd0y (not_plain_def _)
      have sz := sy.ex he0 (Nat.le_refl _)
      have o12z := o12y.ex he0
      refine ⟨_, run_cell_bool rfl _ _ g12 true rfl o12z.at_, ?_⟩
      exact ⟨rfl, sz.below⟩
    case stop2 =>
      rintro D c K1 W hD ⟨h, _⟩
      exact h.elim
  case stop1 =>
    rintro D0 c K1 W hD ⟨_, rfl, hE2, pst, hpn, sB, oB15, oB12, hds⟩ hd0
    subst hpn
    refine wpIn_exit ?_
    try simp only [Exit.inBlock, Exit.then, if_true]
    refine wpIn_wide.2 ?_
    cases hbb : (((pst.length : Nat) : Int) != ((E.length : Nat) : Int))
    case false =>
      have hk10' := hE2 _ _ hk10
      have hk11' := hE2 _ _ hk11
      have hk14' := hE2 _ _ hk14
      have hE07' := hE07.trans hE2
      have Hit' := Lib.hid (Hit.out.ext hE2)
      have hDw0 : w.heap.size ≤ D0 := Nat.le_trans hB hD
      have h12 := n12_15
      clear hds hk10 hk11 hk14 n12_15 hE2 o12 o15 s7
      go_wp2_with (first
        | ((with_reducible refine gate_load (T := 3) (x := .tmp 15) (dst := some 65) ?_); refine wpList_loadCellW rfl rfl rfl Tryd.underlying3 rfl oB15.at_ rfl ?_)
        | ((with_reducible refine gate_load (T := 33) (x := .tmp 10) (dst := some 66) ?_); refine wpList_loadCellW rfl rfl rfl Tryd.underlying33 rfl (sB.inn.get hk10') rfl ?_)
        | fail)
      try simp only [Exit.inBlock, Exit.then]
      refine wpIn_wide.2 ?_
      go_wp2_with (first
        | ((with_reducible refine gate_load (T := 3) (x := .tmp 14) ?_); refine wpList_loadCellW rfl rfl rfl Tryd.underlying3 rfl (sB.inn.get hk14') rfl ?_)
        | ((with_reducible refine gate_alloc (T := 3) ?_); refine wpList_allocG rfl rfl zero_int (cs := #[.int .i64 0]) rfl ?_; intro g14n Wd e hn; have oN := Own.made sB e hn; have n12_N := Lib.hid (oB12.ne e); replace sB := sB.new hn; replace oB12 := oB12.new hn; replace hd0 := hn.at hd0; clear e hn oB15)
        | ((with_reducible refine gate_store (T := 3) (y := .tmp 78) ?_); refine wpList_storeAll rfl rfl rfl rfl (cs := #[.int .i64 0]) rfl oN.at_ rfl (by rw [size_int]; rfl) (by simp [Value.oneCell']) ?_; intro We hu; replace sB := sB.upd oN hu; replace oB12 := oB12.other hu n12_N.out; replace hd0 := hu.at hd0 (oN.ne_of hd0 (not_plain_def _)); replace oN := oN.upd hu; clear hu)
        | ((with_reducible refine gate_load (T := 3) (x := .tmp 14) ?_); refine wpList_loadCellW rfl rfl rfl Tryd.underlying3 rfl oN.at_ rfl ?_)
        | ((with_reducible refine gate_store (T := 3) (y := .tmp 30) ?_); refine wpList_storeAll rfl rfl rfl rfl (cs := #[.int .i64 1]) rfl oN.at_ rfl (by rw [size_int]; rfl) (by simp [Value.oneCell']) ?_; intro Wf hu; replace sB := sB.upd oN hu; replace oB12 := oB12.other hu n12_N.out; replace hd0 := hu.at hd0 (oN.ne_of hd0 (not_plain_def _)); replace oN := oN.upd hu; clear hu)
        | fail)
      obtain ⟨Kb0, hEn, sb0, hk14, hfr⟩ := sB.shut' oN
      have o12 := hfr _ _ oB12 n12_N.out
      have hk10 := hEn _ _ hk10'
      have hk11 := hEn _ _ hk11'
      have hE07 := hE07'.trans hEn
      have Hit := Lib.hid (Hit'.out.ext hEn)
      clear hk10' hk11' hk14' hE07' Hit' hEn sB oN oB12 hfr n12_N h12
      rw [roundsIn_succ]
      refine wpIn_seq (wpIn_wide.2 ?_)
      go_wp2_with (first
        | ((with_reducible refine gate_load (T := 3) ?_); refine wpList_loadCellW rfl rfl rfl Tryd.underlying3 rfl (sb0.inn.get hk14) rfl ?_)
        | fail)
      refine wpIn_seq (wpIn_block (wpIn_seq (wpIn_wide.2 ?_)))
      go_wp2_with (first
        | ((with_reducible refine gate_alloc (T := 3) ?_); refine wpList_allocG rfl rfl zero_int (cs := #[.int .i64 0]) rfl ?_; intro g15 Wa e hn; have o15 := Own.made sb0 e hn; have n12_15 := Lib.hid (o12.ne e); replace sb0 := sb0.new hn; replace o12 := o12.new hn; replace hd0 := hn.at hd0; clear e hn)
        | ((with_reducible refine gate_store (T := 3) ?_); refine wpList_storeAll rfl rfl rfl rfl (cs := #[.int .i64 0]) rfl o15.at_ rfl (by rw [size_int]; rfl) (by simp [Value.oneCell']) ?_; intro Wb hu; replace sb0 := sb0.upd o15 hu; replace o12 := o12.other hu n12_15.out; replace hd0 := hu.at hd0 (o15.ne_of hd0 (not_plain_def _)); replace o15 := o15.upd hu; clear hu)
        | fail)
      refine wpIn_seq (wpIn_seq (wpIn_wide.2 ?_))
      go_wp2
      refine wpIn_block ?_
      have hB := sb0.size
      refine range_ok (gf := 43) (lb := #[.pointer (some ⟨g1, 0, none⟩), .pointer (some ⟨g2, 0, none⟩), .pointer (some ⟨g3, 0, none⟩)]) (K := Kb0) rfl (by intro args w; rfl) Hit.out (fun x => rfl)
        (YI K w Wb.heap.size g12 g15 [D0]) (YX False ((pst.length : Nat) : Int) Kb0 K w Wb.heap.size g12 g15 [D0]) (fun _ _ _ h => h.1.inn) (fun _ _ _ _ _ h e => h.ex hB e) (fun _ _ _ h => by obtain ⟨_, _, _, _, _, h⟩ := h; exact h.1.inn)
        (fun _ _ _ _ _ h e => by obtain ⟨h1, h2, h5, p, h3, h4⟩ := h; exact ⟨h1, h2, h5.trans (Ext.of_le h4.1.inn e.same), p, h3, h4.ex hB e⟩) ⟨sb0, o15, o12, by intro D hD; simp at hD; subst hD; exact ⟨lt_of_at hd0, hd0⟩⟩ ?a13 ?assign3 ?body3 ?done3 ?stop3
      case assign3 =>
        intro l x W N hN
        refine wpIn_seq (region_round (by rintro ⟨_, _, h⟩; exact h) rfl ?_)
        simp only [encP, List.size_toArray, List.length_cons, List.length_nil]
        go_wp2
        refine region_round (by rintro ⟨_, _, h⟩; exact h) rfl ?_
        go_wp2
        exact hN
      case body3 =>
        rintro l D r pre x rest K1 W hx hE1 ⟨sB, oB15, oB12, hds⟩ hl hD hlD hl0 hD0
        have hlt : pre.length < E.length := by have h := congrArg List.length hx; simp at h; omega
        have hxe : E[pre.length]? = some x := by rw [← hx]; simp
        have hEl := HEl.out
        obtain ⟨b, off, cs, ty, fr, ea, hkb, hj⟩ := Hxw.out pre.length x hxe
        subst ea
        replace hkb := hE1 _ _ (hE07 _ _ hkb)
        have hk10' := hE1 _ _ hk10
        have hk11' := hE1 _ _ hk11
        have hk14' := hE1 _ _ hk14
        have hlg := oB15.ne_of hl (not_plain_loop _)
        have hDg := oB15.ne_of hD (not_plain_def _)
        have h12 := n12_15
        have Hj := Lib.hid hj
        have Hds := Lib.hid hds
        obtain ⟨x1, x2⟩ := x
        clear hj hxe hds hx
        have oBat := oB15.at_
        have hgB : decide (E.length ≤ pre.length) = false := by simp; omega
        refine wpIn_block (wpIn_seq (wpIn_seq (region_round (by rintro ⟨_, _, h⟩; exact h) rfl ?_)))
        go_wp2_with (first
          | ((with_reducible refine gate_load (T := 3) (x := .tmp 15) ?_); refine wpList_loadCellW rfl rfl rfl Tryd.underlying3 rfl oB15.at_ rfl ?_)
          | ((with_reducible refine gate_load (T := 33) (x := .tmp 10) ?_); refine wpList_loadCellW rfl rfl rfl Tryd.underlying33 rfl (sB.inn.get hk10') rfl ?_)
          | ((with_reducible refine gate_load (T := 3) (x := .tmp 42) ?_); refine wpList_loadCellW rfl rfl rfl Tryd.underlying3 rfl (sB.inn.get hkb) (Hj.out 0 _ rfl) ?_)
          | ((with_reducible refine gate_load (T := 3) (x := .tmp 51) ?_); refine wpList_loadCellW rfl rfl rfl Tryd.underlying3 rfl (sB.inn.get hkb) (Hj.out 1 _ rfl) ?_)
          | ((with_reducible refine gate_load (T := 3) (x := .tmp 14) ?_); refine wpList_loadCellW rfl rfl rfl Tryd.underlying3 rfl (sB.inn.get hk14') rfl ?_)
          | ((with_reducible refine gate_load (T := 3) (x := .tmp 11) ?_); refine wpList_loadCellW rfl rfl rfl Tryd.underlying3 rfl (sB.inn.get hk11') rfl ?_)
          | ((with_reducible refine gate_store (T := 3) ?_); refine wpList_storeAll rfl rfl rfl rfl (cs := #[.int .i64 ((pre.length : Nat) + 1)]) rfl oB15.at_ rfl (by rw [size_int]; rfl) (by simp [Value.oneCell']) ?_; intro Wc hu; replace sB := sB.upd oB15 hu; replace oB12 := oB12.other hu h12.out; replace oB15 := oB15.upd hu; replace hl := hu.at hl hlg; replace hD := hu.at hD hDg; have hds2 : ∀ D ∈ [D0], D < Wb.heap.size ∧ Wc.heap[D]? = some (.deferred (some [])) := (fun D hD => ⟨(Hds.out D hD).1, hu.at (Hds.out D hD).2 (by rintro rfl; have := (Hds.out _ hD).2; rw [oBat] at this; cases this)⟩); replace hds2 := Lib.hid hds2; clear hu)
          | fail)
        refine wpIn_cond_false rfl (wpIn_skip ?_)
        refine wpIn_seq (region_round (by rintro ⟨_, _, h⟩; exact h) rfl ?_)
        go_wp2_with (first
          | ((with_reducible refine gate_load (T := 3) (x := .tmp 15) ?_); refine wpList_loadCellW rfl rfl rfl Tryd.underlying3 rfl oB15.at_ rfl ?_)
          | ((with_reducible refine gate_load (T := 33) (x := .tmp 10) ?_); refine wpList_loadCellW rfl rfl rfl Tryd.underlying33 rfl (sB.inn.get hk10') rfl ?_)
          | ((with_reducible refine gate_load (T := 3) (x := .tmp 42) ?_); refine wpList_loadCellW rfl rfl rfl Tryd.underlying3 rfl (sB.inn.get hkb) (Hj.out 0 _ rfl) ?_)
          | ((with_reducible refine gate_load (T := 3) (x := .tmp 51) ?_); refine wpList_loadCellW rfl rfl rfl Tryd.underlying3 rfl (sB.inn.get hkb) (Hj.out 1 _ rfl) ?_)
          | ((with_reducible refine gate_load (T := 3) (x := .tmp 14) ?_); refine wpList_loadCellW rfl rfl rfl Tryd.underlying3 rfl (sB.inn.get hk14') rfl ?_)
          | ((with_reducible refine gate_load (T := 3) (x := .tmp 11) ?_); refine wpList_loadCellW rfl rfl rfl Tryd.underlying3 rfl (sB.inn.get hk11') rfl ?_)
          | ((with_reducible refine gate_store (T := 3) ?_); refine wpList_storeAll rfl rfl rfl rfl (cs := #[.int .i64 ((pre.length : Nat) + 1)]) rfl oB15.at_ rfl (by rw [size_int]; rfl) (by simp [Value.oneCell']) ?_; intro Wc hu; replace sB := sB.upd oB15 hu; replace oB12 := oB12.other hu h12.out; replace oB15 := oB15.upd hu; replace hl := hu.at hl hlg; replace hD := hu.at hD hDg; have hds2 : ∀ D ∈ [D0], D < Wb.heap.size ∧ Wc.heap[D]? = some (.deferred (some [])) := (fun D hD => ⟨(Hds.out D hD).1, hu.at (Hds.out D hD).2 (by rintro rfl; have := (Hds.out _ hD).2; rw [oBat] at this; cases this)⟩); replace hds2 := Lib.hid hds2; clear hu)
          | fail)
        clear oBat
        refine wpIn_seq (region_round (by rintro ⟨_, _, h⟩; exact h) rfl ?_)
        have hlen1 : ((pre ++ [(x1, x2)]).length : Int) = (pre.length : Nat) + 1 := by simp
        have hYI : YI K w Wb.heap.size g12 g15 [D0] (pre ++ [(x1, x2)]) K1 Wc := ⟨sB, by rw [hlen1]; exact oB15, oB12, hds2.out⟩
        have HYI := Lib.hid hYI
        have Hlen1 := Lib.hid hlen1
        clear hYI hlen1
        go_wp2_with (first
          | ((with_reducible refine gate_load (T := 33) (x := .tmp 10) ?_); refine wpList_loadCellW rfl rfl rfl Tryd.underlying33 rfl (sB.inn.get hk10') rfl ?_)
          | ((with_reducible refine gate_load (T := 3) (x := .tmp 42) ?_); refine wpList_loadCellW rfl rfl rfl Tryd.underlying3 rfl (sB.inn.get hkb) (Hj.out 0 _ rfl) ?_)
          | ((with_reducible refine gate_load (T := 3) (x := .tmp 51) ?_); refine wpList_loadCellW rfl rfl rfl Tryd.underlying3 rfl (sB.inn.get hkb) (Hj.out 1 _ rfl) ?_)
          | ((with_reducible refine gate_load (T := 3) (x := .tmp 14) ?_); refine wpList_loadCellW rfl rfl rfl Tryd.underlying3 rfl (sB.inn.get hk14') rfl ?_)
          | ((with_reducible refine gate_store (T := 3) ?_); refine wpList_storeAll rfl rfl rfl rfl (cs := #[.int .i64 ((pre.length : Nat) + 1)]) rfl oB15.at_ rfl (by rw [size_int]; rfl) (by simp [Value.oneCell']) ?_; intro Wc hu; replace sB := sB.upd oB15 hu; replace oB12 := oB12.other hu h12.out; replace oB15 := oB15.upd hu; replace hl := hu.at hl hlg; replace hD := hu.at hD hDg; have hds2 : ∀ D ∈ [D0], D < Wb.heap.size ∧ Wc.heap[D]? = some (.deferred (some [])) := (fun D hD => ⟨(Hds.out D hD).1, hu.at (Hds.out D hD).2 (by rintro rfl; have := (Hds.out _ hD).2; rw [oBat] at this; cases this)⟩); replace hds2 := Lib.hid hds2; clear hu)
          | fail)
        refine wpIn_cond_false rfl (wpIn_skip ?_)
        exact ⟨⟨K1, Ext.refl _, HYI.out⟩, hl, hD⟩
      case done3 =>
        rintro D1 K1 W hD hE2 ⟨sB, oB15, oB12, hds⟩ hd1
        try simp only [Exit.inBlock, Exit.then]
        refine wpIn_wide.2 ?_
        have hk10' := hE2 _ _ hk10
        have hk11' := hE2 _ _ hk11
        have hk14' := hE2 _ _ hk14
        have hE07' := hE07.trans hE2
        have Hit' := Lib.hid (Hit.out.ext hE2)
        have hd0 := (hds D0 (by simp)).2
        have hdl : D0 < D1 := Nat.lt_of_lt_of_le (hds D0 (by simp)).1 hD
        have hDw : w.heap.size ≤ D1 := Nat.le_trans hB hD
        have h12 := n12_15
        clear hds hk10 hk11 hk14 n12_15 hE2 o12 o15 sb0
        have hbb : (((E.length : Nat) : Int) != ((E.length : Nat) : Int)) = false := by simp
        go_wp2_with (first
          | ((with_reducible refine gate_load (T := 3) (x := .tmp 15) (dst := some 65) ?_); refine wpList_loadCellW rfl rfl rfl Tryd.underlying3 rfl oB15.at_ rfl ?_)
          | ((with_reducible refine gate_load (T := 33) (x := .tmp 10) (dst := some 66) ?_); refine wpList_loadCellW rfl rfl rfl Tryd.underlying33 rfl (sB.inn.get hk10') rfl ?_)
          | fail)
        try simp only [Exit.inBlock, Exit.then]
        refine wpIn_wide.2 ?_
        go_wp2_with (first
          | ((with_reducible refine gate_load (T := 3) (x := .tmp 14) ?_); refine wpList_loadCellW rfl rfl rfl Tryd.underlying3 rfl (sB.inn.get hk14') rfl ?_)
          | ((with_reducible refine gate_alloc (T := 3) ?_); refine wpList_allocG rfl rfl zero_int (cs := #[.int .i64 0]) rfl ?_; intro g14n Wd e hn; have oN := Own.made sB e hn; have n12_N := Lib.hid (oB12.ne e); replace sB := sB.new hn; replace oB12 := oB12.new hn; replace hd0 := hn.at hd0; replace hd1 := hn.at hd1; clear e hn oB15)
          | ((with_reducible refine gate_store (T := 3) (y := .tmp 78) ?_); refine wpList_storeAll rfl rfl rfl rfl (cs := #[.int .i64 1]) rfl oN.at_ rfl (by rw [size_int]; rfl) (by simp [Value.oneCell']) ?_; intro We hu; replace sB := sB.upd oN hu; replace oB12 := oB12.other hu n12_N.out; replace hd0 := hu.at hd0 (oN.ne_of hd0 (not_plain_def _)); replace hd1 := hu.at hd1 (oN.ne_of hd1 (not_plain_def _)); replace oN := oN.upd hu; clear hu)
          | ((with_reducible refine gate_load (T := 3) (x := .tmp 14) ?_); refine wpList_loadCellW rfl rfl rfl Tryd.underlying3 rfl oN.at_ rfl ?_)
          | ((with_reducible refine gate_store (T := 3) (y := .tmp 30) ?_); refine wpList_storeAll rfl rfl rfl rfl (cs := #[.int .i64 2]) rfl oN.at_ rfl (by rw [size_int]; rfl) (by simp [Value.oneCell']) ?_; intro Wf hu; replace sB := sB.upd oN hu; replace oB12 := oB12.other hu n12_N.out; replace hd0 := hu.at hd0 (oN.ne_of hd0 (not_plain_def _)); replace hd1 := hu.at hd1 (oN.ne_of hd1 (not_plain_def _)); replace oN := oN.upd hu; clear hu)
          | fail)
        obtain ⟨Ka1, hEn, sa1, hk14, hfr⟩ := sB.shut' oN
        have o12 := hfr _ _ oB12 n12_N.out
        have hk10 := hEn _ _ hk10'
        have hk11 := hEn _ _ hk11'
        have hE07 := hE07'.trans hEn
        have Hit := Lib.hid (Hit'.out.ext hEn)
        clear hk10' hk11' hk14' hE07' Hit' hEn sB oN oB12 hfr n12_N h12
        rw [roundsIn_succ]
        refine wpIn_seq (wpIn_wide.2 ?_)
        go_wp2_with (first
          | ((with_reducible refine gate_load (T := 3) ?_); refine wpList_loadCellW rfl rfl rfl Tryd.underlying3 rfl (sa1.inn.get hk14) rfl ?_)
          | fail)
        try simp only [Exit.inBlock, Exit.then, if_true]
        refine wpIn_seq (wpIn_wide.2 ?_)
        go_wp2_with (first
          | ((with_reducible refine gate_store (T := 4) ?_); refine wpList_storeAll rfl rfl rfl rfl (cs := #[.bool true]) rfl o12.at_ rfl (by rw [size_bool]; rfl) (by simp [Value.oneCell']) ?_; intro Wz hu; replace sa1 := sa1.upd o12 hu; replace hd0 := hu.at hd0 (o12.ne_of hd0 (not_plain_def _)); replace hd1 := hu.at hd1 (o12.ne_of hd1 (not_plain_def _)); replace o12 := o12.upd hu; clear hu)
          | fail)
        refine wpIn_ret ?_
        refine ⟨by simp, .inl ⟨_, _, rfl, run_takeDeferred hd1, ?_⟩⟩
        have he1 := Ex.of_put (B := w.heap.size) (o' := .deferred none) sa1.inn hDw hd1 (not_plain_def _)
        have sy := sa1.ex he1 (Nat.le_refl _)
        have o12y := o12.ex he1
        have hd0y := (World.putObj_heap_other (o := .deferred none) (Nat.ne_of_lt hdl)).trans hd0
        refine ⟨by simp, .inl ⟨_, _, rfl, run_takeDeferred hd0y, ?_⟩⟩
        have he0 := Ex.of_put (B := w.heap.size) (o' := .deferred none) sy.inn hDw0 hd0y (not_plain_def _)
        have sz := sy.ex he0 (Nat.le_refl _)
        have o12z := o12y.ex he0
        refine ⟨_, run_cell_bool rfl _ _ g12 true rfl o12z.at_, ?_⟩
        exact ⟨rfl, sz.below⟩
      case stop3 =>
        rintro D c K1 W hD ⟨h, _⟩
        exact h.elim
    case true =>
      have hk10' := hE2 _ _ hk10
      have hk11' := hE2 _ _ hk11
      have hk14' := hE2 _ _ hk14
      have hE07' := hE07.trans hE2
      have Hit' := Lib.hid (Hit.out.ext hE2)
      have hDw0 : w.heap.size ≤ D0 := Nat.le_trans hB hD
      have h12 := n12_15
      clear hds hk10 hk11 hk14 n12_15 hE2 o12 o15 s7
      go_wp2_with (first
        | ((with_reducible refine gate_load (T := 3) (x := .tmp 15) (dst := some 65) ?_); refine wpList_loadCellW rfl rfl rfl Tryd.underlying3 rfl oB15.at_ rfl ?_)
        | ((with_reducible refine gate_load (T := 33) (x := .tmp 10) (dst := some 66) ?_); refine wpList_loadCellW rfl rfl rfl Tryd.underlying33 rfl (sB.inn.get hk10') rfl ?_)
        | ((with_reducible refine gate_load (T := 3) (x := .tmp 14) (dst := some 70) ?_); refine wpList_loadCellW rfl rfl rfl Tryd.underlying3 rfl (sB.inn.get hk14') rfl ?_)
        | ((with_reducible refine gate_load (T := 3) (x := .tmp 15) (dst := some 73) ?_); refine wpList_loadCellW rfl rfl rfl Tryd.underlying3 rfl oB15.at_ rfl ?_)
        | ((with_reducible refine gate_load (T := 3) (x := .tmp 11) (dst := some 74) ?_); refine wpList_loadCellW rfl rfl rfl Tryd.underlying3 rfl (sB.inn.get hk11') rfl ?_)
        | fail)
      try simp only [Exit.inBlock, Exit.then]
      refine wpIn_wide.2 ?_
      go_wp2_with (first
        | ((with_reducible refine gate_load (T := 3) (x := .tmp 14) ?_); refine wpList_loadCellW rfl rfl rfl Tryd.underlying3 rfl (sB.inn.get hk14') rfl ?_)
        | ((with_reducible refine gate_alloc (T := 3) ?_); refine wpList_allocG rfl rfl zero_int (cs := #[.int .i64 0]) rfl ?_; intro g14n Wd e hn; have oN := Own.made sB e hn; have n12_N := Lib.hid (oB12.ne e); replace sB := sB.new hn; replace oB12 := oB12.new hn; replace hd0 := hn.at hd0; clear e hn oB15)
        | ((with_reducible refine gate_store (T := 3) (y := .tmp 78) ?_); refine wpList_storeAll rfl rfl rfl rfl (cs := #[.int .i64 0]) rfl oN.at_ rfl (by rw [size_int]; rfl) (by simp [Value.oneCell']) ?_; intro We hu; replace sB := sB.upd oN hu; replace oB12 := oB12.other hu n12_N.out; replace hd0 := hu.at hd0 (oN.ne_of hd0 (not_plain_def _)); replace oN := oN.upd hu; clear hu)
        | ((with_reducible refine gate_load (T := 3) (x := .tmp 14) ?_); refine wpList_loadCellW rfl rfl rfl Tryd.underlying3 rfl oN.at_ rfl ?_)
        | ((with_reducible refine gate_store (T := 3) (y := .tmp 30) ?_); refine wpList_storeAll rfl rfl rfl rfl (cs := #[.int .i64 1]) rfl oN.at_ rfl (by rw [size_int]; rfl) (by simp [Value.oneCell']) ?_; intro Wf hu; replace sB := sB.upd oN hu; replace oB12 := oB12.other hu n12_N.out; replace hd0 := hu.at hd0 (oN.ne_of hd0 (not_plain_def _)); replace oN := oN.upd hu; clear hu)
        | fail)
      obtain ⟨Kb0, hEn, sb0, hk14, hfr⟩ := sB.shut' oN
      have o12 := hfr _ _ oB12 n12_N.out
      have hk10 := hEn _ _ hk10'
      have hk11 := hEn _ _ hk11'
      have hE07 := hE07'.trans hEn
      have Hit := Lib.hid (Hit'.out.ext hEn)
      clear hk10' hk11' hk14' hE07' Hit' hEn sB oN oB12 hfr n12_N h12
      rw [roundsIn_succ]
      refine wpIn_seq (wpIn_wide.2 ?_)
      go_wp2_with (first
        | ((with_reducible refine gate_load (T := 3) ?_); refine wpList_loadCellW rfl rfl rfl Tryd.underlying3 rfl (sb0.inn.get hk14) rfl ?_)
        | fail)
      refine wpIn_seq (wpIn_block (wpIn_seq (wpIn_wide.2 ?_)))
      go_wp2_with (first
        | ((with_reducible refine gate_alloc (T := 3) ?_); refine wpList_allocG rfl rfl zero_int (cs := #[.int .i64 0]) rfl ?_; intro g15 Wa e hn; have o15 := Own.made sb0 e hn; have n12_15 := Lib.hid (o12.ne e); replace sb0 := sb0.new hn; replace o12 := o12.new hn; replace hd0 := hn.at hd0; clear e hn)
        | ((with_reducible refine gate_store (T := 3) ?_); refine wpList_storeAll rfl rfl rfl rfl (cs := #[.int .i64 0]) rfl o15.at_ rfl (by rw [size_int]; rfl) (by simp [Value.oneCell']) ?_; intro Wb hu; replace sb0 := sb0.upd o15 hu; replace o12 := o12.other hu n12_15.out; replace hd0 := hu.at hd0 (o15.ne_of hd0 (not_plain_def _)); replace o15 := o15.upd hu; clear hu)
        | fail)
      refine wpIn_seq (wpIn_seq (wpIn_wide.2 ?_))
      go_wp2
      refine wpIn_block ?_
      have hB := sb0.size
      refine range_ok (gf := 43) (lb := #[.pointer (some ⟨g1, 0, none⟩), .pointer (some ⟨g2, 0, none⟩), .pointer (some ⟨g3, 0, none⟩)]) (K := Kb0) rfl (by intro args w; rfl) Hit.out (fun x => rfl)
        (YI K w Wb.heap.size g12 g15 [D0]) (YX False ((pst.length : Nat) : Int) Kb0 K w Wb.heap.size g12 g15 [D0]) (fun _ _ _ h => h.1.inn) (fun _ _ _ _ _ h e => h.ex hB e) (fun _ _ _ h => by obtain ⟨_, _, _, _, _, h⟩ := h; exact h.1.inn)
        (fun _ _ _ _ _ h e => by obtain ⟨h1, h2, h5, p, h3, h4⟩ := h; exact ⟨h1, h2, h5.trans (Ext.of_le h4.1.inn e.same), p, h3, h4.ex hB e⟩) ⟨sb0, o15, o12, by intro D hD; simp at hD; subst hD; exact ⟨lt_of_at hd0, hd0⟩⟩ ?a14 ?assign4 ?body4 ?done4 ?stop4
      case assign4 =>
        intro l x W N hN
        refine wpIn_seq (region_round (by rintro ⟨_, _, h⟩; exact h) rfl ?_)
        simp only [encP, List.size_toArray, List.length_cons, List.length_nil]
        go_wp2
        refine region_round (by rintro ⟨_, _, h⟩; exact h) rfl ?_
        go_wp2
        exact hN
      case body4 =>
        rintro l D r pre x rest K1 W hx hE1 ⟨sB, oB15, oB12, hds⟩ hl hD hlD hl0 hD0
        have hlt : pre.length < E.length := by have h := congrArg List.length hx; simp at h; omega
        have hxe : E[pre.length]? = some x := by rw [← hx]; simp
        have hEl := HEl.out
        obtain ⟨b, off, cs, ty, fr, ea, hkb, hj⟩ := Hxw.out pre.length x hxe
        subst ea
        replace hkb := hE1 _ _ (hE07 _ _ hkb)
        have hk10' := hE1 _ _ hk10
        have hk11' := hE1 _ _ hk11
        have hk14' := hE1 _ _ hk14
        have hlg := oB15.ne_of hl (not_plain_loop _)
        have hDg := oB15.ne_of hD (not_plain_def _)
        have h12 := n12_15
        have Hj := Lib.hid hj
        have Hds := Lib.hid hds
        obtain ⟨x1, x2⟩ := x
        clear hj hxe hds hx
        have oBat := oB15.at_
        have hgB : decide (E.length ≤ pre.length) = false := by simp; omega
        refine wpIn_block (wpIn_seq (wpIn_seq (region_round (by rintro ⟨_, _, h⟩; exact h) rfl ?_)))
        go_wp2_with (first
          | ((with_reducible refine gate_load (T := 3) (x := .tmp 15) ?_); refine wpList_loadCellW rfl rfl rfl Tryd.underlying3 rfl oB15.at_ rfl ?_)
          | ((with_reducible refine gate_load (T := 33) (x := .tmp 10) ?_); refine wpList_loadCellW rfl rfl rfl Tryd.underlying33 rfl (sB.inn.get hk10') rfl ?_)
          | ((with_reducible refine gate_load (T := 3) (x := .tmp 42) ?_); refine wpList_loadCellW rfl rfl rfl Tryd.underlying3 rfl (sB.inn.get hkb) (Hj.out 0 _ rfl) ?_)
          | ((with_reducible refine gate_load (T := 3) (x := .tmp 51) ?_); refine wpList_loadCellW rfl rfl rfl Tryd.underlying3 rfl (sB.inn.get hkb) (Hj.out 1 _ rfl) ?_)
          | ((with_reducible refine gate_load (T := 3) (x := .tmp 14) ?_); refine wpList_loadCellW rfl rfl rfl Tryd.underlying3 rfl (sB.inn.get hk14') rfl ?_)
          | ((with_reducible refine gate_load (T := 3) (x := .tmp 11) ?_); refine wpList_loadCellW rfl rfl rfl Tryd.underlying3 rfl (sB.inn.get hk11') rfl ?_)
          | ((with_reducible refine gate_store (T := 3) ?_); refine wpList_storeAll rfl rfl rfl rfl (cs := #[.int .i64 ((pre.length : Nat) + 1)]) rfl oB15.at_ rfl (by rw [size_int]; rfl) (by simp [Value.oneCell']) ?_; intro Wc hu; replace sB := sB.upd oB15 hu; replace oB12 := oB12.other hu h12.out; replace oB15 := oB15.upd hu; replace hl := hu.at hl hlg; replace hD := hu.at hD hDg; have hds2 : ∀ D ∈ [D0], D < Wb.heap.size ∧ Wc.heap[D]? = some (.deferred (some [])) := (fun D hD => ⟨(Hds.out D hD).1, hu.at (Hds.out D hD).2 (by rintro rfl; have := (Hds.out _ hD).2; rw [oBat] at this; cases this)⟩); replace hds2 := Lib.hid hds2; clear hu)
          | fail)
        refine wpIn_cond_false rfl (wpIn_skip ?_)
        refine wpIn_seq (region_round (by rintro ⟨_, _, h⟩; exact h) rfl ?_)
        go_wp2_with (first
          | ((with_reducible refine gate_load (T := 3) (x := .tmp 15) ?_); refine wpList_loadCellW rfl rfl rfl Tryd.underlying3 rfl oB15.at_ rfl ?_)
          | ((with_reducible refine gate_load (T := 33) (x := .tmp 10) ?_); refine wpList_loadCellW rfl rfl rfl Tryd.underlying33 rfl (sB.inn.get hk10') rfl ?_)
          | ((with_reducible refine gate_load (T := 3) (x := .tmp 42) ?_); refine wpList_loadCellW rfl rfl rfl Tryd.underlying3 rfl (sB.inn.get hkb) (Hj.out 0 _ rfl) ?_)
          | ((with_reducible refine gate_load (T := 3) (x := .tmp 51) ?_); refine wpList_loadCellW rfl rfl rfl Tryd.underlying3 rfl (sB.inn.get hkb) (Hj.out 1 _ rfl) ?_)
          | ((with_reducible refine gate_load (T := 3) (x := .tmp 14) ?_); refine wpList_loadCellW rfl rfl rfl Tryd.underlying3 rfl (sB.inn.get hk14') rfl ?_)
          | ((with_reducible refine gate_load (T := 3) (x := .tmp 11) ?_); refine wpList_loadCellW rfl rfl rfl Tryd.underlying3 rfl (sB.inn.get hk11') rfl ?_)
          | ((with_reducible refine gate_store (T := 3) ?_); refine wpList_storeAll rfl rfl rfl rfl (cs := #[.int .i64 ((pre.length : Nat) + 1)]) rfl oB15.at_ rfl (by rw [size_int]; rfl) (by simp [Value.oneCell']) ?_; intro Wc hu; replace sB := sB.upd oB15 hu; replace oB12 := oB12.other hu h12.out; replace oB15 := oB15.upd hu; replace hl := hu.at hl hlg; replace hD := hu.at hD hDg; have hds2 : ∀ D ∈ [D0], D < Wb.heap.size ∧ Wc.heap[D]? = some (.deferred (some [])) := (fun D hD => ⟨(Hds.out D hD).1, hu.at (Hds.out D hD).2 (by rintro rfl; have := (Hds.out _ hD).2; rw [oBat] at this; cases this)⟩); replace hds2 := Lib.hid hds2; clear hu)
          | fail)
        clear oBat
        refine wpIn_seq (region_round (by rintro ⟨_, _, h⟩; exact h) rfl ?_)
        have hlen1 : ((pre ++ [(x1, x2)]).length : Int) = (pre.length : Nat) + 1 := by simp
        have hYI : YI K w Wb.heap.size g12 g15 [D0] (pre ++ [(x1, x2)]) K1 Wc := ⟨sB, by rw [hlen1]; exact oB15, oB12, hds2.out⟩
        have HYI := Lib.hid hYI
        have Hlen1 := Lib.hid hlen1
        clear hYI hlen1
        go_wp2_with (first
          | ((with_reducible refine gate_load (T := 33) (x := .tmp 10) ?_); refine wpList_loadCellW rfl rfl rfl Tryd.underlying33 rfl (sB.inn.get hk10') rfl ?_)
          | ((with_reducible refine gate_load (T := 3) (x := .tmp 42) ?_); refine wpList_loadCellW rfl rfl rfl Tryd.underlying3 rfl (sB.inn.get hkb) (Hj.out 0 _ rfl) ?_)
          | ((with_reducible refine gate_load (T := 3) (x := .tmp 51) ?_); refine wpList_loadCellW rfl rfl rfl Tryd.underlying3 rfl (sB.inn.get hkb) (Hj.out 1 _ rfl) ?_)
          | ((with_reducible refine gate_load (T := 3) (x := .tmp 14) ?_); refine wpList_loadCellW rfl rfl rfl Tryd.underlying3 rfl (sB.inn.get hk14') rfl ?_)
          | ((with_reducible refine gate_store (T := 3) ?_); refine wpList_storeAll rfl rfl rfl rfl (cs := #[.int .i64 ((pre.length : Nat) + 1)]) rfl oB15.at_ rfl (by rw [size_int]; rfl) (by simp [Value.oneCell']) ?_; intro Wc hu; replace sB := sB.upd oB15 hu; replace oB12 := oB12.other hu h12.out; replace oB15 := oB15.upd hu; replace hl := hu.at hl hlg; replace hD := hu.at hD hDg; have hds2 : ∀ D ∈ [D0], D < Wb.heap.size ∧ Wc.heap[D]? = some (.deferred (some [])) := (fun D hD => ⟨(Hds.out D hD).1, hu.at (Hds.out D hD).2 (by rintro rfl; have := (Hds.out _ hD).2; rw [oBat] at this; cases this)⟩); replace hds2 := Lib.hid hds2; clear hu)
          | fail)
        refine wpIn_cond_false rfl (wpIn_skip ?_)
        exact ⟨⟨K1, Ext.refl _, HYI.out⟩, hl, hD⟩
      case done4 =>
        rintro D1 K1 W hD hE2 ⟨sB, oB15, oB12, hds⟩ hd1
        try simp only [Exit.inBlock, Exit.then]
        refine wpIn_wide.2 ?_
        have hk10' := hE2 _ _ hk10
        have hk11' := hE2 _ _ hk11
        have hk14' := hE2 _ _ hk14
        have hE07' := hE07.trans hE2
        have Hit' := Lib.hid (Hit.out.ext hE2)
        have hd0 := (hds D0 (by simp)).2
        have hdl : D0 < D1 := Nat.lt_of_lt_of_le (hds D0 (by simp)).1 hD
        have hDw : w.heap.size ≤ D1 := Nat.le_trans hB hD
        have h12 := n12_15
        clear hds hk10 hk11 hk14 n12_15 hE2 o12 o15 sb0
        have hbb : (((E.length : Nat) : Int) != ((E.length : Nat) : Int)) = false := by simp
        go_wp2_with (first
          | ((with_reducible refine gate_load (T := 3) (x := .tmp 15) (dst := some 65) ?_); refine wpList_loadCellW rfl rfl rfl Tryd.underlying3 rfl oB15.at_ rfl ?_)
          | ((with_reducible refine gate_load (T := 33) (x := .tmp 10) (dst := some 66) ?_); refine wpList_loadCellW rfl rfl rfl Tryd.underlying33 rfl (sB.inn.get hk10') rfl ?_)
          | fail)
        try simp only [Exit.inBlock, Exit.then]
        refine wpIn_wide.2 ?_
        go_wp2_with (first
          | ((with_reducible refine gate_load (T := 3) (x := .tmp 14) ?_); refine wpList_loadCellW rfl rfl rfl Tryd.underlying3 rfl (sB.inn.get hk14') rfl ?_)
          | ((with_reducible refine gate_alloc (T := 3) ?_); refine wpList_allocG rfl rfl zero_int (cs := #[.int .i64 0]) rfl ?_; intro g14n Wd e hn; have oN := Own.made sB e hn; have n12_N := Lib.hid (oB12.ne e); replace sB := sB.new hn; replace oB12 := oB12.new hn; replace hd0 := hn.at hd0; replace hd1 := hn.at hd1; clear e hn oB15)
          | ((with_reducible refine gate_store (T := 3) (y := .tmp 78) ?_); refine wpList_storeAll rfl rfl rfl rfl (cs := #[.int .i64 1]) rfl oN.at_ rfl (by rw [size_int]; rfl) (by simp [Value.oneCell']) ?_; intro We hu; replace sB := sB.upd oN hu; replace oB12 := oB12.other hu n12_N.out; replace hd0 := hu.at hd0 (oN.ne_of hd0 (not_plain_def _)); replace hd1 := hu.at hd1 (oN.ne_of hd1 (not_plain_def _)); replace oN := oN.upd hu; clear hu)
          | ((with_reducible refine gate_load (T := 3) (x := .tmp 14) ?_); refine wpList_loadCellW rfl rfl rfl Tryd.underlying3 rfl oN.at_ rfl ?_)
          | ((with_reducible refine gate_store (T := 3) (y := .tmp 30) ?_); refine wpList_storeAll rfl rfl rfl rfl (cs := #[.int .i64 2]) rfl oN.at_ rfl (by rw [size_int]; rfl) (by simp [Value.oneCell']) ?_; intro Wf hu; replace sB := sB.upd oN hu; replace oB12 := oB12.other hu n12_N.out; replace hd0 := hu.at hd0 (oN.ne_of hd0 (not_plain_def _)); replace hd1 := hu.at hd1 (oN.ne_of hd1 (not_plain_def _)); replace oN := oN.upd hu; clear hu)
          | fail)
        obtain ⟨Ka1, hEn, sa1, hk14, hfr⟩ := sB.shut' oN
        have o12 := hfr _ _ oB12 n12_N.out
        have hk10 := hEn _ _ hk10'
        have hk11 := hEn _ _ hk11'
        have hE07 := hE07'.trans hEn
        have Hit := Lib.hid (Hit'.out.ext hEn)
        clear hk10' hk11' hk14' hE07' Hit' hEn sB oN oB12 hfr n12_N h12
        rw [roundsIn_succ]
        refine wpIn_seq (wpIn_wide.2 ?_)
        go_wp2_with (first
          | ((with_reducible refine gate_load (T := 3) ?_); refine wpList_loadCellW rfl rfl rfl Tryd.underlying3 rfl (sa1.inn.get hk14) rfl ?_)
          | fail)
        try simp only [Exit.inBlock, Exit.then, if_true]
        refine wpIn_seq (wpIn_wide.2 ?_)
        go_wp2_with (first
          | ((with_reducible refine gate_store (T := 4) ?_); refine wpList_storeAll rfl rfl rfl rfl (cs := #[.bool true]) rfl o12.at_ rfl (by rw [size_bool]; rfl) (by simp [Value.oneCell']) ?_; intro Wz hu; replace sa1 := sa1.upd o12 hu; replace hd0 := hu.at hd0 (o12.ne_of hd0 (not_plain_def _)); replace hd1 := hu.at hd1 (o12.ne_of hd1 (not_plain_def _)); replace o12 := o12.upd hu; clear hu)
          | fail)
        refine wpIn_ret ?_
        refine ⟨by simp, .inl ⟨_, _, rfl, run_takeDeferred hd1, ?_⟩⟩
        have he1 := Ex.of_put (B := w.heap.size) (o' := .deferred none) sa1.inn hDw hd1 (not_plain_def _)
        have sy := sa1.ex he1 (Nat.le_refl _)
        have o12y := o12.ex he1
        have hd0y := (World.putObj_heap_other (o := .deferred none) (Nat.ne_of_lt hdl)).trans hd0
        refine ⟨by simp, .inl ⟨_, _, rfl, run_takeDeferred hd0y, ?_⟩⟩
        have he0 := Ex.of_put (B := w.heap.size) (o' := .deferred none) sy.inn hDw0 hd0y (not_plain_def _)
        have sz := sy.ex he0 (Nat.le_refl _)
        have o12z := o12y.ex he0
        refine ⟨_, run_cell_bool rfl _ _ g12 true rfl o12z.at_, ?_⟩
        exact ⟨rfl, sz.below⟩
      case stop4 =>
        rintro D c K1 W hD ⟨h, _⟩
        exact h.elim

end Go.Proofs.YtpfdlpniijgakaaDoor
