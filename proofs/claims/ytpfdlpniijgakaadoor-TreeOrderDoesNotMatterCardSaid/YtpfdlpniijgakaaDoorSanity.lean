/- What the law package's sanity answers. -/
import Derived.Test.YtpfdlpniijgakaaDoorLawKit
namespace Go.Proofs.YtpfdlpniijgakaaDoor
open Go Go.RowKit
set_option maxHeartbeats 400000

def LS : Ents := [(5, 70), (300, 80)]
theorem ls1 : rset [] 5 70 = [(5, 70)] := by decide
theorem ls2 : rset [(5, 70)] 300 80 = LS := by decide
theorem ls_get : rget LS 5 = (70, true) := by decide
theorem nil_get : PT.nil.look 5 = (0, false) := by unfold PT.look; simp [get_nil]
theorem get_at_nil (K : Fz) (w : World) (hK : K.In w) : Calls Tryd.prog 23 #[.agg #[.pointer none, .int .i64 0], .int .i64 5] w fun e w' => e = .returned (.tuple #[.int .i64 0, .bool false]) ∧ Below w.heap.size w w' :=
  get_at K .nil 0 5 (0, false) w nil_get hK trivial
theorem ls_len : (LS.length : Int) = 2 := rfl
theorem ls_cnt : cntTo LS LS.length = 5 := by decide
theorem ls_more : moreN LS ⟨0, false, 6, 1⟩ = 3 := by
  have e1 : rdo LS ⟨0, false, 6, 1⟩ = [(5, 70), (6, 1), (300, 80)] := by decide
  have e2 : rdiff LS [(5, 70), (6, 1), (300, 80)] = [6] := by simp [LS, rdiff]
  unfold moreN
  rw [e1, e2]
  decide
theorem ls_diff : rdiff [] LS = [5, 300] := by simp [LS, rdiff]

/-- A value that is a slice of that length. -/
def LenV (n : Nat) (v : Value) : Prop := ∃ a c, v = .slice a n c

theorem Rep.diffs_len {T : Nat} {K : Fz} {t : PT} {n : Int} (h : Rep t n LS) (hT : Tr T K t) : (Go.Proofs.YtpfdlpniijgakaaDoor.diffs 2 .nil t 0).length = 2 := by
  have := congrArg List.length (Rep.nil.diffs h (T := T) (K := K) trivial hT)
  rw [List.length_map, ls_diff] at this
  exact this
/-- The literal of a tree and its change. -/
def PairV (o : Chg) (x : PT × Int) (K : Fz) (v : Value) : Prop := ∃ y m, SlK K 2 encT v [x, y] ∧ Tr 76 K y.1 ∧ x.1.Under m ∧ StepT m o x y
theorem PairV.ext {o : Chg} {x : PT × Int} {K K' : Fz} {v : Value} (hE : Ext K K') (h : PairV o x K v) : PairV o x K' v := by
  obtain ⟨y, m, hS, ht, hu, hs⟩ := h
  exact ⟨y, m, hS.keep hE, ht.ext hE, hu, hs⟩

set_option maxRecDepth 100000 in
set_option maxHeartbeats 4000000 in
theorem sanity_ok (K : Fz) (w : World) (hK : K.In w) (ht : Tab K) : Calls Tryd.prog 9 #[] w fun e w' => e = .returned (.bool true) ∧ Below w.heap.size w w' := by
  have s := St.start hK
  go_enter Tryd.func9, Tryd.ntmps9
  go_wp2_with (first
    | ((with_reducible refine gate_build (T := 31) (x := #[]) ?_); refine wpList_build0 rfl rfl build_Tree ?_)
    | ((with_reducible refine gate_alloc (T := 31) (dst := some 1) ?_); refine wpList_allocG rfl rfl zero_Tree (cs := #[.pointer none, .int .i64 0]) rfl ?_; intro g1 W1 e hn; have o1 := Own.made s e hn; replace s := s.new hn; clear e hn)
    | ((with_reducible refine gate_store (T := 31) (x := .tmp 1) ?_); refine wpList_storeAll rfl rfl rfl rfl (cs := #[.pointer none, .int .i64 0]) rfl o1.at_ rfl (by rw [size_Tree]; rfl) (by simp [Value.oneCell']) ?_; intro W hu; replace s := s.upd o1 hu; replace o1 := o1.upd hu; clear hu)
    | ((with_reducible refine gate_load (T := 31) (x := .tmp 1) ?_); refine wpList_load_row rfl 31 _ rfl _ rfl 31 _ _ _ o1.at_ Tryd.underlying31 rfl (by rw [size_Tree]; rfl) ?_)
    | (go_at_call 14; refine (Set_ok K .nil 0 5 70 _ s.inn trivial (by omega) (by omega)).mono ?_; rintro e W4 ⟨v, K1, rfl, hi, hl, hb, t1, n1, rfl, ht1, hs1⟩; replace s := s.call hi hl hb; replace o1 := o1.call hl hb; have r1 : Rep t1 n1 [(5, 70)] := ls1 ▸ Rep.nil.set trivial hs1; obtain rfl : n1 = 1 := r1.len; clear hs1 hi hl hb)
    | (go_at_call 14; refine (Set_ok K1 t1 1 300 80 _ s.inn ht1 (by omega) (by omega)).mono ?_; rintro e W5 ⟨v, K2, rfl, hi, hl, hb, t2, n2, rfl, ht2, hs2⟩; have r2 : Rep t2 n2 LS := ls2 ▸ r1.set (ht1.under s.inn) hs2; replace s := s.call hi hl hb; replace o1 := o1.call hl hb; obtain rfl : n2 = 2 := r2.len; clear hs2 hi hl hb)
    | ((with_reducible refine gate_alloc (T := 31) (dst := some 2) ?_); refine wpList_allocG rfl rfl zero_Tree (cs := #[.pointer none, .int .i64 0]) rfl ?_; intro g2 W2 e hn; have n1_2 := Lib.hid (o1.ne e); have o2 := Own.made s e hn; replace s := s.new hn; replace o1 := o1.new hn; clear e hn)
    | ((with_reducible refine gate_store (T := 31) (x := .tmp 2) ?_); refine wpList_storeAll rfl rfl rfl rfl (cs := #[.pointer t2.ptr, .int .i64 2]) rfl o2.at_ rfl (by rw [size_Tree]; rfl) (by simp [Value.oneCell']) ?_; intro W hu; replace s := s.upd o2 hu; replace o1 := o1.other hu n1_2.out; replace o2 := o2.upd hu; clear hu)
    | ((with_reducible refine gate_load (T := 31) (x := .tmp 2) ?_); refine wpList_load_row rfl 31 _ rfl _ rfl 31 _ _ _ o2.at_ Tryd.underlying31 rfl (by rw [size_Tree]; rfl) ?_)
    | (go_at_call 23; with_reducible refine (get_at K2 t2 2 5 (70, true) _ ((r2.look 5).trans ls_get) s.inn ht2).mono ?_; rintro e W6 ⟨rfl, hb⟩; replace o1 := o1.quiet hb; replace o2 := o2.quiet hb; replace s := s.quiet hb; clear hb)
    | (go_at_call 23; with_reducible refine (get_at_nil K2 _ s.inn).mono ?_; rintro e W7 ⟨rfl, hb⟩; replace o1 := o1.quiet hb; replace o2 := o2.quiet hb; replace s := s.quiet hb; clear hb)
    | fail)
  obtain ⟨K3, s3, hk1, hk2, hE2⟩ : ∃ K3, St K w K3 W7 ∧ K3 g1 = some (.cells #[.pointer none, .int .i64 0] 31 (0, 0)) ∧ K3 g2 = some (.cells #[.pointer t2.ptr, .int .i64 2] 31 (0, 0)) ∧ Ext K2 K3 := by
    have o1' := o1.freeze (o' := .cells #[.pointer t2.ptr, .int .i64 2] 31 (0, 0)) n1_2.out
    have s4 := s.freeze o2
    refine ⟨_, s4.freeze o1', Fz.add_self _ _ _, (Fz.add_other _ _ n1_2.out.symm).trans (Fz.add_self _ _ _), fun b o hb => ?_⟩
    rw [Fz.add_other _ _ (by rintro rfl; rw [o1.none_] at hb; cases hb), Fz.add_other _ _ (by rintro rfl; rw [o2.none_] at hb; cases hb)]
    exact hb
  have hT2 := ht2.ext hE2
  have hTab : Tab K3 := ht.ext (Ext.of_st hK s3)
  clear s o1 o2 ht2 ht1 hE2
  generalize W7 = W at s3
  have hdr := r2.diffs_len hT2
  have hd : (diffs 2 .nil t2 0).length = 2 := hdr
  have hdl : (diffs 2 .nil t2 0).length ≤ 100000 := by rw [hd]; decide
  refine wp_region_run (m := 35) (n := 56) (I := fun K2 W => St K w K2 W) (K0 := K3)
    (ws := [.is (.bool true), .is (.bool true), .is (.bool false), .is (.bool true), .is (.bool true), .is (.bool true), .is (.int .i64 70), .is (.bool true), .is (.bool true), .is (.bool true), .is (.agg #[.pointer t2.ptr, .int .i64 2]), .is (.int .i64 2), .is (.bool true), .is (.bool true), .is (.bool true), .is (.agg #[.pointer none, .int .i64 0]), .is (.agg #[.pointer t2.ptr, .int .i64 2]), .sat (fun _ v => LenV 2 v), .is (.int .i64 2), .is (.bool true), .is (.bool true), .is (.bool true), .is (.agg #[.pointer none, .int .i64 0]), .sat (fun K v => SlK K 2 encT v [(.nil, 0)]), .is (.int .i64 0), .is (.bool true), .is (.bool true), .is (.bool true), .is (.agg #[.pointer t2.ptr, .int .i64 2]), .is (.agg #[.pointer t2.ptr, .int .i64 2]), .sat (ChgV 0 ⟨0, false, 6, 1⟩ (t2, 2)), .sat (PairV ⟨0, false, 6, 1⟩ (t2, 2)), .is (.int .i64 8), .is (.bool true), .is (.bool true)])
    mixed_ok (by kernel_rfl) rfl rfl ?monos s3.drew ?_
  case monos =>
    simp only [List.forall_mem_cons]
    exact ⟨trivial, trivial, trivial, trivial, trivial, trivial, trivial, trivial, trivial, trivial, trivial, trivial, trivial, trivial, trivial, trivial, trivial, fun _ _ _ _ h => h, trivial, trivial, trivial, trivial, trivial, fun _ _ _ hE h => h.keep hE, trivial, trivial, trivial, trivial, trivial, trivial, fun _ _ _ hE h => h.ext hE, fun _ _ _ hE h => h.ext hE, trivial, trivial, trivial, fun _ h => by cases h⟩
  apply RunAll.is_
  · intro K3 W3 hE3 hI3 hF3
    go_wp2
    exact step_end ⟨⟨K3, Ext.refl _, hI3⟩, rfl⟩
  · rfl
  apply RunAll.is_
  · intro K3 W3 hE3 hI3 hF3
    go_wp2
    exact step_end ⟨⟨K3, Ext.refl _, hI3⟩, rfl⟩
  · rfl
  apply RunAll.is_
  · intro K3 W3 hE3 hI3 hF3
    go_wp2
    exact step_end ⟨⟨K3, Ext.refl _, hI3⟩, rfl⟩
  · rfl
  apply RunAll.is_
  · intro K3 W3 hE3 hI3 hF3
    go_wp2
    exact step_end ⟨⟨K3, Ext.refl _, hI3⟩, rfl⟩
  · rfl
  apply RunAll.is_
  · intro K3 W3 hE3 hI3 hF3
    go_wp2
    exact step_end ⟨⟨K3, Ext.refl _, hI3⟩, rfl⟩
  · rfl
  apply RunAll.is_
  · intro K3 W3 hE3 hI3 hF3
    go_wp2
    exact step_end ⟨⟨K3, Ext.refl _, hI3⟩, rfl⟩
  · rfl
  apply RunAll.is_
  · intro K3 W3 hE3 hI3 hF3
    go_wp2
    exact step_end ⟨⟨K3, Ext.refl _, hI3⟩, rfl⟩
  · rfl
  apply RunAll.is_
  · intro K3 W3 hE3 hI3 hF3
    go_wp2
    exact step_end ⟨⟨K3, Ext.refl _, hI3⟩, rfl⟩
  · rfl
  apply RunAll.is_
  · intro K3 W3 hE3 hI3 hF3
    go_wp2
    exact step_end ⟨⟨K3, Ext.refl _, hI3⟩, rfl⟩
  · rfl
  apply RunAll.is_
  · intro K3 W3 hE3 hI3 hF3
    go_wp2
    exact step_end ⟨⟨K3, Ext.refl _, hI3⟩, rfl⟩
  · rfl
  apply RunAll.is_
  · intro K3 W3 hE3 hI3 hF3
    go_wp2_with (first | ((with_reducible refine gate_load (T := 31) ?_); refine wpList_loadAggW (vs := [.pointer t2.ptr, .int .i64 2]) (off := 0) rfl rfl rfl Tryd.underlying31 rfl (hI3.inn.get (hE3 _ _ hk2)) (by rw [size_Tree]; rfl) (fun j u hu => by rw [Nat.zero_add]; simpa using hu) ?_) | fail)
    exact step_end ⟨⟨K3, Ext.refl _, hI3⟩, rfl⟩
  · rfl
  apply RunAll.is_
  · intro K3 W3 hE3 hI3 hF3
    go_wp2_with (first | (go_at_call 27; refine (len_ok _ _ _).mono ?_; rintro e W4 ⟨rfl, hb⟩) | fail)
    exact step_end ⟨⟨K3, Ext.refl _, hI3.quiet hb⟩, rfl⟩
  · rfl
  apply RunAll.is_
  · intro K3 W3 hE3 hI3 hF3
    go_wp2
    exact step_end ⟨⟨K3, Ext.refl _, hI3⟩, rfl⟩
  · rfl
  apply RunAll.is_
  · intro K3 W3 hE3 hI3 hF3
    go_wp2
    exact step_end ⟨⟨K3, Ext.refl _, hI3⟩, rfl⟩
  · rfl
  apply RunAll.is_
  · intro K3 W3 hE3 hI3 hF3
    go_wp2
    exact step_end ⟨⟨K3, Ext.refl _, hI3⟩, rfl⟩
  · rfl
  apply RunAll.is_
  · intro K3 W3 hE3 hI3 hF3
    go_wp2_with (first | ((with_reducible refine gate_load (T := 31) ?_); refine wpList_loadAggW (vs := [.pointer none, .int .i64 0]) (off := 0) rfl rfl rfl Tryd.underlying31 rfl (hI3.inn.get (hE3 _ _ hk1)) (by rw [size_Tree]; rfl) (fun j u hu => by rw [Nat.zero_add]; simpa using hu) ?_) | fail)
    exact step_end ⟨⟨K3, Ext.refl _, hI3⟩, rfl⟩
  · rfl
  apply RunAll.is_
  · intro K3 W3 hE3 hI3 hF3
    go_wp2_with (first | ((with_reducible refine gate_load (T := 31) ?_); refine wpList_loadAggW (vs := [.pointer t2.ptr, .int .i64 2]) (off := 0) rfl rfl rfl Tryd.underlying31 rfl (hI3.inn.get (hE3 _ _ hk2)) (by rw [size_Tree]; rfl) (fun j u hu => by rw [Nat.zero_add]; simpa using hu) ?_) | fail)
    exact step_end ⟨⟨K3, Ext.refl _, hI3⟩, rfl⟩
  · rfl
  apply RunAll.sat_
  · intro K3 W3 hE3 hI3 hF3
    go_wp2_with (first | (go_at_call 20; refine (Diff_ok .nil t2 0 2 K3 _ hI3.inn trivial (hT2.ext hE3) (hTab.ext hE3) hdl).mono ?_; rintro e W4 ⟨v, K4, rfl, hi, hl, hb, hx4⟩) | fail)
    obtain ⟨⟨va, vc, hv, _⟩, hE⟩ := hx4
    exact step_end ⟨v, K4, hE, hI3.call hi hl hb, rfl, va, vc, hd ▸ hv⟩
  · intro v; rfl
  intro v17
  apply RunAll.is_
  · intro K3 W3 hE3 hI3 hF3
    obtain ⟨a7, c7, hv⟩ := hF3.2 rfl
    have Hv := Lib.hid hv
    clear hv hF3
    go_wp2_with (first | ((with_reducible refine gate_call ?_); refine wpList_lenSlice rfl rfl rfl Hv.out Tryd.underlying46 ?_) | fail)
    exact step_end ⟨⟨K3, Ext.refl _, hI3⟩, rfl⟩
  · rfl
  apply RunAll.is_
  · intro K3 W3 hE3 hI3 hF3
    go_wp2
    exact step_end ⟨⟨K3, Ext.refl _, hI3⟩, rfl⟩
  · rfl
  apply RunAll.is_
  · intro K3 W3 hE3 hI3 hF3
    go_wp2
    exact step_end ⟨⟨K3, Ext.refl _, hI3⟩, rfl⟩
  · rfl
  apply RunAll.is_
  · intro K3 W3 hE3 hI3 hF3
    go_wp2
    exact step_end ⟨⟨K3, Ext.refl _, hI3⟩, rfl⟩
  · rfl
  apply RunAll.is_
  · intro K3 W3 hE3 hI3 hF3
    go_wp2_with (first | ((with_reducible refine gate_load (T := 31) ?_); refine wpList_loadAggW (vs := [.pointer none, .int .i64 0]) (off := 0) rfl rfl rfl Tryd.underlying31 rfl (hI3.inn.get (hE3 _ _ hk1)) (by rw [size_Tree]; rfl) (fun j u hu => by rw [Nat.zero_add]; simpa using hu) ?_) | fail)
    exact step_end ⟨⟨K3, Ext.refl _, hI3⟩, rfl⟩
  · rfl
  apply RunAll.sat_
  · intro K3 W3 hE3 hI3 hF3
    go_wp2_with (first | ((with_reducible refine gate_buildSlice (T := 24) ?_); refine wpList_build1W rfl rfl rfl (cs := (encT (.nil, 0)).toArray) Tryd.underlying24 info_tree (by decide) (by decide) (by kernel_rfl) ?_; intro gn W5 eg hn; obtain ⟨K4, hE4, s4, hS4⟩ := fresh_trees hI3 eg hn (zs := [(.nil, 0)]) rfl rfl; clear eg hn) | fail)
    generalize hgv : Value.slice (some ⟨gn, 0, none⟩) 1 1 = v10 at hS4 ⊢
    exact step_end ⟨v10, K4, hE4, s4, rfl, hS4⟩
  · intro v; rfl
  intro v23
  apply RunAll.is_
  · intro K3 W3 hE3 hI3 hF3
    go_wp2_with (first | (go_at_call 12; refine (Nodes_ok K3 [(.nil, 0)] _ _ hI3.inn (hF3.2 rfl) (by intro t h; obtain rfl := List.mem_singleton.1 h; trivial) (by decide)).mono ?_; rintro e W4 ⟨rfl, hb⟩) | fail)
    exact step_end ⟨⟨K3, Ext.refl _, hI3.quiet hb⟩, rfl⟩
  · rfl
  apply RunAll.is_
  · intro K3 W3 hE3 hI3 hF3
    go_wp2
    exact step_end ⟨⟨K3, Ext.refl _, hI3⟩, rfl⟩
  · rfl
  apply RunAll.is_
  · intro K3 W3 hE3 hI3 hF3
    go_wp2
    exact step_end ⟨⟨K3, Ext.refl _, hI3⟩, rfl⟩
  · rfl
  apply RunAll.is_
  · intro K3 W3 hE3 hI3 hF3
    go_wp2
    exact step_end ⟨⟨K3, Ext.refl _, hI3⟩, rfl⟩
  · rfl
  apply RunAll.is_
  · intro K3 W3 hE3 hI3 hF3
    go_wp2_with (first | ((with_reducible refine gate_load (T := 31) ?_); refine wpList_loadAggW (vs := [.pointer t2.ptr, .int .i64 2]) (off := 0) rfl rfl rfl Tryd.underlying31 rfl (hI3.inn.get (hE3 _ _ hk2)) (by rw [size_Tree]; rfl) (fun j u hu => by rw [Nat.zero_add]; simpa using hu) ?_) | fail)
    exact step_end ⟨⟨K3, Ext.refl _, hI3⟩, rfl⟩
  · rfl
  apply RunAll.is_
  · intro K3 W3 hE3 hI3 hF3
    go_wp2_with (first | ((with_reducible refine gate_load (T := 31) ?_); refine wpList_loadAggW (vs := [.pointer t2.ptr, .int .i64 2]) (off := 0) rfl rfl rfl Tryd.underlying31 rfl (hI3.inn.get (hE3 _ _ hk2)) (by rw [size_Tree]; rfl) (fun j u hu => by rw [Nat.zero_add]; simpa using hu) ?_) | fail)
    exact step_end ⟨⟨K3, Ext.refl _, hI3⟩, rfl⟩
  · rfl
  apply RunAll.sat_
  · intro K3 W3 hE3 hI3 hF3
    go_wp2_with (first | (go_at_call 14; refine (Set_ok K3 t2 2 6 1 _ hI3.inn (hT2.ext hE3) (by omega) (by omega)).mono ?_; rintro e W4 ⟨v, K4, rfl, hi, hl, hb, hx4⟩) | fail)
    obtain ⟨t3, n3, hv3, ht3, hs3⟩ := hx4
    exact step_end ⟨v, K4, Ext.of_le hI3.inn hl, hI3.call hi hl hb, rfl, (t3, n3), W3.heap.size, hv3, ht3, Nat.zero_le _, (hT2.ext hE3).under hI3.inn, hs3⟩
  · intro v; rfl
  intro v30
  apply RunAll.sat_
  · intro K3 W3 hE3 hI3 hF3
    obtain ⟨y3, m3, hv3, ht3, hm3, hu3, hs3⟩ := hF3.2 rfl
    have Hv3 := Lib.hid hv3
    clear hv3 hF3
    go_wp2_with (first | ((with_reducible refine gate_buildSlice (T := 24) ?_); refine wpList_build2W rfl rfl rfl Hv3.out (cs := (encT (t2, 2) ++ encT y3).toArray) Tryd.underlying24 info_tree (by decide) (by decide) (by kernel_rfl) ?_; intro gn W5 eg hn; obtain ⟨K4, hE4, s4, hS4⟩ := fresh_trees hI3 eg hn (zs := [(t2, 2), y3]) rfl rfl; clear eg hn) | fail)
    generalize hgv : Value.slice (some ⟨gn, 0, none⟩) 2 2 = v10 at hS4 ⊢
    exact step_end ⟨v10, K4, hE4, s4, rfl, y3, m3, hS4, ht3.ext hE4, hu3, hs3⟩
  · intro v; rfl
  intro v31
  apply RunAll.is_
  · intro K3 W3 hE3 hI3 hF3
    obtain ⟨y3, m3, hS3, ht3, hu3, hs3⟩ := hF3.2 rfl
    have h8 : (gathAll [(t2, 2), y3] []).length = 8 := by rw [r2.share hu3 hs3, r2.nodes1, ls_cnt, ls_more]
    go_wp2_with (first | (go_at_call 12; refine (Nodes_ok K3 [(t2, 2), y3] _ _ hI3.inn hS3 (by intro t h; rcases List.mem_cons.1 h with rfl | h; exact hT2.ext hE3; obtain rfl := List.mem_singleton.1 h; exact ht3) (by simp)).mono ?_; rintro e W4 ⟨rfl, hb⟩) | fail)
    exact step_end ⟨⟨K3, Ext.refl _, hI3.quiet hb⟩, rfl⟩
  · rfl
  apply RunAll.is_
  · intro K3 W3 hE3 hI3 hF3
    go_wp2
    exact step_end ⟨⟨K3, Ext.refl _, hI3⟩, rfl⟩
  · rfl
  apply RunAll.is_
  · intro K3 W3 hE3 hI3 hF3
    go_wp2
    exact step_end ⟨⟨K3, Ext.refl _, hI3⟩, rfl⟩
  · rfl
  intro K4 W4 hE4 hI4 hF4
  change wpList _ _ _ (List.cons _ _) _ _
  go_wp2
  go_ret
  exact ⟨rfl, hI4.below⟩
end Go.Proofs.YtpfdlpniijgakaaDoor
