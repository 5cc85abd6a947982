/- slices.Insert at volumes and at snapshots. Written by gen_VolK.py. -/
import Derived.Test.YtdaagmhkhfcmdaaDoorGF
import Derived.Shelf.Spec.SlicesInsert
namespace Go.Proofs.YtdaagmhkhfcmdaaDoor
open Go Go.RowKit
set_option maxHeartbeats 400000

/-- The cells behind an Insert in place. -/
theorem ins_cells {cur : Array Value} {n cap sz i m : Nat} {xs x : List Value} (hc : cur.size = cap * sz) (hn : n + m ≤ cap) (ht : cur.toList.take (n * sz) = xs) (hi : i ≤ n) (hx : x.length = m * sz) :
    (splice (splice cur ((i + m) * sz) (xs.drop (i * sz))) (i * sz) x).toList.take ((n + m) * sz) = xs.take (i * sz) ++ x ++ xs.drop (i * sz) := by
  have hnc : n ≤ cap := by omega
  have hxl : xs.length = n * sz := by
    rw [← ht, List.length_take, Array.length_toList, hc]
    exact Nat.min_eq_left (Nat.mul_le_mul_right _ hnc)
  have h1 : i * sz ≤ n * sz := Nat.mul_le_mul_right _ hi
  have h4 : (n + m) * sz ≤ cap * sz := Nat.mul_le_mul_right _ hn
  have h5 : (n + m) * sz = n * sz + m * sz := Nat.add_mul _ _ _
  have h6 : (i + m) * sz = i * sz + m * sz := Nat.add_mul _ _ _
  have hdl : (xs.drop (i * sz)).length = n * sz - i * sz := by rw [List.length_drop, hxl]
  have htk : cur.toList.take (i * sz) = xs.take (i * sz) := by rw [← ht, List.take_take, Nat.min_eq_left h1]
  have hfit : (i + m) * sz + (xs.drop (i * sz)).length ≤ cur.size := by rw [hdl, hc]; omega
  have e1 : (splice cur ((i + m) * sz) (xs.drop (i * sz))).toList.take (i * sz) = xs.take (i * sz) := by
    rw [splice_list, List.append_assoc, List.take_append_of_le_length, List.take_take, Nat.min_eq_left (by omega), htk]
    rw [List.length_take, Array.length_toList, hc]; omega
  have e2 : (splice cur ((i + m) * sz) (xs.drop (i * sz))).toList.drop (i * sz + x.length) = xs.drop (i * sz) ++ cur.toList.drop ((i + m) * sz + (xs.drop (i * sz)).length) := by
    rw [splice_list, hx, ← h6, List.append_assoc, List.drop_append_of_le_length]
    · rw [List.drop_of_length_le, List.nil_append]
      rw [List.length_take]; omega
    · rw [List.length_take, Array.length_toList, hc]; omega
  rw [splice_list, e1, e2, ← List.append_assoc, List.take_append_of_le_length]
  · rw [List.take_of_length_le]
    simp only [List.length_append, List.length_take, hdl, hx, hxl]
    omega
  · simp only [List.length_append, List.length_take, hdl, hx, hxl]
    omega
/-- The cells behind an Insert that grows. -/
theorem grow_cells {row : Array Value} {n G sz i m : Nat} {xs x : List Value} (hr : row.size = G * sz) (hn : n + m ≤ G) (hi : i ≤ n) (hxl : xs.length = n * sz) (hx : x.length = m * sz) (ht : row.toList.take (i * sz) = xs.take (i * sz)) :
    (splice (splice row (i * sz) x) ((i + m) * sz) (xs.drop (i * sz))).toList.take ((n + m) * sz) = xs.take (i * sz) ++ x ++ xs.drop (i * sz) := by
  have h1 : i * sz ≤ n * sz := Nat.mul_le_mul_right _ hi
  have h4 : (n + m) * sz ≤ G * sz := Nat.mul_le_mul_right _ hn
  have h5 : (n + m) * sz = n * sz + m * sz := Nat.add_mul _ _ _
  have h6 : (i + m) * sz = i * sz + m * sz := Nat.add_mul _ _ _
  have hdl : (xs.drop (i * sz)).length = n * sz - i * sz := by rw [List.length_drop, hxl]
  have e1 : (splice row (i * sz) x).toList.take ((i + m) * sz) = xs.take (i * sz) ++ x := by
    rw [splice_list, ht, List.take_append_of_le_length, List.take_of_length_le]
    · simp only [List.length_append, List.length_take, hx, hxl]; omega
    · simp only [List.length_append, List.length_take, hx, hxl]; omega
  rw [splice_list, e1, List.take_append_of_le_length]
  · rw [List.take_of_length_le]
    simp only [List.length_append, List.length_take, hdl, hx, hxl]
    omega
  · simp only [List.length_append, List.length_take, hdl, hx, hxl]
    omega

set_option maxRecDepth 100000 in
set_option maxHeartbeats 4000000 in
/-- At the end. -/
theorem vInsert_end (base : Nat) (v : Value) (n m vb vc : Nat) (xs x : List Value) (w : World) (hown : w.ownsRow base 68 4 v n xs) (hm : 0 < m) (hlen : n + m ≤ 1000000) (hbase : base ≤ w.heap.size) (hx : x.length = m * 4) (h1x : ∀ u ∈ x, u.oneCell' = true) (hvb : w.heap[vb]? = some (.cells x.toArray 68 (0, 0))) :
    Calls Tryd.prog 59 #[v, .int .i64 (n : Nat), .slice (some ⟨vb, 0, none⟩) m vc] w fun e w' => ∃ v', e = .returned v' ∧ w'.ownsRow base 68 4 v' (n + m) (xs ++ x) ∧ Grown w w' v v' := by
  have hm0 : ¬ ((m : Int) = 0) := by omega
  have hsrc : Hid (∀ j u, x[j]? = some u → w.cell? ((⟨vb, 0, none⟩ : Addr).add j) = some u) := Lib.hid fun j u hu => by
    have hadd : (⟨vb, 0, none⟩ : Addr).add j = ⟨vb, 0 + j, none⟩ := by unfold Addr.add; split <;> simp_all
    rw [hadd, Nat.zero_add, cell_of_row w vb j x.toArray 68 (0, 0) hvb]
    simpa using hu
  have H1 := Lib.hid hown
  have H2 := Lib.hid h1x
  have hmx : n + m ≤ maxLen := by unfold maxLen; omega
  have hby : (n + m) * 32 ≤ 140737488355328 := by omega
  have hn0 : (0 : Int) ≤ (n : Int) := by omega
  rcases hown.2 with ⟨rfl, rfl⟩ | ⟨g, cap, cur, rfl, _, _, hnc, hcm, _⟩
  · clear hown h1x hvb
    go_enter Tryd.func59, Tryd.ntmps59
    go_wp2_with (first | (at_builtin; refine wpList_append_own_at _ rfl _ _ 47 rfl base 68 info_V (.agg #[.int .i64 0, .int .i64 0, .pointer none, .int .i64 0]) 4 32 Tryd.underlying47 info_V_eq (by kernel_rfl) (by kernel_rfl) (by kernel_rfl) rfl (by decide) _ _ xs rfl H1.out ⟨vb, 0, none⟩ m vc x rfl hx hsrc.out H2.out hmx hby hbase ?_) | fail)
    intro v' w1 h2 h3 h4 h5
    go_wp2
    go_ret
    exact ⟨_, rfl, by rw [Nat.zero_add]; exact h2, ⟨h3, h5⟩⟩
  · clear hown h1x hvb
    go_enter Tryd.func59, Tryd.ntmps59
    go_wp2_with (first | (at_builtin; refine wpList_append_own_at _ rfl _ _ 47 rfl base 68 info_V (.agg #[.int .i64 0, .int .i64 0, .pointer none, .int .i64 0]) 4 32 Tryd.underlying47 info_V_eq (by kernel_rfl) (by kernel_rfl) (by kernel_rfl) rfl (by decide) _ _ xs rfl H1.out ⟨vb, 0, none⟩ m vc x rfl hx hsrc.out H2.out hmx hby hbase ?_) | fail)
    all_goals
      intro v' w1 h2 h3 h4 h5
      go_wp2
      go_ret
      exact ⟨_, rfl, h2, ⟨h3, h5⟩⟩

set_option maxRecDepth 100000 in
set_option maxHeartbeats 4000000 in
/-- In place. -/
theorem vInsert_room (base g cap : Nat) (n i m vb vc : Nat) (xs x : List Value) (w : World) (hown : w.ownsRow base 68 4 (.slice (some ⟨g, 0, none⟩) n cap) n xs) (hi : i < n) (hm : 0 < m) (hroom : n + m ≤ cap) (hlen : n + m ≤ 1000000) (h1 : ∀ u ∈ xs, u.oneCell' = true) (hx : x.length = m * 4) (h1x : ∀ u ∈ x, u.oneCell' = true) (hvb : w.heap[vb]? = some (.cells x.toArray 68 (0, 0))) (hne : vb ≠ g) :
    Calls Tryd.prog 59 #[.slice (some ⟨g, 0, none⟩) n cap, .int .i64 (i : Nat), .slice (some ⟨vb, 0, none⟩) m vc] w fun e w' => ∃ v', e = .returned v' ∧ w'.ownsRow base 68 4 v' (n + m) (xs.take (i * 4) ++ x ++ xs.drop (i * 4)) ∧ Grown w w' (.slice (some ⟨g, 0, none⟩) n cap) v' := by
  have hxl := hown.1
  obtain ⟨g', cap', cur, hv, hbase, hg, hnc, hcm, hcs, ht⟩ := ownsRow_some hown (by omega)
  cases hv
  clear hown
  have hz1 : ¬ ((m : Int) = 0) := by omega
  have hz2 : ¬ ((i : Int) = (n : Int)) := by omega
  have mixed := mixed_ok
  have hfr : ∀ j, w.frozen? ⟨vb, j, none⟩ = false := fun j => frozen_of_row w vb j _ _ hvb
  have hsa : w.shape? vb = some (68, x.toArray.size) := by simp [World.shape?, hvb]
  have hsb : w.shape? g = some (68, cur.size) := by simp [World.shape?, hg]
  have hov : ∀ lb cb, (callFunc 74 #[.slice (some ⟨vb, 0, none⟩) m vc, .slice (some ⟨g, (i + m) * 4, none⟩) lb cb]).run Tryd.prog w = .ok (.value (.bool false)) w := fun lb cb => by
    rw [run_callFunc_extern Tryd.func74 (by kernel_rfl) (by kernel_rfl) (by kernel_rfl) (e := Extern.SlicesOverlaps.overlaps #[47, 47] #[4]) (by kernel_rfl),
      Lib.run_overlaps_apart w 47 4 68 Tryd.underlying47 4 Tryd.sizeOf68 ⟨vb, 0, none⟩ ⟨g, (i + m) * 4, none⟩ m vc lb cb hne 68 68 x.toArray.size cur.size hsa hsb (by rw [hcs]; omega) (hfr _) (hfr _)]
    rfl
  have hdl : (xs.drop (i * 4)).length = (n - i) * 4 := by rw [List.length_drop, hxl, Nat.sub_mul]
  have hw1 : IntKind.i64.wrap ((i : Int) + (m : Int)) = (i : Int) + (m : Int) := by rw [IntKind.wrap_i64]; omega
  have hb1 : (0 : Int) ≤ (i : Int) + (m : Int) := by omega
  have hin : i ≤ n := by omega
  have htn : ((i : Int) + (m : Int)).toNat = i + m := by omega
  have hb2 : ¬ (cap = i + m) := by omega
  have hb3 : (i : Int) ≤ (n : Int) + (m : Int) := by omega
  have hb4 : ¬ (cap = i) := by omega
  have hc63 : cap ≤ 9223372036854775807 := by unfold maxLen at hcm; omega
  have hf1 : (i + m) * 4 + (xs.drop (i * 4)).length ≤ cur.size := by rw [hdl, hcs]; omega
  obtain ⟨cur1, hcur1⟩ : ∃ cur1, cur1 = splice cur ((i + m) * 4) (xs.drop (i * 4)) := ⟨_, rfl⟩
  have hcs1 : cur1.size = cap * 4 := by rw [hcur1, splice_size hf1, hcs]
  have hgetx : ∀ (j : Nat) (u : Value), xs[j]? = some u → cur[j]? = some u := by
    intro j u hu
    rw [← ht, List.getElem?_take] at hu
    split at hu
    · simpa using hu
    · cases hu
  have hcp1 : ∀ ty dc sc, (Builtin.copy_ #[47, 47] ty #[.slice (some ⟨g, (i + m) * 4, none⟩) (n + m - (i + m)) dc, .slice (some ⟨g, i * 4, none⟩) (n + m - i) sc]).run Tryd.prog w.drew = .ok (goInt (n - i : Nat)) (w.drew.setRow g cur1) := fun ty dc sc => by
    rw [hcur1]
    refine run_copyZ w.drew _ _ ty 68 g ((i + m) * 4) (n + m - (i + m)) dc ⟨g, i * 4, none⟩ (n + m - i) sc (xs.drop (i * 4)) 4 (n - i) cur 68 Tryd.underlying47 size_Vol (by simp only [Nat.min_def]; split <;> omega) hdl ?_ hg hf1 (fun v hv => h1 v (List.mem_of_mem_drop hv))
    intro j u hu
    have hadd : (⟨g, i * 4, none⟩ : Addr).add j = ⟨g, i * 4 + j, none⟩ := by unfold Addr.add; split <;> simp_all
    rw [hadd, cell_of_row w.drew g _ cur 68 (0, 0) hg]
    rw [List.getElem?_drop] at hu
    exact hgetx _ u hu
  obtain ⟨W1, hW1⟩ : ∃ W1, W1 = w.drew.setRow g cur1 := ⟨_, rfl⟩
  have hg1 : W1.heap[g]? = some (.cells cur1 68 (0, 0)) := by rw [hW1]; exact setRow_heap w.drew g cur cur1 68 (0, 0) hg
  have hv1 : W1.heap[vb]? = some (.cells x.toArray 68 (0, 0)) := by rw [hW1, setRow_other w.drew g vb cur1 hne]; exact hvb
  have hf2 : i * 4 + x.length ≤ cur1.size := by rw [hx, hcs1]; omega
  have hcp2 : ∀ ty dc, (Builtin.copy_ #[47, 47] ty #[.slice (some ⟨g, i * 4, none⟩) (n + m - i) dc, .slice (some ⟨vb, 0, none⟩) m vc]).run Tryd.prog W1 = .ok (goInt m) (W1.setRow g (splice cur1 (i * 4) x)) := fun ty dc => by
    refine run_copyZ W1 _ _ ty 68 g (i * 4) (n + m - i) dc ⟨vb, 0, none⟩ m vc x 4 m cur1 68 Tryd.underlying47 size_Vol (by simp only [Nat.min_def]; split <;> omega) hx ?_ hg1 hf2 h1x
    intro j u hu
    have hadd : (⟨vb, 0, none⟩ : Addr).add j = ⟨vb, 0 + j, none⟩ := by unfold Addr.add; split <;> simp_all
    rw [hadd, Nat.zero_add, cell_of_row W1 vb j x.toArray 68 (0, 0) hv1]
    simpa using hu
  rw [← hW1] at hcp1
  have fin : Hid ((W1.setRow g (splice cur1 (i * 4) x)).ownsRow base 68 4 (.slice (some ⟨g, 0, none⟩) (n + m) cap) (n + m) (xs.take (i * 4) ++ x ++ xs.drop (i * 4)) ∧ Grown w (W1.setRow g (splice cur1 (i * 4) x)) (.slice (some ⟨g, 0, none⟩) n cap) (.slice (some ⟨g, 0, none⟩) (n + m) cap)) := by
    refine Lib.hid ⟨⟨?_, .inr ⟨g, cap, _, rfl, hbase, setRow_heap W1 g cur1 _ 68 (0, 0) hg1, hroom, hcm, by rw [splice_size hf2, hcs1], ?_⟩⟩, ?_⟩
    · simp only [List.length_append, List.length_take, hdl, hx, hxl]; omega
    · rw [hcur1]
      exact ins_cells hcs hroom ht hin hx
    · rw [hW1]
      exact ((Grown.setRow (v := .slice (some ⟨g, 0, none⟩) n cap) (v' := .slice (some ⟨g, 0, none⟩) n cap) rfl rfl).trans (Grown.setRow rfl rfl) rfl rfl rfl).drew
  have Hc2 := Lib.hid hcp2
  clear hW1 hcur1 hg1 hv1 hf2 hcs1 hf1 hgetx hg hvb hsa hsb hfr ht hcs hdl hxl h1 h1x hcp2
  go_enter Tryd.func59, Tryd.ntmps59
  go_wp2_with (simp only [hov])
  go_region_law_o (refine step_copy_runI rfl _ _ 47 47 rfl _ _ (by simp [Act.eval, Act.put]) (by simp [Act.eval, Act.put]) (hcp1 _ _ _) ?_)
  have hc2 := Hc2.out
  go_wp2
  go_ret
  exact ⟨_, rfl, fin.out⟩

set_option maxRecDepth 100000 in
set_option maxHeartbeats 4000000 in
/-- No room. -/
theorem vInsert_grow (base g cap : Nat) (n i m vb vc : Nat) (xs x : List Value) (w : World) (hown : w.ownsRow base 68 4 (.slice (some ⟨g, 0, none⟩) n cap) n xs) (hi : i < n) (hm : 0 < m) (hroom : cap < n + m) (hlen : n + m ≤ 1000000) (hbase0 : base ≤ w.heap.size) (h1 : ∀ u ∈ xs, u.oneCell' = true) (hx : x.length = m * 4) (h1x : ∀ u ∈ x, u.oneCell' = true) (hvb : w.heap[vb]? = some (.cells x.toArray 68 (0, 0))) :
    Calls Tryd.prog 59 #[.slice (some ⟨g, 0, none⟩) n cap, .int .i64 (i : Nat), .slice (some ⟨vb, 0, none⟩) m vc] w fun e w' => ∃ v', e = .returned v' ∧ w'.ownsRow base 68 4 v' (n + m) (xs.take (i * 4) ++ x ++ xs.drop (i * 4)) ∧ Grown w w' (.slice (some ⟨g, 0, none⟩) n cap) v' := by
  have hxl := hown.1
  obtain ⟨g', cap', cur, hv, hbase, hg, hnc, hcm, hcs, ht⟩ := ownsRow_some hown (by omega)
  cases hv
  clear hown
  have mixed := mixed_ok
  have hz1 : ¬ ((m : Int) = 0) := by omega
  have hz2 : ¬ ((i : Int) = (n : Int)) := by omega
  have hz3 : (cap : Int) < (n : Int) + (m : Int) := by omega
  have hbw : g < w.heap.size := lt_of_at hg
  have hvw : vb < w.heap.size := lt_of_at hvb
  have hkk : (n : Int) + (m : Int) - (i : Int) = ((n + m - i : Nat) : Int) := by omega
  have hik : i + (n + m - i) = n + m := by omega
  have hzb : info_V.bytes = 32 := by kernel_rfl
  have hzs : info_V.size = 4 := by kernel_rfl
  have hgetx : ∀ (j : Nat) (u : Value), xs[j]? = some u → cur[j]? = some u := by
    intro j u hu
    rw [← ht, List.getElem?_take] at hu
    split at hu
    · simpa using hu
    · cases hu
  have hold : (Builtin.firstCells info_V.size i (.slice (some ⟨g, 0, none⟩) i cap)).run Tryd.prog w.drew = .ok (xs.take (i * 4)).toArray w.drew := by
    rw [hzs]
    refine run_firstCells_some w.drew 4 i ⟨g, 0, none⟩ i cap (xs.take (i * 4)) (by rw [List.length_take, hxl]; omega) (fun j v hj => ?_)
    have hadd : (⟨g, 0, none⟩ : Addr).add j = ⟨g, 0 + j, none⟩ := by unfold Addr.add; split <;> simp_all
    rw [hadd, Nat.zero_add, cell_of_row w.drew g j cur 68 (0, 0) hg]
    rw [List.getElem?_take] at hj
    split at hj
    · exact hgetx j v hj
    · cases hj
  have hrz : ∀ ty, (Builtin.append_ #[47, 3] ty #[.slice (some ⟨g, 0, none⟩) i cap, .int .i64 ((n : Int) + (m : Int) - (i : Int))]).run Tryd.prog w =
      .ok (.slice (some ⟨w.heap.size, 0, none⟩) (n + m) (grownCap w (n + m) cap 68)) (w.drew.alloc (.cells ((xs.take (i * 4)).toArray ++ Builtin.zeroCells #[.int .i64 0, .int .i64 0, .pointer none, .int .i64 0] (n + m - i) ++ Builtin.zeroCells #[.int .i64 0, .int .i64 0, .pointer none, .int .i64 0] (grownCap w (n + m) cap 68 - (n + m))) 68)) := fun ty => by
    have h := Lib.run_append_grow_zeros w 47 3 ty 68 info_V (.agg #[.int .i64 0, .int .i64 0, .pointer none, .int .i64 0]) .i64 .i64 Tryd.underlying47 Tryd.underlying3 info_V_eq (by kernel_rfl) (some ⟨g, 0, none⟩) i cap (xs.take (i * 4)) hold (n + m - i) (by omega) (by omega) (by omega) (by omega) (by rw [hzb]; omega) (by rw [hzb, hik]; exact growslice_fits hroom (by omega))
    rw [hik] at h
    rw [hkk]
    exact h
  obtain ⟨G, hG⟩ : ∃ G, G = grownCap w (n + m) cap 68 := ⟨_, rfl⟩
  obtain ⟨ROW, hROW⟩ : ∃ ROW : Array Value, ROW = (xs.take (i * 4)).toArray ++ Builtin.zeroCells #[.int .i64 0, .int .i64 0, .pointer none, .int .i64 0] (n + m - i) ++ Builtin.zeroCells #[.int .i64 0, .int .i64 0, .pointer none, .int .i64 0] (G - (n + m)) := ⟨_, rfl⟩
  rw [← hG, ← hROW] at hrz
  have hGn : n + m ≤ G := by rw [hG]; exact grownCap_ge w _ _ _
  have hGm : G ≤ maxLen := by rw [hG]; exact grownCap_le_maxLen w (n + m) cap 68 (by unfold maxLen; omega)
  have hG63 : G ≤ 9223372036854775807 := by unfold maxLen at hGm; omega
  have hRs : ROW.size = G * 4 := by
    rw [hROW, Array.size_append, Array.size_append, ← Array.length_toList (xs := Builtin.zeroCells _ _), zeroCells_len, ← Array.length_toList (xs := Builtin.zeroCells _ (G - _)), zeroCells_len]
    simp only [List.size_toArray, List.length_take, hxl]
    show _ + _ * 4 + _ * 4 = _
    omega
  have hRt : ROW.toList.take (i * 4) = xs.take (i * 4) := by
    have hl : (xs.take (i * 4)).length = i * 4 := by rw [List.length_take, hxl]; omega
    rw [hROW, Array.toList_append, Array.toList_append, List.append_assoc, List.take_append_of_le_length (by simp only [hl]; exact Nat.le_refl _), List.take_of_length_le (by simp only [hl]; exact Nat.le_refl _)]
  have hf1 : i * 4 + x.length ≤ ROW.size := by rw [hx, hRs]; omega
  obtain ⟨ROW1, hROW1⟩ : ∃ R, R = splice ROW (i * 4) x := ⟨_, rfl⟩
  have hRs1 : ROW1.size = G * 4 := by rw [hROW1, splice_size hf1, hRs]
  have hdl : (xs.drop (i * 4)).length = (n - i) * 4 := by rw [List.length_drop, hxl, Nat.sub_mul]
  have hf2 : (i + m) * 4 + (xs.drop (i * 4)).length ≤ ROW1.size := by rw [hdl, hRs1]; omega
  have hcpA : Hid (∀ (W : World), W.heap[w.heap.size]? = some (.cells ROW 68 (0, 0)) → W.heap[vb]? = some (.cells x.toArray 68 (0, 0)) → ∀ ty dc, (Builtin.copy_ #[47, 47] ty #[.slice (some ⟨w.heap.size, i * 4, none⟩) (n + m - i) dc, .slice (some ⟨vb, 0, none⟩) m vc]).run Tryd.prog W = .ok (goInt m) (W.setRow w.heap.size ROW1)) := by
    refine Lib.hid fun W h2 h3 ty dc => ?_
    rw [hROW1]
    refine run_copyZ W _ _ ty 68 w.heap.size (i * 4) (n + m - i) dc ⟨vb, 0, none⟩ m vc x 4 m ROW 68 Tryd.underlying47 size_Vol (by simp only [Nat.min_def]; split <;> omega) hx ?_ h2 hf1 h1x
    intro j u hu
    have hadd : (⟨vb, 0, none⟩ : Addr).add j = ⟨vb, 0 + j, none⟩ := by unfold Addr.add; split <;> simp_all
    rw [hadd, Nat.zero_add, cell_of_row W vb j x.toArray 68 (0, 0) h3]
    simpa using hu
  have hcpB : Hid (∀ (W : World), W.heap[w.heap.size]? = some (.cells ROW1 68 (0, 0)) → W.heap[g]? = some (.cells cur 68 (0, 0)) → ∀ ty dc sc, (Builtin.copy_ #[47, 47] ty #[.slice (some ⟨w.heap.size, (i + m) * 4, none⟩) (n + m - (i + m)) dc, .slice (some ⟨g, i * 4, none⟩) (n - i) sc]).run Tryd.prog W = .ok (goInt (n - i : Nat)) (W.setRow w.heap.size (splice ROW1 ((i + m) * 4) (xs.drop (i * 4))))) := by
    refine Lib.hid fun W h2 h3 ty dc sc => ?_
    refine run_copyZ W _ _ ty 68 w.heap.size ((i + m) * 4) (n + m - (i + m)) dc ⟨g, i * 4, none⟩ (n - i) sc (xs.drop (i * 4)) 4 (n - i) ROW1 68 Tryd.underlying47 size_Vol (by simp only [Nat.min_def]; split <;> omega) hdl ?_ h2 hf2 (fun v hv => h1 v (List.mem_of_mem_drop hv))
    intro j u hu
    have hadd : (⟨g, i * 4, none⟩ : Addr).add j = ⟨g, i * 4 + j, none⟩ := by unfold Addr.add; split <;> simp_all
    rw [hadd, cell_of_row W g _ cur 68 (0, 0) h3]
    rw [List.getElem?_drop] at hu
    exact hgetx _ u hu
  -- the worlds, one behind the other
  have hA : ∀ (W : World), W.heap = w.heap.push (.cells ROW 68) → W.heap[w.heap.size]? = some (.cells ROW 68 (0, 0)) ∧ W.heap[vb]? = some (.cells x.toArray 68 (0, 0)) ∧ W.heap[g]? = some (.cells cur 68 (0, 0)) := by
    intro W h
    rw [h]
    refine ⟨by simp, ?_, ?_⟩
    · rw [Array.getElem?_push_lt hvw, ← Array.getElem?_eq_getElem hvw]; exact hvb
    · rw [Array.getElem?_push_lt hbw, ← Array.getElem?_eq_getElem hbw]; exact hg
  have hA1 := Lib.hid (hA (w.alloc (.cells ROW 68)).drew rfl)
  obtain ⟨W2, hW2⟩ : ∃ W2, W2 = (w.alloc (.cells ROW 68)).drew.setRow w.heap.size ROW1 := ⟨_, rfl⟩
  have hB1 : Hid (W2.drew.heap[w.heap.size]? = some (.cells ROW1 68 (0, 0)) ∧ W2.drew.heap[g]? = some (.cells cur 68 (0, 0))) := by
    refine Lib.hid ⟨?_, ?_⟩
    · show W2.heap[_]? = _
      rw [hW2]; exact setRow_heap _ _ ROW _ 68 (0, 0) hA1.out.1
    · show W2.heap[_]? = _
      rw [hW2, setRow_other _ _ g _ (by omega)]; exact hA1.out.2.2
  have HA := Lib.hid (hcpA.out _ hA1.out.1 hA1.out.2.1)
  rw [← hW2] at HA
  have HB := Lib.hid (hcpB.out _ hB1.out.1 hB1.out.2)
  have fin : Hid ((W2.drew.setRow w.heap.size (splice ROW1 ((i + m) * 4) (xs.drop (i * 4)))).ownsRow base 68 4 (.slice (some ⟨w.heap.size, 0, none⟩) (n + m) G) (n + m) (xs.take (i * 4) ++ x ++ xs.drop (i * 4)) ∧ Grown w (W2.drew.setRow w.heap.size (splice ROW1 ((i + m) * 4) (xs.drop (i * 4)))) (.slice (some ⟨g, 0, none⟩) n cap) (.slice (some ⟨w.heap.size, 0, none⟩) (n + m) G)) := by
    refine Lib.hid ⟨⟨?_, .inr ⟨_, G, _, rfl, hbase0, setRow_heap W2.drew _ ROW1 _ 68 (0, 0) hB1.out.1, hGn, hGm, by rw [splice_size hf2, hRs1], ?_⟩⟩, ⟨⟨by rw [hW2]; rfl, by rw [hW2]; rfl, by rw [hW2]; rfl, ?_, fun k hk _ => ?_⟩, .inr rfl⟩⟩
    · simp only [List.length_append, List.length_take, hdl, hx, hxl]; omega
    · rw [hROW1]
      exact grow_cells hRs hGn (Nat.le_of_lt hi) hxl hx hRt
    · rw [hW2]; simp
    · rw [setRow_other _ _ k _ (by omega), hW2]
      show ((w.alloc (.cells ROW 68)).drew.setRow w.heap.size ROW1).heap[k]? = _
      rw [setRow_other _ _ k _ (by omega)]
      exact Below.heap_alloc w _ k hk
  have hGi : ¬ (G = i) := by omega
  have hGim : ¬ (G = i + m) := by omega
  have hci : ¬ (cap = i) := by omega
  have hw1 : IntKind.i64.wrap ((i : Int) + (m : Int)) = (i : Int) + (m : Int) := by rw [IntKind.wrap_i64]; omega
  have hb1 : (0 : Int) ≤ (i : Int) + (m : Int) := by omega
  have hin : i ≤ n := by omega
  have htn : ((i : Int) + (m : Int)).toNat = i + m := by omega
  have hb3 : (i : Int) ≤ (n : Int) := by omega
  have hc63 : cap ≤ 9223372036854775807 := by omega
  have HZ := Lib.hid hrz
  clear hkk hik hold hROW hROW1 hG hrz hRs hRs1 hRt hf1 hf2 hA hgetx hA1 hB1 hcpA hcpB hg hvb hcs ht hxl hdl h1 h1x hzb hzs
  go_enter Tryd.func59, Tryd.ntmps59
  have hca := HA.out
  clear hW2
  go_wp2_with (first
    | (at_builtin; refine Lib.wpList_append_run _ rfl _ _ _ _ rfl _ _ rfl rfl _ _ (HZ.out _) ?_)
    | fail)
  go_region_law_o (refine step_copy_runI rfl _ _ 47 47 rfl (.slice (some ⟨w.heap.size, (i + m) * 4, none⟩) (n + m - (i + m)) (G - (i + m))) (.slice (some ⟨g, i * 4, none⟩) (n - i) (cap - i)) (by simp [Act.eval, Act.put]) (by simp [Act.eval, Act.put]) (HB.out 3 (G - (i + m)) (cap - i)) ?_)
  go_wp2
  go_ret
  exact ⟨_, rfl, fin.out⟩

theorem vInsert_ok (base : Nat) (v : Value) (n i m vb vc : Nat) (xs x : List Value) (w : World) (hown : w.ownsRow base 68 4 v n xs) (hi : i ≤ n) (hm : 0 < m) (hlen : n + m ≤ 1000000) (hbase0 : base ≤ w.heap.size) (h1 : ∀ u ∈ xs, u.oneCell' = true) (hx : x.length = m * 4) (h1x : ∀ u ∈ x, u.oneCell' = true) (hvb : w.heap[vb]? = some (.cells x.toArray 68 (0, 0))) (hne : v.ownBlock ≠ some vb) :
    Calls Tryd.prog 59 #[v, .int .i64 (i : Nat), .slice (some ⟨vb, 0, none⟩) m vc] w fun e w' => ∃ v', e = .returned v' ∧ w'.ownsRow base 68 4 v' (n + m) (xs.take (i * 4) ++ x ++ xs.drop (i * 4)) ∧ Grown w w' v v' := by
  by_cases he : i = n
  · subst he
    rw [List.take_of_length_le (by rw [hown.1]; exact Nat.le_refl _), List.drop_of_length_le (by rw [hown.1]; exact Nat.le_refl _), List.append_nil]
    exact vInsert_end base v i m vb vc xs x w hown hm hlen hbase0 hx h1x hvb
  · obtain ⟨g, cap, cur, rfl, _⟩ := ownsRow_some hown (by omega)
    by_cases hr : n + m ≤ cap
    · exact vInsert_room base g cap n i m vb vc xs x w hown (by omega) hm hr hlen h1 hx h1x hvb (by rintro rfl; exact hne rfl)
    · exact vInsert_grow base g cap n i m vb vc xs x w hown (by omega) hm (by omega) hlen hbase0 h1 hx h1x hvb

set_option maxRecDepth 100000 in
set_option maxHeartbeats 4000000 in
/-- At the end. -/
theorem sInsert_end (base : Nat) (v : Value) (n m vb vc : Nat) (xs x : List Value) (w : World) (hown : w.ownsRow base 64 5 v n xs) (hm : 0 < m) (hlen : n + m ≤ 1000000) (hbase : base ≤ w.heap.size) (hx : x.length = m * 5) (h1x : ∀ u ∈ x, u.oneCell' = true) (hvb : w.heap[vb]? = some (.cells x.toArray 64 (0, 0))) :
    Calls Tryd.prog 46 #[v, .int .i64 (n : Nat), .slice (some ⟨vb, 0, none⟩) m vc] w fun e w' => ∃ v', e = .returned v' ∧ w'.ownsRow base 64 5 v' (n + m) (xs ++ x) ∧ Grown w w' v v' := by
  have hm0 : ¬ ((m : Int) = 0) := by omega
  have hsrc : Hid (∀ j u, x[j]? = some u → w.cell? ((⟨vb, 0, none⟩ : Addr).add j) = some u) := Lib.hid fun j u hu => by
    have hadd : (⟨vb, 0, none⟩ : Addr).add j = ⟨vb, 0 + j, none⟩ := by unfold Addr.add; split <;> simp_all
    rw [hadd, Nat.zero_add, cell_of_row w vb j x.toArray 64 (0, 0) hvb]
    simpa using hu
  have H1 := Lib.hid hown
  have H2 := Lib.hid h1x
  have hmx : n + m ≤ maxLen := by unfold maxLen; omega
  have hby : (n + m) * 40 ≤ 140737488355328 := by omega
  have hn0 : (0 : Int) ≤ (n : Int) := by omega
  rcases hown.2 with ⟨rfl, rfl⟩ | ⟨g, cap, cur, rfl, _, _, hnc, hcm, _⟩
  · clear hown h1x hvb
    go_enter Tryd.func46, Tryd.ntmps46
    go_wp2_with (first | (at_builtin; refine wpList_append_own_at _ rfl _ _ 48 rfl base 64 info_S (.agg #[.int .i64 0, .int .i64 0, .pointer none, .int .i64 0, .int .i64 0]) 5 40 Tryd.underlying48 info_S_eq (by kernel_rfl) (by kernel_rfl) (by kernel_rfl) rfl (by decide) _ _ xs rfl H1.out ⟨vb, 0, none⟩ m vc x rfl hx hsrc.out H2.out hmx hby hbase ?_) | fail)
    intro v' w1 h2 h3 h4 h5
    go_wp2
    go_ret
    exact ⟨_, rfl, by rw [Nat.zero_add]; exact h2, ⟨h3, h5⟩⟩
  · clear hown h1x hvb
    go_enter Tryd.func46, Tryd.ntmps46
    go_wp2_with (first | (at_builtin; refine wpList_append_own_at _ rfl _ _ 48 rfl base 64 info_S (.agg #[.int .i64 0, .int .i64 0, .pointer none, .int .i64 0, .int .i64 0]) 5 40 Tryd.underlying48 info_S_eq (by kernel_rfl) (by kernel_rfl) (by kernel_rfl) rfl (by decide) _ _ xs rfl H1.out ⟨vb, 0, none⟩ m vc x rfl hx hsrc.out H2.out hmx hby hbase ?_) | fail)
    all_goals
      intro v' w1 h2 h3 h4 h5
      go_wp2
      go_ret
      exact ⟨_, rfl, h2, ⟨h3, h5⟩⟩

set_option maxRecDepth 100000 in
set_option maxHeartbeats 4000000 in
/-- In place. -/
theorem sInsert_room (base g cap : Nat) (n i m vb vc : Nat) (xs x : List Value) (w : World) (hown : w.ownsRow base 64 5 (.slice (some ⟨g, 0, none⟩) n cap) n xs) (hi : i < n) (hm : 0 < m) (hroom : n + m ≤ cap) (hlen : n + m ≤ 1000000) (h1 : ∀ u ∈ xs, u.oneCell' = true) (hx : x.length = m * 5) (h1x : ∀ u ∈ x, u.oneCell' = true) (hvb : w.heap[vb]? = some (.cells x.toArray 64 (0, 0))) (hne : vb ≠ g) :
    Calls Tryd.prog 46 #[.slice (some ⟨g, 0, none⟩) n cap, .int .i64 (i : Nat), .slice (some ⟨vb, 0, none⟩) m vc] w fun e w' => ∃ v', e = .returned v' ∧ w'.ownsRow base 64 5 v' (n + m) (xs.take (i * 5) ++ x ++ xs.drop (i * 5)) ∧ Grown w w' (.slice (some ⟨g, 0, none⟩) n cap) v' := by
  have hxl := hown.1
  obtain ⟨g', cap', cur, hv, hbase, hg, hnc, hcm, hcs, ht⟩ := ownsRow_some hown (by omega)
  cases hv
  clear hown
  have hz1 : ¬ ((m : Int) = 0) := by omega
  have hz2 : ¬ ((i : Int) = (n : Int)) := by omega
  have mixed := mixed_ok
  have hfr : ∀ j, w.frozen? ⟨vb, j, none⟩ = false := fun j => frozen_of_row w vb j _ _ hvb
  have hsa : w.shape? vb = some (64, x.toArray.size) := by simp [World.shape?, hvb]
  have hsb : w.shape? g = some (64, cur.size) := by simp [World.shape?, hg]
  have hov : ∀ lb cb, (callFunc 66 #[.slice (some ⟨vb, 0, none⟩) m vc, .slice (some ⟨g, (i + m) * 5, none⟩) lb cb]).run Tryd.prog w = .ok (.value (.bool false)) w := fun lb cb => by
    rw [run_callFunc_extern Tryd.func66 (by kernel_rfl) (by kernel_rfl) (by kernel_rfl) (e := Extern.SlicesOverlaps.overlaps #[48, 48] #[4]) (by kernel_rfl),
      Lib.run_overlaps_apart w 48 4 64 Tryd.underlying48 5 Tryd.sizeOf64 ⟨vb, 0, none⟩ ⟨g, (i + m) * 5, none⟩ m vc lb cb hne 64 64 x.toArray.size cur.size hsa hsb (by rw [hcs]; omega) (hfr _) (hfr _)]
    rfl
  have hdl : (xs.drop (i * 5)).length = (n - i) * 5 := by rw [List.length_drop, hxl, Nat.sub_mul]
  have hw1 : IntKind.i64.wrap ((i : Int) + (m : Int)) = (i : Int) + (m : Int) := by rw [IntKind.wrap_i64]; omega
  have hb1 : (0 : Int) ≤ (i : Int) + (m : Int) := by omega
  have hin : i ≤ n := by omega
  have htn : ((i : Int) + (m : Int)).toNat = i + m := by omega
  have hb2 : ¬ (cap = i + m) := by omega
  have hb3 : (i : Int) ≤ (n : Int) + (m : Int) := by omega
  have hb4 : ¬ (cap = i) := by omega
  have hc63 : cap ≤ 9223372036854775807 := by unfold maxLen at hcm; omega
  have hf1 : (i + m) * 5 + (xs.drop (i * 5)).length ≤ cur.size := by rw [hdl, hcs]; omega
  obtain ⟨cur1, hcur1⟩ : ∃ cur1, cur1 = splice cur ((i + m) * 5) (xs.drop (i * 5)) := ⟨_, rfl⟩
  have hcs1 : cur1.size = cap * 5 := by rw [hcur1, splice_size hf1, hcs]
  have hgetx : ∀ (j : Nat) (u : Value), xs[j]? = some u → cur[j]? = some u := by
    intro j u hu
    rw [← ht, List.getElem?_take] at hu
    split at hu
    · simpa using hu
    · cases hu
  have hcp1 : ∀ ty dc sc, (Builtin.copy_ #[48, 48] ty #[.slice (some ⟨g, (i + m) * 5, none⟩) (n + m - (i + m)) dc, .slice (some ⟨g, i * 5, none⟩) (n + m - i) sc]).run Tryd.prog w.drew = .ok (goInt (n - i : Nat)) (w.drew.setRow g cur1) := fun ty dc sc => by
    rw [hcur1]
    refine run_copyZ w.drew _ _ ty 64 g ((i + m) * 5) (n + m - (i + m)) dc ⟨g, i * 5, none⟩ (n + m - i) sc (xs.drop (i * 5)) 5 (n - i) cur 64 Tryd.underlying48 size_Snp (by simp only [Nat.min_def]; split <;> omega) hdl ?_ hg hf1 (fun v hv => h1 v (List.mem_of_mem_drop hv))
    intro j u hu
    have hadd : (⟨g, i * 5, none⟩ : Addr).add j = ⟨g, i * 5 + j, none⟩ := by unfold Addr.add; split <;> simp_all
    rw [hadd, cell_of_row w.drew g _ cur 64 (0, 0) hg]
    rw [List.getElem?_drop] at hu
    exact hgetx _ u hu
  obtain ⟨W1, hW1⟩ : ∃ W1, W1 = w.drew.setRow g cur1 := ⟨_, rfl⟩
  have hg1 : W1.heap[g]? = some (.cells cur1 64 (0, 0)) := by rw [hW1]; exact setRow_heap w.drew g cur cur1 64 (0, 0) hg
  have hv1 : W1.heap[vb]? = some (.cells x.toArray 64 (0, 0)) := by rw [hW1, setRow_other w.drew g vb cur1 hne]; exact hvb
  have hf2 : i * 5 + x.length ≤ cur1.size := by rw [hx, hcs1]; omega
  have hcp2 : ∀ ty dc, (Builtin.copy_ #[48, 48] ty #[.slice (some ⟨g, i * 5, none⟩) (n + m - i) dc, .slice (some ⟨vb, 0, none⟩) m vc]).run Tryd.prog W1 = .ok (goInt m) (W1.setRow g (splice cur1 (i * 5) x)) := fun ty dc => by
    refine run_copyZ W1 _ _ ty 64 g (i * 5) (n + m - i) dc ⟨vb, 0, none⟩ m vc x 5 m cur1 64 Tryd.underlying48 size_Snp (by simp only [Nat.min_def]; split <;> omega) hx ?_ hg1 hf2 h1x
    intro j u hu
    have hadd : (⟨vb, 0, none⟩ : Addr).add j = ⟨vb, 0 + j, none⟩ := by unfold Addr.add; split <;> simp_all
    rw [hadd, Nat.zero_add, cell_of_row W1 vb j x.toArray 64 (0, 0) hv1]
    simpa using hu
  rw [← hW1] at hcp1
  have fin : Hid ((W1.setRow g (splice cur1 (i * 5) x)).ownsRow base 64 5 (.slice (some ⟨g, 0, none⟩) (n + m) cap) (n + m) (xs.take (i * 5) ++ x ++ xs.drop (i * 5)) ∧ Grown w (W1.setRow g (splice cur1 (i * 5) x)) (.slice (some ⟨g, 0, none⟩) n cap) (.slice (some ⟨g, 0, none⟩) (n + m) cap)) := by
    refine Lib.hid ⟨⟨?_, .inr ⟨g, cap, _, rfl, hbase, setRow_heap W1 g cur1 _ 64 (0, 0) hg1, hroom, hcm, by rw [splice_size hf2, hcs1], ?_⟩⟩, ?_⟩
    · simp only [List.length_append, List.length_take, hdl, hx, hxl]; omega
    · rw [hcur1]
      exact ins_cells hcs hroom ht hin hx
    · rw [hW1]
      exact ((Grown.setRow (v := .slice (some ⟨g, 0, none⟩) n cap) (v' := .slice (some ⟨g, 0, none⟩) n cap) rfl rfl).trans (Grown.setRow rfl rfl) rfl rfl rfl).drew
  have Hc2 := Lib.hid hcp2
  clear hW1 hcur1 hg1 hv1 hf2 hcs1 hf1 hgetx hg hvb hsa hsb hfr ht hcs hdl hxl h1 h1x hcp2
  go_enter Tryd.func46, Tryd.ntmps46
  go_wp2_with (simp only [hov])
  go_region_law_o (refine step_copy_runI rfl _ _ 48 48 rfl _ _ (by simp [Act.eval, Act.put]) (by simp [Act.eval, Act.put]) (hcp1 _ _ _) ?_)
  have hc2 := Hc2.out
  go_wp2
  go_ret
  exact ⟨_, rfl, fin.out⟩

set_option maxRecDepth 100000 in
set_option maxHeartbeats 4000000 in
/-- No room. -/
theorem sInsert_grow (base g cap : Nat) (n i m vb vc : Nat) (xs x : List Value) (w : World) (hown : w.ownsRow base 64 5 (.slice (some ⟨g, 0, none⟩) n cap) n xs) (hi : i < n) (hm : 0 < m) (hroom : cap < n + m) (hlen : n + m ≤ 1000000) (hbase0 : base ≤ w.heap.size) (h1 : ∀ u ∈ xs, u.oneCell' = true) (hx : x.length = m * 5) (h1x : ∀ u ∈ x, u.oneCell' = true) (hvb : w.heap[vb]? = some (.cells x.toArray 64 (0, 0))) :
    Calls Tryd.prog 46 #[.slice (some ⟨g, 0, none⟩) n cap, .int .i64 (i : Nat), .slice (some ⟨vb, 0, none⟩) m vc] w fun e w' => ∃ v', e = .returned v' ∧ w'.ownsRow base 64 5 v' (n + m) (xs.take (i * 5) ++ x ++ xs.drop (i * 5)) ∧ Grown w w' (.slice (some ⟨g, 0, none⟩) n cap) v' := by
  have hxl := hown.1
  obtain ⟨g', cap', cur, hv, hbase, hg, hnc, hcm, hcs, ht⟩ := ownsRow_some hown (by omega)
  cases hv
  clear hown
  have mixed := mixed_ok
  have hz1 : ¬ ((m : Int) = 0) := by omega
  have hz2 : ¬ ((i : Int) = (n : Int)) := by omega
  have hz3 : (cap : Int) < (n : Int) + (m : Int) := by omega
  have hbw : g < w.heap.size := lt_of_at hg
  have hvw : vb < w.heap.size := lt_of_at hvb
  have hkk : (n : Int) + (m : Int) - (i : Int) = ((n + m - i : Nat) : Int) := by omega
  have hik : i + (n + m - i) = n + m := by omega
  have hzb : info_S.bytes = 40 := by kernel_rfl
  have hzs : info_S.size = 5 := by kernel_rfl
  have hgetx : ∀ (j : Nat) (u : Value), xs[j]? = some u → cur[j]? = some u := by
    intro j u hu
    rw [← ht, List.getElem?_take] at hu
    split at hu
    · simpa using hu
    · cases hu
  have hold : (Builtin.firstCells info_S.size i (.slice (some ⟨g, 0, none⟩) i cap)).run Tryd.prog w.drew = .ok (xs.take (i * 5)).toArray w.drew := by
    rw [hzs]
    refine run_firstCells_some w.drew 5 i ⟨g, 0, none⟩ i cap (xs.take (i * 5)) (by rw [List.length_take, hxl]; omega) (fun j v hj => ?_)
    have hadd : (⟨g, 0, none⟩ : Addr).add j = ⟨g, 0 + j, none⟩ := by unfold Addr.add; split <;> simp_all
    rw [hadd, Nat.zero_add, cell_of_row w.drew g j cur 64 (0, 0) hg]
    rw [List.getElem?_take] at hj
    split at hj
    · exact hgetx j v hj
    · cases hj
  have hrz : ∀ ty, (Builtin.append_ #[48, 3] ty #[.slice (some ⟨g, 0, none⟩) i cap, .int .i64 ((n : Int) + (m : Int) - (i : Int))]).run Tryd.prog w =
      .ok (.slice (some ⟨w.heap.size, 0, none⟩) (n + m) (grownCap w (n + m) cap 64)) (w.drew.alloc (.cells ((xs.take (i * 5)).toArray ++ Builtin.zeroCells #[.int .i64 0, .int .i64 0, .pointer none, .int .i64 0, .int .i64 0] (n + m - i) ++ Builtin.zeroCells #[.int .i64 0, .int .i64 0, .pointer none, .int .i64 0, .int .i64 0] (grownCap w (n + m) cap 64 - (n + m))) 64)) := fun ty => by
    have h := Lib.run_append_grow_zeros w 48 3 ty 64 info_S (.agg #[.int .i64 0, .int .i64 0, .pointer none, .int .i64 0, .int .i64 0]) .i64 .i64 Tryd.underlying48 Tryd.underlying3 info_S_eq (by kernel_rfl) (some ⟨g, 0, none⟩) i cap (xs.take (i * 5)) hold (n + m - i) (by omega) (by omega) (by omega) (by omega) (by rw [hzb]; omega) (by rw [hzb, hik]; exact growslice_fits hroom (by omega))
    rw [hik] at h
    rw [hkk]
    exact h
  obtain ⟨G, hG⟩ : ∃ G, G = grownCap w (n + m) cap 64 := ⟨_, rfl⟩
  obtain ⟨ROW, hROW⟩ : ∃ ROW : Array Value, ROW = (xs.take (i * 5)).toArray ++ Builtin.zeroCells #[.int .i64 0, .int .i64 0, .pointer none, .int .i64 0, .int .i64 0] (n + m - i) ++ Builtin.zeroCells #[.int .i64 0, .int .i64 0, .pointer none, .int .i64 0, .int .i64 0] (G - (n + m)) := ⟨_, rfl⟩
  rw [← hG, ← hROW] at hrz
  have hGn : n + m ≤ G := by rw [hG]; exact grownCap_ge w _ _ _
  have hGm : G ≤ maxLen := by rw [hG]; exact grownCap_le_maxLen w (n + m) cap 64 (by unfold maxLen; omega)
  have hG63 : G ≤ 9223372036854775807 := by unfold maxLen at hGm; omega
  have hRs : ROW.size = G * 5 := by
    rw [hROW, Array.size_append, Array.size_append, ← Array.length_toList (xs := Builtin.zeroCells _ _), zeroCells_len, ← Array.length_toList (xs := Builtin.zeroCells _ (G - _)), zeroCells_len]
    simp only [List.size_toArray, List.length_take, hxl]
    show _ + _ * 5 + _ * 5 = _
    omega
  have hRt : ROW.toList.take (i * 5) = xs.take (i * 5) := by
    have hl : (xs.take (i * 5)).length = i * 5 := by rw [List.length_take, hxl]; omega
    rw [hROW, Array.toList_append, Array.toList_append, List.append_assoc, List.take_append_of_le_length (by simp only [hl]; exact Nat.le_refl _), List.take_of_length_le (by simp only [hl]; exact Nat.le_refl _)]
  have hf1 : i * 5 + x.length ≤ ROW.size := by rw [hx, hRs]; omega
  obtain ⟨ROW1, hROW1⟩ : ∃ R, R = splice ROW (i * 5) x := ⟨_, rfl⟩
  have hRs1 : ROW1.size = G * 5 := by rw [hROW1, splice_size hf1, hRs]
  have hdl : (xs.drop (i * 5)).length = (n - i) * 5 := by rw [List.length_drop, hxl, Nat.sub_mul]
  have hf2 : (i + m) * 5 + (xs.drop (i * 5)).length ≤ ROW1.size := by rw [hdl, hRs1]; omega
  have hcpA : Hid (∀ (W : World), W.heap[w.heap.size]? = some (.cells ROW 64 (0, 0)) → W.heap[vb]? = some (.cells x.toArray 64 (0, 0)) → ∀ ty dc, (Builtin.copy_ #[48, 48] ty #[.slice (some ⟨w.heap.size, i * 5, none⟩) (n + m - i) dc, .slice (some ⟨vb, 0, none⟩) m vc]).run Tryd.prog W = .ok (goInt m) (W.setRow w.heap.size ROW1)) := by
    refine Lib.hid fun W h2 h3 ty dc => ?_
    rw [hROW1]
    refine run_copyZ W _ _ ty 64 w.heap.size (i * 5) (n + m - i) dc ⟨vb, 0, none⟩ m vc x 5 m ROW 64 Tryd.underlying48 size_Snp (by simp only [Nat.min_def]; split <;> omega) hx ?_ h2 hf1 h1x
    intro j u hu
    have hadd : (⟨vb, 0, none⟩ : Addr).add j = ⟨vb, 0 + j, none⟩ := by unfold Addr.add; split <;> simp_all
    rw [hadd, Nat.zero_add, cell_of_row W vb j x.toArray 64 (0, 0) h3]
    simpa using hu
  have hcpB : Hid (∀ (W : World), W.heap[w.heap.size]? = some (.cells ROW1 64 (0, 0)) → W.heap[g]? = some (.cells cur 64 (0, 0)) → ∀ ty dc sc, (Builtin.copy_ #[48, 48] ty #[.slice (some ⟨w.heap.size, (i + m) * 5, none⟩) (n + m - (i + m)) dc, .slice (some ⟨g, i * 5, none⟩) (n - i) sc]).run Tryd.prog W = .ok (goInt (n - i : Nat)) (W.setRow w.heap.size (splice ROW1 ((i + m) * 5) (xs.drop (i * 5))))) := by
    refine Lib.hid fun W h2 h3 ty dc sc => ?_
    refine run_copyZ W _ _ ty 64 w.heap.size ((i + m) * 5) (n + m - (i + m)) dc ⟨g, i * 5, none⟩ (n - i) sc (xs.drop (i * 5)) 5 (n - i) ROW1 64 Tryd.underlying48 size_Snp (by simp only [Nat.min_def]; split <;> omega) hdl ?_ h2 hf2 (fun v hv => h1 v (List.mem_of_mem_drop hv))
    intro j u hu
    have hadd : (⟨g, i * 5, none⟩ : Addr).add j = ⟨g, i * 5 + j, none⟩ := by unfold Addr.add; split <;> simp_all
    rw [hadd, cell_of_row W g _ cur 64 (0, 0) h3]
    rw [List.getElem?_drop] at hu
    exact hgetx _ u hu
  -- the worlds, one behind the other
  have hA : ∀ (W : World), W.heap = w.heap.push (.cells ROW 64) → W.heap[w.heap.size]? = some (.cells ROW 64 (0, 0)) ∧ W.heap[vb]? = some (.cells x.toArray 64 (0, 0)) ∧ W.heap[g]? = some (.cells cur 64 (0, 0)) := by
    intro W h
    rw [h]
    refine ⟨by simp, ?_, ?_⟩
    · rw [Array.getElem?_push_lt hvw, ← Array.getElem?_eq_getElem hvw]; exact hvb
    · rw [Array.getElem?_push_lt hbw, ← Array.getElem?_eq_getElem hbw]; exact hg
  have hA1 := Lib.hid (hA (w.alloc (.cells ROW 64)).drew rfl)
  obtain ⟨W2, hW2⟩ : ∃ W2, W2 = (w.alloc (.cells ROW 64)).drew.setRow w.heap.size ROW1 := ⟨_, rfl⟩
  have hB1 : Hid (W2.drew.heap[w.heap.size]? = some (.cells ROW1 64 (0, 0)) ∧ W2.drew.heap[g]? = some (.cells cur 64 (0, 0))) := by
    refine Lib.hid ⟨?_, ?_⟩
    · show W2.heap[_]? = _
      rw [hW2]; exact setRow_heap _ _ ROW _ 64 (0, 0) hA1.out.1
    · show W2.heap[_]? = _
      rw [hW2, setRow_other _ _ g _ (by omega)]; exact hA1.out.2.2
  have HA := Lib.hid (hcpA.out _ hA1.out.1 hA1.out.2.1)
  rw [← hW2] at HA
  have HB := Lib.hid (hcpB.out _ hB1.out.1 hB1.out.2)
  have fin : Hid ((W2.drew.setRow w.heap.size (splice ROW1 ((i + m) * 5) (xs.drop (i * 5)))).ownsRow base 64 5 (.slice (some ⟨w.heap.size, 0, none⟩) (n + m) G) (n + m) (xs.take (i * 5) ++ x ++ xs.drop (i * 5)) ∧ Grown w (W2.drew.setRow w.heap.size (splice ROW1 ((i + m) * 5) (xs.drop (i * 5)))) (.slice (some ⟨g, 0, none⟩) n cap) (.slice (some ⟨w.heap.size, 0, none⟩) (n + m) G)) := by
    refine Lib.hid ⟨⟨?_, .inr ⟨_, G, _, rfl, hbase0, setRow_heap W2.drew _ ROW1 _ 64 (0, 0) hB1.out.1, hGn, hGm, by rw [splice_size hf2, hRs1], ?_⟩⟩, ⟨⟨by rw [hW2]; rfl, by rw [hW2]; rfl, by rw [hW2]; rfl, ?_, fun k hk _ => ?_⟩, .inr rfl⟩⟩
    · simp only [List.length_append, List.length_take, hdl, hx, hxl]; omega
    · rw [hROW1]
      exact grow_cells hRs hGn (Nat.le_of_lt hi) hxl hx hRt
    · rw [hW2]; simp
    · rw [setRow_other _ _ k _ (by omega), hW2]
      show ((w.alloc (.cells ROW 64)).drew.setRow w.heap.size ROW1).heap[k]? = _
      rw [setRow_other _ _ k _ (by omega)]
      exact Below.heap_alloc w _ k hk
  have hGi : ¬ (G = i) := by omega
  have hGim : ¬ (G = i + m) := by omega
  have hci : ¬ (cap = i) := by omega
  have hw1 : IntKind.i64.wrap ((i : Int) + (m : Int)) = (i : Int) + (m : Int) := by rw [IntKind.wrap_i64]; omega
  have hb1 : (0 : Int) ≤ (i : Int) + (m : Int) := by omega
  have hin : i ≤ n := by omega
  have htn : ((i : Int) + (m : Int)).toNat = i + m := by omega
  have hb3 : (i : Int) ≤ (n : Int) := by omega
  have hc63 : cap ≤ 9223372036854775807 := by omega
  have HZ := Lib.hid hrz
  clear hkk hik hold hROW hROW1 hG hrz hRs hRs1 hRt hf1 hf2 hA hgetx hA1 hB1 hcpA hcpB hg hvb hcs ht hxl hdl h1 h1x hzb hzs
  go_enter Tryd.func46, Tryd.ntmps46
  have hca := HA.out
  clear hW2
  go_wp2_with (first
    | (at_builtin; refine Lib.wpList_append_run _ rfl _ _ _ _ rfl _ _ rfl rfl _ _ (HZ.out _) ?_)
    | fail)
  go_region_law_o (refine step_copy_runI rfl _ _ 48 48 rfl (.slice (some ⟨w.heap.size, (i + m) * 5, none⟩) (n + m - (i + m)) (G - (i + m))) (.slice (some ⟨g, i * 5, none⟩) (n - i) (cap - i)) (by simp [Act.eval, Act.put]) (by simp [Act.eval, Act.put]) (HB.out 3 (G - (i + m)) (cap - i)) ?_)
  go_wp2
  go_ret
  exact ⟨_, rfl, fin.out⟩

theorem sInsert_ok (base : Nat) (v : Value) (n i m vb vc : Nat) (xs x : List Value) (w : World) (hown : w.ownsRow base 64 5 v n xs) (hi : i ≤ n) (hm : 0 < m) (hlen : n + m ≤ 1000000) (hbase0 : base ≤ w.heap.size) (h1 : ∀ u ∈ xs, u.oneCell' = true) (hx : x.length = m * 5) (h1x : ∀ u ∈ x, u.oneCell' = true) (hvb : w.heap[vb]? = some (.cells x.toArray 64 (0, 0))) (hne : v.ownBlock ≠ some vb) :
    Calls Tryd.prog 46 #[v, .int .i64 (i : Nat), .slice (some ⟨vb, 0, none⟩) m vc] w fun e w' => ∃ v', e = .returned v' ∧ w'.ownsRow base 64 5 v' (n + m) (xs.take (i * 5) ++ x ++ xs.drop (i * 5)) ∧ Grown w w' v v' := by
  by_cases he : i = n
  · subst he
    rw [List.take_of_length_le (by rw [hown.1]; exact Nat.le_refl _), List.drop_of_length_le (by rw [hown.1]; exact Nat.le_refl _), List.append_nil]
    exact sInsert_end base v i m vb vc xs x w hown hm hlen hbase0 hx h1x hvb
  · obtain ⟨g, cap, cur, rfl, _⟩ := ownsRow_some hown (by omega)
    by_cases hr : n + m ≤ cap
    · exact sInsert_room base g cap n i m vb vc xs x w hown (by omega) hm hr hlen h1 hx h1x hvb (by rintro rfl; exact hne rfl)
    · exact sInsert_grow base g cap n i m vb vc xs x w hown (by omega) hm (by omega) hlen hbase0 h1 hx h1x hvb
end Go.Proofs.YtdaagmhkhfcmdaaDoor
