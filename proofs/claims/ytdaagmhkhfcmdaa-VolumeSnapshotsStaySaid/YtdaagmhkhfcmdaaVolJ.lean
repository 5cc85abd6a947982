/- slices.Clone and slices.Delete at volumes and at snapshots. Written by gen_VolJ.py. -/
import Derived.Test.YtdaagmhkhfcmdaaVolI
import Derived.Test.YtdaagmhkhfcmdaaCut
namespace Go.Proofs.Ytdaagmhkhfcmdaa
open Go Go.RowKit
set_option maxHeartbeats 400000

theorem encV_len (x : Vol) : (encV x).length = 4 := rfl
theorem encS_len (x : Snp) : (encS x).length = 5 := rfl
theorem encV_one (x : Vol) : ∀ u ∈ encV x, u.oneCell' = true := by
  intro u hu
  simp only [encV, List.mem_cons, List.not_mem_nil, or_false] at hu
  rcases hu with rfl | rfl | rfl | rfl <;> rfl
theorem encS_one (x : Snp) : ∀ u ∈ encS x, u.oneCell' = true := by
  intro u hu
  simp only [encS, List.mem_cons, List.not_mem_nil, or_false] at hu
  rcases hu with rfl | rfl | rfl | rfl | rfl <;> rfl
theorem flat_len {α : Type} {enc : α → List Value} {sz : Nat} (hl : ∀ x, (enc x).length = sz) (xs : List α) : (xs.flatMap enc).length = xs.length * sz := by
  induction xs with
  | nil => simp
  | cons x xs ih => rw [List.flatMap_cons, List.length_append, ih, hl, List.length_cons, Nat.succ_mul]; omega
theorem flat_one {α : Type} {enc : α → List Value} (h : ∀ x, ∀ u ∈ enc x, u.oneCell' = true) (xs : List α) : ∀ u ∈ xs.flatMap enc, u.oneCell' = true := by
  intro u hu
  obtain ⟨x, _, hx⟩ := List.mem_flatMap.1 hu
  exact h x u hx
theorem flat_at {α : Type} {enc : α → List Value} {sz : Nat} (hl : ∀ x, (enc x).length = sz) : ∀ {xs : List α} {j : Nat} {u : Value}, (xs.flatMap enc)[j]? = some u → ∃ i x k, xs[i]? = some x ∧ j = i * sz + k ∧ (enc x)[k]? = some u
  | [], j, u, h => by simp at h
  | y :: ys, j, u, h => by
    rw [List.flatMap_cons] at h
    by_cases hj : j < (enc y).length
    · rw [List.getElem?_append_left hj] at h
      exact ⟨0, y, j, rfl, by simp, h⟩
    · rw [List.getElem?_append_right (by omega), hl] at h
      rw [hl] at hj
      obtain ⟨i, x, k, h1, h2, h3⟩ := flat_at hl h
      exact ⟨i + 1, x, k, by simpa using h1, by rw [Nat.succ_mul]; omega, h3⟩
theorem SlK.flat {α : Type} {K : Fz} {sz : Nat} {enc : α → List Value} {b off n c : Nat} {xs : List α} (h : SlK K sz enc (.slice (some ⟨b, off, none⟩) n c) xs) (hl : ∀ x, (enc x).length = sz) {w : World} (hK : K.In w)
    (j : Nat) (u : Value) (hu : (xs.flatMap enc)[j]? = some u) : w.cell? ⟨b, off + j, none⟩ = some u := by
  obtain ⟨a, cap, hv, hc, hx⟩ := h
  cases hv
  obtain ⟨i, x, k, h1, rfl, h3⟩ := flat_at hl hu
  obtain ⟨b', off', cs, t, fr, ha, hk, hj⟩ := hx i x h1
  cases ha
  rw [hK.cell hk, ← Nat.add_assoc]
  exact hj k u h3

/-- What 'ownsRow' says of a slice that has an element. -/
theorem ownsRow_some {W : World} {base e sz : Nat} {v : Value} {n : Nat} {xs : List Value} (h : W.ownsRow base e sz v n xs) (hn : 0 < n) :
    ∃ g cap cur, v = .slice (some ⟨g, 0, none⟩) n cap ∧ base ≤ g ∧ W.heap[g]? = some (.cells cur e (0, 0)) ∧ n ≤ cap ∧ cap ≤ maxLen ∧ cur.size = cap * sz ∧ cur.toList.take (n * sz) = xs := by
  rcases h.2 with ⟨_, h0⟩ | h
  · omega
  · exact h
theorem setCells_row (P : Program) {w : World} {g o : Nat} {t : TypeId} {cur : Array Value} {vs : List Value} (hg : w.heap[g]? = some (.cells cur t (0, 0))) (ho : o + vs.length ≤ cur.size) (h1 : ∀ v ∈ vs, v.oneCell' = true) : w.setCells g o vs = w.setRow g (splice cur o vs) := by
  have a := run_storeCells_at (P := P) g o t vs 0 cur w hg (by simpa using ho) h1
  have hc : ∀ j, j < vs.length → w.cell? ⟨g, o + j, none⟩ = some (cur[o + j]!) := fun j hj => by
    rw [cell_of_row w g (o + j) cur t (0, 0) hg, Array.getElem?_eq_getElem (by omega), getElem!_pos cur (o + j) (by omega)]
  have b := run_storeCells_cells (P := P) g o vs 0 w (fun j hj => by rw [Nat.add_zero, hc j hj]; rfl) (fun j hj => by
    rw [Nat.add_zero]
    exact frozen_of_row w g _ cur t hg) h1
  simp only [Nat.add_zero] at a b
  rw [a] at b
  injection b with _ e
  exact e.symm

section
variable {P : Program} {ops : Array Oper} {rest : List Oper} {o : Oper} {a : Act} {w : World} {Q : Exit → Act → World → Prop}
theorem wpList_clear {x : Operand} {t : TypeId} {v u : Value} {w' : World} (hgd : o.guard = none) (ho : o.op = .call { callee := .builtin .clear, args := #[x], argTypes := #[t] }) (hx : a.eval x = v)
    (hr : (Builtin.clear_ #[t] o.type #[v]).run P w = .ok u w') (h : wpList P ops Q rest (a.put o.dst u) w') : wpList P ops Q (o :: rest) a w := by
  refine wpList_run hgd ?_ h
  unfold execOp
  simp only [ho, resolve, invoke, builtin, Sem.run_bind, Sem.run_pure, Result.andThen_ok, List.map_toArray, List.map_cons, List.map_nil, hx, hr]
theorem wpList_copyR {x y : Operand} {t t' : TypeId} {v u r : Value} {w' : World} (hgd : o.guard = none) (ho : o.op = .call { callee := .builtin .copy, args := #[x, y], argTypes := #[t, t'] }) (hx : a.eval x = v) (hy : a.eval y = u)
    (hr : (Builtin.copy_ #[t, t'] o.type #[v, u]).run P w = .ok r w') (h : wpList P ops Q rest (a.put o.dst r) w') : wpList P ops Q (o :: rest) a w := by
  refine wpList_run hgd ?_ h
  unfold execOp
  simp only [ho, resolve, invoke, builtin, Sem.run_bind, Sem.run_pure, Result.andThen_ok, List.map_toArray, List.map_cons, List.map_nil, hx, hy, hr]
end

/-- The cells behind a Delete. -/
theorem del_cells {cur : Array Value} {n cap sz i : Nat} {xs zs : List Value} (hc : cur.size = cap * sz) (hn : n ≤ cap) (ht : cur.toList.take (n * sz) = xs) (hi : i < n) (hz : zs.length = 1 * sz) :
    (splice (splice cur (i * sz) (xs.drop ((i + 1) * sz))) ((n - 1) * sz) zs).toList.take ((n - 1) * sz) = xs.take (i * sz) ++ xs.drop ((i + 1) * sz) := by
  have hxl : xs.length = n * sz := by
    rw [← ht, List.length_take, Array.length_toList, hc]
    exact Nat.min_eq_left (Nat.mul_le_mul_right _ hn)
  have h1 : i * sz ≤ n * sz := Nat.mul_le_mul_right _ (by omega)
  have h2 : (n - 1) * sz + sz = n * sz := by rw [← Nat.succ_mul]; congr 1; omega
  have h3 : (i + 1) * sz = i * sz + sz := Nat.succ_mul _ _
  have h4 : n * sz ≤ cap * sz := Nat.mul_le_mul_right _ hn
  have h5 : i * sz ≤ (n - 1) * sz := Nat.mul_le_mul_right _ (by omega)
  have hdl : (xs.drop ((i + 1) * sz)).length = (n - 1) * sz - i * sz := by rw [List.length_drop, hxl]; omega
  have htk : cur.toList.take (i * sz) = xs.take (i * sz) := by rw [← ht, List.take_take, Nat.min_eq_left h1]
  have hmid : (splice cur (i * sz) (xs.drop ((i + 1) * sz))).toList.take ((n - 1) * sz) = xs.take (i * sz) ++ xs.drop ((i + 1) * sz) := by
    rw [splice_list, htk, List.take_append_of_le_length, List.take_of_length_le]
    · rw [List.length_append, List.length_take, hdl, hxl]; omega
    · rw [List.length_append, List.length_take, hdl, hxl]; omega
  rw [splice_list, List.take_append_of_le_length, List.take_append_of_le_length, List.take_take, Nat.min_self]
  · exact hmid
  · rw [List.length_take, Array.length_toList, splice_size]
    · rw [hc]; omega
    · rw [hdl, hc]; omega
  · rw [List.length_append, List.length_take, Array.length_toList, splice_size]
    · rw [hc]; omega
    · rw [hdl, hc]; omega

noncomputable def info_V : TypeInfo := (Try.prog.info? 90).get (by kernel_rfl)
theorem info_V_eq : Try.prog.info? 90 = some info_V := by kernel_rfl
theorem vClone_ok (K : Fz) (sv : Value) (L : List Vol) (w : World) (hK : K.In w) (hS : SlK K 4 encV sv L) (hF : FlatS sv) (hlen : L.length ≤ 1000000) :
    Calls Try.prog 94 #[sv] w fun e w' => ∃ v', e = .returned v' ∧ w'.ownsRow w.heap.size 90 4 v' L.length (L.flatMap encV) ∧ Below w.heap.size w w' := by
  have HS := hS
  obtain ⟨a, cap, rfl, hcap, hx⟩ := hS
  rcases hF a _ _ rfl with rfl | ⟨b, off, rfl⟩
  · have h0 : L = [] := by
      cases L with
      | nil => rfl
      | cons y ys => obtain ⟨b, off, cs, t, fr, ha, _⟩ := hx 0 y rfl; cases ha
    subst h0
    refine (AnyE.slices_Clone_nil Try.cloneVol _ cap w).mono ?_
    rintro e w' ⟨rfl, rfl⟩
    exact ⟨_, rfl, World.ownsRow_nil _ _ _ _, Below.refl _ _⟩
  · refine (AnyE.slices_Clone Try.cloneVol info_V (.agg #[.int .i64 0, .int .i64 0, .pointer none, .int .i64 0]) 4 32 info_V_eq (by kernel_rfl) (by kernel_rfl) (by kernel_rfl) rfl (by decide) Try.sizeOf90 b off L.length cap (L.flatMap encV) w (flat_len encV_len L) ?_ ?_ (HS.flat encV_len hK) (flat_one encV_one L)).mono ?_
    · unfold maxLen; omega
    · omega
    · rintro e w' ⟨v', rfl, h1, _, h3⟩
      exact ⟨v', rfl, h1, h3⟩

theorem zeroV_V : ∀ w, (zeroValue 90).run Try.prog w = .ok (.agg #[.int .i64 0, .int .i64 0, .pointer none, .int .i64 0]) w := fun w => by kernel_rfl
set_option maxRecDepth 100000 in
set_option maxHeartbeats 4000000 in
theorem vDelete_ok (base : Nat) (v : Value) (n i j : Nat) (xs : List Value) (w : World) (hown : w.ownsRow base 90 4 v n xs) (hj : j = i + 1) (hi : i < n) (hlen : n ≤ 1000000) (h1 : ∀ u ∈ xs, u.oneCell' = true) :
    Calls Try.prog 95 #[v, .int .i64 (i : Nat), .int .i64 (j : Nat)] w fun e w' => ∃ v', e = .returned v' ∧ w'.ownsRow base 90 4 v' (n - 1) (xs.take (i * 4) ++ xs.drop (j * 4)) ∧ Grown w w' v v' := by
  have hxl := hown.1
  obtain ⟨g, cap, cur, rfl, hbase, hg, hnc, hcm, hcs, ht⟩ := ownsRow_some hown (by omega)
  clear hown
  obtain ⟨news, hnews⟩ : ∃ news, news = xs.drop (j * 4) := ⟨_, rfl⟩
  have hnl : news.length = (n - j) * 4 := by rw [hnews, List.length_drop, hxl, Nat.sub_mul]
  have hn1 : ∀ u ∈ news, u.oneCell' = true := fun u hu => h1 u (List.mem_of_mem_drop (hnews ▸ hu))
  have hget : ∀ k u, news[k]? = some u → cur[j * 4 + k]? = some u := by
    intro k u hu
    rw [hnews, List.getElem?_drop, ← ht, List.getElem?_take] at hu
    split at hu
    · simpa using hu
    · cases hu
  obtain ⟨A, hA, hsrc⟩ : ∃ A : Addr, (if cap = j then (some ⟨g, 0, none⟩ : Option Addr) else some ⟨g, j * 4, none⟩) = some A ∧ Hid (∀ t u, news[t]? = some u → w.drew.cell? (A.add t) = some u) := by
    by_cases h : cap = j
    · refine ⟨⟨g, 0, none⟩, by simp [h], fun t u hu => ?_⟩
      have h0 : news.length = 0 := by rw [hnl]; omega
      rw [List.length_eq_zero_iff.1 h0] at hu
      simp at hu
    · refine ⟨⟨g, j * 4, none⟩, by simp [h], fun t u hu => ?_⟩
      have hadd : (⟨g, j * 4, none⟩ : Addr).add t = ⟨g, j * 4 + t, none⟩ := by unfold Addr.add; split <;> simp_all
      rw [hadd, cell_of_row w.drew g _ cur 90 (0, 0) hg]
      exact hget t u hu
  have hc63 : cap ≤ 9223372036854775807 := by unfold maxLen at hcm; omega
  have hnl2 : i * 4 + news.length ≤ cur.size := by rw [hnl, hcs]; omega
  have s1 : Hid (news.length = (n - j) * 4) := Lib.hid hnl
  have s2 : Hid (∀ u ∈ news, u.oneCell' = true) := Lib.hid hn1
  have s3 : Hid (∀ t, t < news.length → (w.drew.cell? ⟨g, 0 + i * 4 + t, none⟩).isSome = true ∧ w.drew.frozen? ⟨g, 0 + i * 4 + t, none⟩ = false) := by
    intro t ht
    rw [Nat.zero_add]
    refine ⟨?_, ?_⟩
    · rw [cell_of_row w.drew g _ cur 90 (0, 0) hg, Array.getElem?_eq_getElem (by omega)]; rfl
    · exact frozen_of_row w.drew g _ cur 90 hg
  obtain ⟨cur1, hcur1⟩ : ∃ cur1, cur1 = splice cur (i * 4) news := ⟨_, rfl⟩
  have hcs1 : cur1.size = cap * 4 := by rw [hcur1, splice_size hnl2, hcs]
  obtain ⟨W1, hW1⟩ : ∃ W1, W1 = w.drew.setRow g cur1 := ⟨_, rfl⟩
  have hW : Hid (W1 = w.drew.setCells g (0 + i * 4) news) := by
    refine Lib.hid ?_
    rw [Nat.zero_add, setCells_row Try.prog (w := w.drew) (t := 90) hg hnl2 hn1, hW1, hcur1]
  have hg1 : W1.heap[g]? = some (.cells cur1 90 (0, 0)) := by rw [hW1]; exact setRow_heap w.drew g cur cur1 90 (0, 0) hg
  have hcl : Hid (∀ ty c, (Builtin.clear_ #[74] ty #[.slice (some ⟨g, (n - 1) * 4, none⟩) (n - (n - 1)) c]).run Try.prog W1 = .ok (.tuple #[]) (W1.setRow g (splice cur1 ((n - 1) * 4) (Builtin.zeroCells #[.int .i64 0, .int .i64 0, .pointer none, .int .i64 0] 1).toList))) :=
    Lib.hid fun ty c => by rw [show n - (n - 1) = 1 by omega]; exact run_clearZ W1 74 90 ty (.agg #[.int .i64 0, .int .i64 0, .pointer none, .int .i64 0]) Try.underlying74 zeroV_V g ((n - 1) * 4) 1 c cur1 90 (by omega) hg1 (by rw [hcs1]; show _ + 1 * 4 ≤ _; omega) (by simp [Value.cells, Value.oneCell'])
  have fin : Hid ((W1.setRow g (splice cur1 ((n - 1) * 4) (Builtin.zeroCells #[.int .i64 0, .int .i64 0, .pointer none, .int .i64 0] 1).toList)).ownsRow base 90 4 (.slice (some ⟨g, 0, none⟩) (n - 1) cap) (n - 1) (xs.take (i * 4) ++ xs.drop (j * 4)) ∧
      Grown w (W1.setRow g (splice cur1 ((n - 1) * 4) (Builtin.zeroCells #[.int .i64 0, .int .i64 0, .pointer none, .int .i64 0] 1).toList)) (.slice (some ⟨g, 0, none⟩) n cap) (.slice (some ⟨g, 0, none⟩) (n - 1) cap)) := by
    refine Lib.hid ⟨⟨?_, .inr ⟨g, cap, _, rfl, hbase, setRow_heap W1 g cur1 _ 90 (0, 0) hg1, by omega, hcm, ?_, ?_⟩⟩, ?_⟩
    · rw [List.length_append, List.length_take, List.length_drop, hxl]; omega
    · rw [splice_size (by rw [hcs1, zeroCells_len]; show _ + 1 * 4 ≤ _; omega), hcs1]
    · rw [hcur1, hnews]
      subst hj
      exact del_cells hcs hnc ht hi (zeroCells_len _ _)
    · rw [hW1]
      exact ((Grown.setRow (v := .slice (some ⟨g, 0, none⟩) n cap) (v' := .slice (some ⟨g, 0, none⟩) n cap) rfl rfl).trans (Grown.setRow rfl rfl) rfl rfl rfl).drew
  have hic : i ≤ cap := by omega
  have hjc : j ≤ cap := by omega
  have hij : ¬ ((i : Int) = (j : Int)) := by omega
  have hnn : i + (n - j) = n - 1 := by omega
  have hjn : j ≤ n := by omega
  have mixed := mixed_ok
  clear hW1 hcur1 hnews hget hnl hn1 hnl2 hg1 hcs1 hg ht hcs h1 hxl hj
  go_enter Try.func95, Try.ntmps95
  go_wp2_with fail
  go_region_law_o (refine step_append_room rfl (.tmp 22) (.tmp 25) 74 rfl 90 info_V 4 Try.underlying74 info_V_eq (by kernel_rfl) g 0 i cap (by simp [Act.eval, Act.put]) A (n - j) (cap - j) news (by simp [Act.eval, Act.put]) s1.out hsrc.out s2.out (by omega) s3.out ?_; rw [← hW.out, hnn])
  have hc0 := hcl.out
  go_wp2
  go_ret
  exact ⟨_, rfl, fin.out⟩

noncomputable def info_S : TypeInfo := (Try.prog.info? 98).get (by kernel_rfl)
theorem info_S_eq : Try.prog.info? 98 = some info_S := by kernel_rfl
theorem sClone_ok (K : Fz) (sv : Value) (L : List Snp) (w : World) (hK : K.In w) (hS : SlK K 5 encS sv L) (hF : FlatS sv) (hlen : L.length ≤ 1000000) :
    Calls Try.prog 72 #[sv] w fun e w' => ∃ v', e = .returned v' ∧ w'.ownsRow w.heap.size 98 5 v' L.length (L.flatMap encS) ∧ Below w.heap.size w w' := by
  have HS := hS
  obtain ⟨a, cap, rfl, hcap, hx⟩ := hS
  rcases hF a _ _ rfl with rfl | ⟨b, off, rfl⟩
  · have h0 : L = [] := by
      cases L with
      | nil => rfl
      | cons y ys => obtain ⟨b, off, cs, t, fr, ha, _⟩ := hx 0 y rfl; cases ha
    subst h0
    refine (AnyE.slices_Clone_nil Try.cloneSnp _ cap w).mono ?_
    rintro e w' ⟨rfl, rfl⟩
    exact ⟨_, rfl, World.ownsRow_nil _ _ _ _, Below.refl _ _⟩
  · refine (AnyE.slices_Clone Try.cloneSnp info_S (.agg #[.int .i64 0, .int .i64 0, .pointer none, .int .i64 0, .int .i64 0]) 5 40 info_S_eq (by kernel_rfl) (by kernel_rfl) (by kernel_rfl) rfl (by decide) Try.sizeOf98 b off L.length cap (L.flatMap encS) w (flat_len encS_len L) ?_ ?_ (HS.flat encS_len hK) (flat_one encS_one L)).mono ?_
    · unfold maxLen; omega
    · omega
    · rintro e w' ⟨v', rfl, h1, _, h3⟩
      exact ⟨v', rfl, h1, h3⟩

theorem zeroV_S : ∀ w, (zeroValue 98).run Try.prog w = .ok (.agg #[.int .i64 0, .int .i64 0, .pointer none, .int .i64 0, .int .i64 0]) w := fun w => by kernel_rfl
set_option maxRecDepth 100000 in
set_option maxHeartbeats 4000000 in
theorem sDelete_ok (base : Nat) (v : Value) (n i j : Nat) (xs : List Value) (w : World) (hown : w.ownsRow base 98 5 v n xs) (hj : j = i + 1) (hi : i < n) (hlen : n ≤ 1000000) (h1 : ∀ u ∈ xs, u.oneCell' = true) :
    Calls Try.prog 98 #[v, .int .i64 (i : Nat), .int .i64 (j : Nat)] w fun e w' => ∃ v', e = .returned v' ∧ w'.ownsRow base 98 5 v' (n - 1) (xs.take (i * 5) ++ xs.drop (j * 5)) ∧ Grown w w' v v' := by
  have hxl := hown.1
  obtain ⟨g, cap, cur, rfl, hbase, hg, hnc, hcm, hcs, ht⟩ := ownsRow_some hown (by omega)
  clear hown
  obtain ⟨news, hnews⟩ : ∃ news, news = xs.drop (j * 5) := ⟨_, rfl⟩
  have hnl : news.length = (n - j) * 5 := by rw [hnews, List.length_drop, hxl, Nat.sub_mul]
  have hn1 : ∀ u ∈ news, u.oneCell' = true := fun u hu => h1 u (List.mem_of_mem_drop (hnews ▸ hu))
  have hget : ∀ k u, news[k]? = some u → cur[j * 5 + k]? = some u := by
    intro k u hu
    rw [hnews, List.getElem?_drop, ← ht, List.getElem?_take] at hu
    split at hu
    · simpa using hu
    · cases hu
  obtain ⟨A, hA, hsrc⟩ : ∃ A : Addr, (if cap = j then (some ⟨g, 0, none⟩ : Option Addr) else some ⟨g, j * 5, none⟩) = some A ∧ Hid (∀ t u, news[t]? = some u → w.drew.cell? (A.add t) = some u) := by
    by_cases h : cap = j
    · refine ⟨⟨g, 0, none⟩, by simp [h], fun t u hu => ?_⟩
      have h0 : news.length = 0 := by rw [hnl]; omega
      rw [List.length_eq_zero_iff.1 h0] at hu
      simp at hu
    · refine ⟨⟨g, j * 5, none⟩, by simp [h], fun t u hu => ?_⟩
      have hadd : (⟨g, j * 5, none⟩ : Addr).add t = ⟨g, j * 5 + t, none⟩ := by unfold Addr.add; split <;> simp_all
      rw [hadd, cell_of_row w.drew g _ cur 98 (0, 0) hg]
      exact hget t u hu
  have hc63 : cap ≤ 9223372036854775807 := by unfold maxLen at hcm; omega
  have hnl2 : i * 5 + news.length ≤ cur.size := by rw [hnl, hcs]; omega
  have s1 : Hid (news.length = (n - j) * 5) := Lib.hid hnl
  have s2 : Hid (∀ u ∈ news, u.oneCell' = true) := Lib.hid hn1
  have s3 : Hid (∀ t, t < news.length → (w.drew.cell? ⟨g, 0 + i * 5 + t, none⟩).isSome = true ∧ w.drew.frozen? ⟨g, 0 + i * 5 + t, none⟩ = false) := by
    intro t ht
    rw [Nat.zero_add]
    refine ⟨?_, ?_⟩
    · rw [cell_of_row w.drew g _ cur 98 (0, 0) hg, Array.getElem?_eq_getElem (by omega)]; rfl
    · exact frozen_of_row w.drew g _ cur 98 hg
  obtain ⟨cur1, hcur1⟩ : ∃ cur1, cur1 = splice cur (i * 5) news := ⟨_, rfl⟩
  have hcs1 : cur1.size = cap * 5 := by rw [hcur1, splice_size hnl2, hcs]
  obtain ⟨W1, hW1⟩ : ∃ W1, W1 = w.drew.setRow g cur1 := ⟨_, rfl⟩
  have hW : Hid (W1 = w.drew.setCells g (0 + i * 5) news) := by
    refine Lib.hid ?_
    rw [Nat.zero_add, setCells_row Try.prog (w := w.drew) (t := 98) hg hnl2 hn1, hW1, hcur1]
  have hg1 : W1.heap[g]? = some (.cells cur1 98 (0, 0)) := by rw [hW1]; exact setRow_heap w.drew g cur cur1 98 (0, 0) hg
  have hcl : Hid (∀ ty c, (Builtin.clear_ #[75] ty #[.slice (some ⟨g, (n - 1) * 5, none⟩) (n - (n - 1)) c]).run Try.prog W1 = .ok (.tuple #[]) (W1.setRow g (splice cur1 ((n - 1) * 5) (Builtin.zeroCells #[.int .i64 0, .int .i64 0, .pointer none, .int .i64 0, .int .i64 0] 1).toList))) :=
    Lib.hid fun ty c => by rw [show n - (n - 1) = 1 by omega]; exact run_clearZ W1 75 98 ty (.agg #[.int .i64 0, .int .i64 0, .pointer none, .int .i64 0, .int .i64 0]) Try.underlying75 zeroV_S g ((n - 1) * 5) 1 c cur1 98 (by omega) hg1 (by rw [hcs1]; show _ + 1 * 5 ≤ _; omega) (by simp [Value.cells, Value.oneCell'])
  have fin : Hid ((W1.setRow g (splice cur1 ((n - 1) * 5) (Builtin.zeroCells #[.int .i64 0, .int .i64 0, .pointer none, .int .i64 0, .int .i64 0] 1).toList)).ownsRow base 98 5 (.slice (some ⟨g, 0, none⟩) (n - 1) cap) (n - 1) (xs.take (i * 5) ++ xs.drop (j * 5)) ∧
      Grown w (W1.setRow g (splice cur1 ((n - 1) * 5) (Builtin.zeroCells #[.int .i64 0, .int .i64 0, .pointer none, .int .i64 0, .int .i64 0] 1).toList)) (.slice (some ⟨g, 0, none⟩) n cap) (.slice (some ⟨g, 0, none⟩) (n - 1) cap)) := by
    refine Lib.hid ⟨⟨?_, .inr ⟨g, cap, _, rfl, hbase, setRow_heap W1 g cur1 _ 98 (0, 0) hg1, by omega, hcm, ?_, ?_⟩⟩, ?_⟩
    · rw [List.length_append, List.length_take, List.length_drop, hxl]; omega
    · rw [splice_size (by rw [hcs1, zeroCells_len]; show _ + 1 * 5 ≤ _; omega), hcs1]
    · rw [hcur1, hnews]
      subst hj
      exact del_cells hcs hnc ht hi (zeroCells_len _ _)
    · rw [hW1]
      exact ((Grown.setRow (v := .slice (some ⟨g, 0, none⟩) n cap) (v' := .slice (some ⟨g, 0, none⟩) n cap) rfl rfl).trans (Grown.setRow rfl rfl) rfl rfl rfl).drew
  have hic : i ≤ cap := by omega
  have hjc : j ≤ cap := by omega
  have hij : ¬ ((i : Int) = (j : Int)) := by omega
  have hnn : i + (n - j) = n - 1 := by omega
  have hjn : j ≤ n := by omega
  have mixed := mixed_ok
  clear hW1 hcur1 hnews hget hnl hn1 hnl2 hg1 hcs1 hg ht hcs h1 hxl hj
  go_enter Try.func98, Try.ntmps98
  go_wp2_with fail
  go_region_law_o (refine step_append_room rfl (.tmp 22) (.tmp 25) 75 rfl 98 info_S 5 Try.underlying75 info_S_eq (by kernel_rfl) g 0 i cap (by simp [Act.eval, Act.put]) A (n - j) (cap - j) news (by simp [Act.eval, Act.put]) s1.out hsrc.out s2.out (by omega) s3.out ?_; rw [← hW.out, hnn])
  have hc0 := hcl.out
  go_wp2
  go_ret
  exact ⟨_, rfl, fin.out⟩
end Go.Proofs.Ytdaagmhkhfcmdaa
