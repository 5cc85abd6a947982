/- copy and clear at elements of several cells, over a block known whole: no program in sight. -/
import Derived.Test.YtdaagmhkhfcmdaaRow
import Derived.Laws.CopyRow
import Derived.Lib.AppendZerosOnto
import Derived.Lib.AppendZeros
import Derived.Lib.Overlaps
import Derived.Laws.Externs
import Derived.Laws.IdiomCopy
import Derived.Laws.NewBlocks
import Derived.Deep.RegionLaw
import Derived.Lib.SliceRun
namespace Go.Proofs.Ytdaagmhkhfcmdaa
open Go Go.RowKit
set_option maxHeartbeats 400000

/-- The cells from o on, written over. -/
def splice (cur : Array Value) (o : Nat) (cs : List Value) : Array Value := (cur.toList.take o ++ cs ++ cur.toList.drop (o + cs.length)).toArray
theorem splice_size {cur : Array Value} {o : Nat} {cs : List Value} (h : o + cs.length ≤ cur.size) : (splice cur o cs).size = cur.size := by
  unfold splice
  simp only [List.size_toArray, List.length_append, List.length_take, List.length_drop, Array.length_toList]
  omega
theorem splice_list (cur : Array Value) (o : Nat) (cs : List Value) : (splice cur o cs).toList = cur.toList.take o ++ cs ++ cur.toList.drop (o + cs.length) := rfl

section
variable {P : Program}
theorem run_copyZ (w : World) (dT sT ty elem : TypeId) (g o dLen dCap : Nat) (a : Addr) (sLen sCap : Nat) (cs : List Value) (sz k : Nat) (cur : Array Value) (t : TypeId)
    (hu : P.underlying dT = some (.slice elem)) (hs : (P.info? elem).map (·.size) = some sz) (hk : Nat.min sLen dLen = k) (hn : cs.length = k * sz)
    (hsrc : ∀ j v, cs[j]? = some v → w.cell? (a.add j) = some v) (hg : w.heap[g]? = some (.cells cur t (0, 0))) (ho : o + cs.length ≤ cur.size) (h1 : ∀ v ∈ cs, v.oneCell' = true) :
    (Builtin.copy_ #[dT, sT] ty #[.slice (some ⟨g, o, none⟩) dLen dCap, .slice (some a) sLen sCap]).run P w = .ok (goInt k) (w.setRow g (splice cur o cs)) := by
  have hl := run_loadCells_list (P := P) w a cs hsrc
  have hst := run_storeCells_at (P := P) g o t cs 0 cur w hg (by simpa using ho) h1
  simp only [Nat.add_zero] at hst
  cases hq : P.info? elem with
  | none => simp [hq] at hs
  | some i =>
    have hi : i.size = sz := by simpa [hq] using hs
    simp [Builtin.copy_, run_underlying hu, Builtin.lenOf, Builtin.firstCells, sizeOf, typeInfo, hq, hi, hk, ← hn, hl, hst, splice]

theorem zeroCells_len (zc : Array Value) (n : Nat) : (Builtin.zeroCells zc n).toList.length = n * zc.size := by simp [Builtin.zeroCells]
theorem zeroCells_one {zc : Array Value} (h1 : ∀ u ∈ zc.toList, u.oneCell' = true) (n : Nat) : ∀ u ∈ (Builtin.zeroCells zc n).toList, u.oneCell' = true := by
  intro u hu
  simp only [Builtin.zeroCells, Array.toList_map, List.mem_map, Array.toList_range, List.mem_range] at hu
  obtain ⟨i, hi, rfl⟩ := hu
  have h0 : 0 < zc.size := by
    rcases Nat.eq_zero_or_pos zc.size with h | h
    · rw [h, Nat.mul_zero] at hi; omega
    · exact h
  have hm : i % zc.size < zc.size := Nat.mod_lt _ h0
  rw [getElem!_pos zc _ hm]
  exact h1 _ (Array.getElem_mem_toList hm)
theorem run_clearZ (w : World) (t e ty : TypeId) (z : Value) (ht : P.underlying t = some (.slice e)) (hv : ∀ w, (zeroValue e).run P w = .ok z w) (g o n c : Nat) (cur : Array Value) (T : TypeId) (hn : 0 < n)
    (hg : w.heap[g]? = some (.cells cur T (0, 0))) (ho : o + n * z.cells.size ≤ cur.size) (h1 : ∀ u ∈ z.cells.toList, u.oneCell' = true) :
    (Builtin.clear_ #[t] ty #[.slice (some ⟨g, o, none⟩) n c]).run P w = .ok (.tuple #[]) (w.setRow g (splice cur o (Builtin.zeroCells z.cells n).toList)) := by
  have hst := run_storeCells_at (P := P) g o T (Builtin.zeroCells z.cells n).toList 0 cur w hg (by rw [zeroCells_len]; omega) (zeroCells_one h1 n)
  simp only [Nat.add_zero] at hst
  obtain ⟨m, rfl⟩ : ∃ m, n = m + 1 := ⟨n - 1, by omega⟩
  simp [Builtin.clear_, run_underlying ht, hv, hst, splice]
end

/-- A block of the row's own, written over. -/
theorem Grown.setRow {w : World} {g : Nat} {cs : Array Value} {v v' : Value} (h : v.ownBlock = some g) (h' : v'.ownBlock = some g) : Grown w (w.setRow g cs) v v' :=
  ⟨⟨rfl, rfl, rfl, by simp, fun k _ hk => setRow_other w g k cs (by rintro rfl; exact hk h.symm)⟩, .inl (h'.trans h.symm)⟩
theorem Grown.trans {w w1 w2 : World} {v v1 v2 : Value} {g : Nat} (h : Grown w w1 v v1) (k : Grown w1 w2 v1 v2) (hg : v.ownBlock = some g) (h1 : v1.ownBlock = some g) (h2 : v2.ownBlock = some g) : Grown w w2 v v2 :=
  ⟨⟨k.by_.os.trans h.by_.os, k.by_.tape.trans h.by_.tape, k.by_.output.trans h.by_.output, Nat.le_trans h.by_.size k.by_.size, fun b hb hne => (k.by_.block b (Nat.lt_of_lt_of_le hb h.by_.size) (by rw [h1, ← hg]; exact hne)).trans (h.by_.block b hb hne)⟩, .inl (h2.trans hg.symm)⟩
theorem Grown.drew {w w' : World} {v v' : Value} (h : Grown w.drew w' v v') : Grown w w' v v' := ⟨⟨h.by_.os, h.by_.tape, h.by_.output, h.by_.size, h.by_.block⟩, h.at_⟩
end Go.Proofs.Ytdaagmhkhfcmdaa
