/- Trees of nodes as plain data, and what the functions of package tree do to them: no program in sight. -/
import Derived.Test.YtdaagmhkhfcmdaaBase
namespace Go.Proofs.Ytdaagmhkhfcmdaa
open Go Go.RowKit

/-- A tree of nodes: a node's block, its bits, its children, its chunks. -/
inductive PT where
  | nil
  | node (b : Nat) (has : Nat) (kid : Nat → PT) (chunk : Nat → Int)

def PT.ptr : PT → Option Addr
  | nil => none
  | node b _ _ _ => some ⟨b, 0, none⟩
def PT.has : PT → Nat
  | nil => 0
  | node _ h _ _ => h
def PT.kid : PT → Nat → PT
  | nil, _ => nil
  | node _ _ k _, i => k i
def PT.chunk : PT → Nat → Int
  | nil, _ => 0
  | node _ _ _ c, i => c i

def PT.isNil : PT → Bool
  | nil => true
  | node _ _ _ _ => false

def upd {α : Type} (f : Nat → α) (i : Nat) (x : α) : Nat → α := fun j => if j = i then x else f j
theorem upd_self {α : Type} (f : Nat → α) (i : Nat) (x : α) : upd f i x i = x := by simp [upd]
theorem upd_other {α : Type} (f : Nat → α) {i j : Nat} (x : α) (h : j ≠ i) : upd f i x j = f j := by simp [upd, h]

/-- A node's cells. -/
def nodeCells (has : Nat) (kid : Nat → PT) (chunk : Nat → Int) : Array Value :=
  Array.ofFn (n := 33) fun i => if i.1 = 0 then .int .u16 has else if i.1 < 17 then .pointer (kid (i.1 - 1)).ptr else .int .i64 (chunk (i.1 - 17))

theorem nodeCells_size (h : Nat) (k : Nat → PT) (c : Nat → Int) : (nodeCells h k c).size = 33 := by simp [nodeCells]
theorem nodeCells_get (h : Nat) (k : Nat → PT) (c : Nat → Int) (i : Nat) (hi : i < 33) :
    (nodeCells h k c)[i]? = some (if i = 0 then .int .u16 h else if i < 17 then .pointer (k (i - 1)).ptr else .int .i64 (c (i - 17))) := by
  simp [nodeCells, hi]
theorem nodeCells_has (h : Nat) (k : Nat → PT) (c : Nat → Int) : (nodeCells h k c)[0]? = some (.int .u16 h) := by
  rw [nodeCells_get _ _ _ _ (by omega)]; rfl
theorem nodeCells_kid (h : Nat) (k : Nat → PT) (c : Nat → Int) (i : Nat) (hi : i < 16) : (nodeCells h k c)[1 + i]? = some (.pointer (k i).ptr) := by
  rw [nodeCells_get _ _ _ _ (by omega), if_neg (by omega), if_pos (by omega), show 1 + i - 1 = i by omega]
theorem nodeCells_chunk (h : Nat) (k : Nat → PT) (c : Nat → Int) (i : Nat) (hi : i < 16) : (nodeCells h k c)[17 + i]? = some (.int .i64 (c i)) := by
  rw [nodeCells_get _ _ _ _ (by omega), if_neg (by omega), if_neg (by omega), show 17 + i - 17 = i by omega]
theorem nodeCells_ext {h : Nat} {k : Nat → PT} {c : Nat → Int} {a : Array Value} (hs : a.size = 33)
    (h1 : ∀ i, i < 33 → a[i]? = (nodeCells h k c)[i]?) : a = nodeCells h k c := by
  refine Array.ext_getElem? fun i => ?_
  by_cases hi : i < 33
  · exact h1 i hi
  · rw [Array.getElem?_eq_none (by omega), Array.getElem?_eq_none (by rw [nodeCells_size]; omega)]
theorem nodeCells_setHas (h h' : Nat) (k : Nat → PT) (c : Nat → Int) : (nodeCells h k c).setIfInBounds 0 (.int .u16 h') = nodeCells h' k c := by
  refine nodeCells_ext (by simp [nodeCells_size]) fun i hi => ?_
  rw [nodeCells_get _ _ _ _ hi]
  by_cases e : i = 0
  · subst e; simp [Array.getElem?_setIfInBounds, nodeCells_size]
  · rw [Array.getElem?_setIfInBounds_ne (by omega), nodeCells_get _ _ _ _ hi, if_neg e, if_neg e]
theorem nodeCells_setKid (h : Nat) (k : Nat → PT) (c : Nat → Int) (i : Nat) (hi : i < 16) (t : PT) : (nodeCells h k c).setIfInBounds (1 + i) (.pointer t.ptr) = nodeCells h (upd k i t) c := by
  refine nodeCells_ext (by simp [nodeCells_size]) fun j hj => ?_
  rw [nodeCells_get _ _ _ _ hj]
  by_cases e : j = 1 + i
  · subst e; simp [Array.getElem?_setIfInBounds, nodeCells_size, hj, upd, hi]; omega
  · rw [Array.getElem?_setIfInBounds_ne (by omega), nodeCells_get _ _ _ _ hj]
    by_cases e0 : j = 0
    · simp [e0]
    · by_cases e1 : j < 17
      · simp only [e0, e1, if_true, if_false]; rw [upd_other _ _ (by omega)]
      · simp only [e0, e1, if_false]
theorem nodeCells_setChunk (h : Nat) (k : Nat → PT) (c : Nat → Int) (i : Nat) (hi : i < 16) (x : Int) : (nodeCells h k c).setIfInBounds (17 + i) (.int .i64 x) = nodeCells h k (upd c i x) := by
  refine nodeCells_ext (by simp [nodeCells_size]) fun j hj => ?_
  rw [nodeCells_get _ _ _ _ hj]
  by_cases e : j = 17 + i
  · subst e
    have e1 : ¬ (17 + i = 0) := by omega
    have e2 : ¬ (17 + i < 17) := by omega
    simp [Array.getElem?_setIfInBounds, nodeCells_size, hj, upd]
  · rw [Array.getElem?_setIfInBounds_ne (by omega), nodeCells_get _ _ _ _ hj]
    by_cases e0 : j = 0
    · simp [e0]
    · by_cases e1 : j < 17
      · simp only [e0, e1, if_true, if_false]
      · simp only [e0, e1, if_false]; rw [upd_other _ _ (by omega)]

theorem nodeCells_zero : nodeCells 0 (fun _ => .nil) (fun _ => 0) = (#[.int .u16 0] ++ Array.replicate 16 (.pointer none) ++ Array.replicate 16 (.int .i64 0) : Array Value) := by
  unfold nodeCells
  rfl

theorem nodeCells_one (h : Nat) (k : Nat → PT) (c : Nat → Int) : ∀ u ∈ (nodeCells h k c).toList, u.oneCell' = true := by
  intro u hu
  simp only [nodeCells, Array.mem_toList_iff, Array.mem_ofFn] at hu
  obtain ⟨i, rfl⟩ := hu
  repeat' split
  all_goals rfl

attribute [irreducible] nodeCells

/-- The slot of a block in a node of a level. -/
def sl (L blk : Nat) : Nat := blk / 16 ^ L % 16
theorem sl_lt (L blk : Nat) : sl L blk < 16 := Nat.mod_lt _ (by omega)

/-- What a tree says of a block. -/
def PT.get : Nat → PT → Nat → Int × Bool
  | _, .nil, _ => (0, false)
  | 0, .node _ h _ c, blk => (c (sl 0 blk), h.testBit (sl 0 blk))
  | L + 1, .node _ _ k _, blk => (k (sl (L + 1) blk)).get L blk

/-- t' is what 'set' makes of t; the new nodes lie in blocks from n on. -/
def PT.Set : Nat → Nat → PT → Nat → Int → PT → Prop
  | 0, n, t, blk, ch, t' => ∃ b, n ≤ b ∧ t' = .node b (t.has ||| 2 ^ sl 0 blk) t.kid (upd t.chunk (sl 0 blk) ch)
  | L + 1, n, t, blk, ch, t' => ∃ b k', n ≤ b ∧ PT.Set L (b + 1) (t.kid (sl (L + 1) blk)) blk ch k' ∧
      t' = .node b (t.has ||| 2 ^ sl (L + 1) blk) (upd t.kid (sl (L + 1) blk) k') t.chunk

theorem PT.Set.mono {L n m : Nat} {t t' : PT} {blk : Nat} {ch : Int} (hm : m ≤ n) (h : PT.Set L n t blk ch t') : PT.Set L m t blk ch t' := by
  cases L with
  | zero => obtain ⟨b, hb, e⟩ := h; exact ⟨b, by omega, e⟩
  | succ L => obtain ⟨b, k', hb, hs, e⟩ := h; exact ⟨b, k', by omega, hs, e⟩

/-- The bit taken out. -/
def unbit (h i : Nat) : Nat := h &&& (65535 - 2 ^ i)

/-- The nodes on the way to a block are there. -/
def PT.Way : Nat → PT → Nat → Prop
  | 0, t, _ => t ≠ .nil
  | L + 1, t, blk => t ≠ .nil ∧ PT.Way L (t.kid (sl (L + 1) blk)) blk

/-- t' is what 'clear' makes of t. -/
def PT.Clr : Nat → Nat → PT → Nat → PT → Prop
  | 0, n, t, blk, t' => ∃ b, n ≤ b ∧ t' = if unbit t.has (sl 0 blk) = 0 then PT.nil else PT.node b (unbit t.has (sl 0 blk)) t.kid (upd t.chunk (sl 0 blk) 0)
  | L + 1, n, t, blk, t' => ∃ b k', n ≤ b ∧ PT.Clr L (b + 1) (t.kid (sl (L + 1) blk)) blk k' ∧
      t' = if k'.isNil = false then PT.node b t.has (upd t.kid (sl (L + 1) blk) k') t.chunk
        else if unbit t.has (sl (L + 1) blk) = 0 then PT.nil else PT.node b (unbit t.has (sl (L + 1) blk)) (upd t.kid (sl (L + 1) blk) PT.nil) t.chunk

theorem PT.Clr.mono {L n m : Nat} {t t' : PT} {blk : Nat} (hm : m ≤ n) (h : PT.Clr L n t blk t') : PT.Clr L m t blk t' := by
  cases L with
  | zero => obtain ⟨b, hb, e⟩ := h; exact ⟨b, by omega, e⟩
  | succ L => obtain ⟨b, k', hb, hs, e⟩ := h; exact ⟨b, k', by omega, hs, e⟩

/-- A tree's nodes lie frozen in memory. T: the node type's number. -/
def Tr (T : Nat) (K : Fz) : PT → Prop
  | .nil => True
  | .node b h k c => K b = some (.cells (nodeCells h k c) T (0, 0)) ∧ h < 65536 ∧ ∀ i, Tr T K (k i)

theorem Tr.le {T n : Nat} {K K' : Fz} {w : World} (hl : K.Le n K') (hK : K.In w) (hn : w.heap.size ≤ n) : ∀ {t : PT}, Tr T K t → Tr T K' t := by
  intro t
  induction t with
  | nil => exact id
  | node b h k c ih => exact fun ⟨h1, h2, h3⟩ => ⟨hl.keep hK hn h1, h2, fun i => ih i (h3 i)⟩
theorem Tr.add {T : Nat} {K : Fz} {b : Nat} {o : Obj} (hb : K b = none) : ∀ {t : PT}, Tr T K t → Tr T (K.add b o) t := by
  intro t
  induction t with
  | nil => exact id
  | node b' h k c ih =>
    rintro ⟨h1, h2, h3⟩
    refine ⟨?_, h2, fun i => ih i (h3 i)⟩
    rw [Fz.add_other _ _ (by rintro rfl; rw [hb] at h1; cases h1)]
    exact h1
theorem Tr.kid {T : Nat} {K : Fz} {t : PT} (h : Tr T K t) (i : Nat) : Tr T K (t.kid i) := by
  cases t with
  | nil => trivial
  | node b h' k c => exact h.2.2 i
theorem Tr.has {T : Nat} {K : Fz} {t : PT} (h : Tr T K t) : t.has < 65536 := by
  cases t with
  | nil => decide
  | node b h' k c => exact h.2.1
end Go.Proofs.Ytdaagmhkhfcmdaa
