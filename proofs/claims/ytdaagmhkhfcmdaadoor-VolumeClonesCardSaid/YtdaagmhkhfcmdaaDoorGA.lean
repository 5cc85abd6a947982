/- The ghost of frozen memory, and lemmas on it: no program in sight. -/
import Derived.WalkKit
import Derived.IntWalk
import Derived.Lib.Hide
import Derived.Deep.QuietTactic
namespace Go.Proofs.YtdaagmhkhfcmdaaDoor
open Go Go.RowKit

/-- Frozen blocks: what they hold from now on. -/
abbrev Fz := Nat → Option Obj

/-- A block of plain cells. -/
def Plain : Obj → Prop
  | .cells _ _ _ => True
  | _ => False
def Fz.In (K : Fz) (w : World) : Prop := ∀ b o, K b = some o → w.heap[b]? = some o ∧ Plain o
theorem Fz.In.get {K : Fz} {w : World} (h : K.In w) {b : Nat} {o : Obj} (hk : K b = some o) : w.heap[b]? = some o := (h b o hk).1
def Fz.Le (n : Nat) (K K' : Fz) : Prop := ∀ b, b < n → K' b = K b
def Fz.add (K : Fz) (b : Nat) (o : Obj) : Fz := fun c => if c = b then some o else K c

theorem Fz.In.lt {K : Fz} {w : World} (h : K.In w) {b : Nat} {o : Obj} (hk : K b = some o) : b < w.heap.size :=
  (Array.getElem?_eq_some_iff.1 (h.get hk)).1

theorem Fz.In.out {K : Fz} {w : World} (h : K.In w) {b : Nat} (hb : w.heap.size ≤ b) : K b = none := by
  cases hk : K b with
  | none => rfl
  | some o => have := h.lt hk; omega

theorem Fz.In.below {K : Fz} {w w' : World} (h : K.In w) (hb : Below w.heap.size w w') : K.In w' :=
  fun b o hk => ⟨(hb.block b (h.lt hk)).trans (h.get hk), (h b o hk).2⟩

theorem Fz.In.alloc {K : Fz} {w : World} (h : K.In w) (o : Obj) : K.In (w.alloc o) :=
  h.below ((Below.refl _ _).alloc (Nat.le_refl _) _)

theorem Fz.In.drew {K : Fz} {w : World} (h : K.In w) : K.In w.drew := h

theorem Fz.In.setCell {K : Fz} {w : World} (h : K.In w) (p : Addr) (u : Value) (hp : K p.block = none) : K.In (w.setCell p u) :=
  fun b o hk => ⟨(Below.heap_setCell w p u b (by rintro rfl; simp [hp] at hk)).trans (h.get hk), (h b o hk).2⟩

theorem Fz.Le.refl (n : Nat) (K : Fz) : K.Le n K := fun _ _ => rfl
theorem Fz.Le.trans {n m : Nat} {A B C : Fz} (h : A.Le n B) (k : B.Le m C) (hm : n ≤ m) : A.Le n C :=
  fun b hb => (k b (Nat.lt_of_lt_of_le hb hm)).trans (h b hb)
theorem Fz.Le.mono {n m : Nat} {A B : Fz} (h : A.Le n B) (hm : m ≤ n) : A.Le m B := fun b hb => h b (Nat.lt_of_lt_of_le hb hm)
theorem Fz.Le.keep {n : Nat} {A B : Fz} (h : A.Le n B) {w : World} (hA : A.In w) (hn : w.heap.size ≤ n) {b : Nat} {o : Obj} (hk : A b = some o) : B b = some o :=
  (h b (Nat.lt_of_lt_of_le (hA.lt hk) hn)).trans hk

theorem Fz.In.add {K : Fz} {w : World} (h : K.In w) {b : Nat} {cs : Array Value} {t : TypeId} {fr : Nat × Nat} (hb : w.heap[b]? = some (.cells cs t fr)) : (K.add b (.cells cs t fr)).In w := by
  intro c o' hc
  unfold Fz.add at hc
  split at hc
  · next e => subst e; cases hc; exact ⟨hb, trivial⟩
  · exact h c o' hc
theorem Fz.Le.add {n : Nat} {A B : Fz} (h : A.Le n B) (b : Nat) (o : Obj) (hb : n ≤ b) : A.Le n (B.add b o) := by
  intro c hc
  unfold Fz.add
  rw [if_neg (by omega)]
  exact h c hc
theorem Fz.add_self (K : Fz) (b : Nat) (o : Obj) : (K.add b o) b = some o := by simp [Fz.add]
theorem Fz.add_other (K : Fz) {b c : Nat} (o : Obj) (h : c ≠ b) : (K.add b o) c = K c := by simp [Fz.add, h]

theorem Fz.In.cell {K : Fz} {w : World} (h : K.In w) {b : Nat} {cs : Array Value} {T : TypeId} {fr : Nat × Nat} (hk : K b = some (.cells cs T fr)) (i : Nat) :
    w.cell? ⟨b, i, none⟩ = cs[i]? := cell_of_row w b i cs T fr (h.get hk)

theorem _root_.Go.RowKit.Below.drewN' {B : Nat} {a w : World} (h : Below B a w) (n : Nat) : Below B a (w.drewN n) := ⟨h.os, h.tape, h.output, h.size, h.block⟩
theorem Fz.In.drewN {K : Fz} {w : World} (h : K.In w) (n : Nat) : K.In (w.drewN n) := h

/-- The call returns a value; what it made is frozen; nothing older has turned. -/
def Ret (K : Fz) (w : World) (R : Fz → Value → Prop) (e : Ending) (w' : World) : Prop :=
  ∃ v K', e = .returned v ∧ K'.In w' ∧ K.Le w.heap.size K' ∧ Below w.heap.size w w' ∧ R K' v

theorem Ret.mono {K : Fz} {w : World} {R R' : Fz → Value → Prop} (hR : ∀ K' v, K.Le w.heap.size K' → R K' v → R' K' v) {e : Ending} {w' : World} (h : Ret K w R e w') : Ret K w R' e w' := by
  obtain ⟨v, K', he, hi, hl, hb, hr⟩ := h
  exact ⟨v, K', he, hi, hl, hb, hR _ _ hl hr⟩
end Go.Proofs.YtdaagmhkhfcmdaaDoor
/- Trees of nodes as plain data, and what the functions of package tree do to them: no program in sight. -/
namespace Go.Proofs.YtdaagmhkhfcmdaaDoor
open Go Go.RowKit

/-- A tree of nodes: a node's block, its bits, its children, its chunks. -/
inductive PT where
  | nil
  | node (b : Nat) (has : Nat) (kid : Nat → PT) (chunk : Nat → Int)

def PT.ptr : PT → Option Addr
  | nil => none
  | node b _ _ _ => some ⟨b, 0, none⟩
def PT.has : PT → Nat
  | nil => 0
  | node _ h _ _ => h
def PT.kid : PT → Nat → PT
  | nil, _ => nil
  | node _ _ k _, i => k i
def PT.chunk : PT → Nat → Int
  | nil, _ => 0
  | node _ _ _ c, i => c i

def PT.isNil : PT → Bool
  | nil => true
  | node _ _ _ _ => false

def upd {α : Type} (f : Nat → α) (i : Nat) (x : α) : Nat → α := fun j => if j = i then x else f j
theorem upd_self {α : Type} (f : Nat → α) (i : Nat) (x : α) : upd f i x i = x := by simp [upd]
theorem upd_other {α : Type} (f : Nat → α) {i j : Nat} (x : α) (h : j ≠ i) : upd f i x j = f j := by simp [upd, h]

/-- A node's cells. -/
def nodeCells (has : Nat) (kid : Nat → PT) (chunk : Nat → Int) : Array Value :=
  Array.ofFn (n := 33) fun i => if i.1 = 0 then .int .u16 has else if i.1 < 17 then .pointer (kid (i.1 - 1)).ptr else .int .i64 (chunk (i.1 - 17))

theorem nodeCells_size (h : Nat) (k : Nat → PT) (c : Nat → Int) : (nodeCells h k c).size = 33 := by simp [nodeCells]
theorem nodeCells_get (h : Nat) (k : Nat → PT) (c : Nat → Int) (i : Nat) (hi : i < 33) :
    (nodeCells h k c)[i]? = some (if i = 0 then .int .u16 h else if i < 17 then .pointer (k (i - 1)).ptr else .int .i64 (c (i - 17))) := by
  simp [nodeCells, hi]
theorem nodeCells_has (h : Nat) (k : Nat → PT) (c : Nat → Int) : (nodeCells h k c)[0]? = some (.int .u16 h) := by
  rw [nodeCells_get _ _ _ _ (by omega)]; rfl
theorem nodeCells_kid (h : Nat) (k : Nat → PT) (c : Nat → Int) (i : Nat) (hi : i < 16) : (nodeCells h k c)[1 + i]? = some (.pointer (k i).ptr) := by
  rw [nodeCells_get _ _ _ _ (by omega), if_neg (by omega), if_pos (by omega), show 1 + i - 1 = i by omega]
theorem nodeCells_chunk (h : Nat) (k : Nat → PT) (c : Nat → Int) (i : Nat) (hi : i < 16) : (nodeCells h k c)[17 + i]? = some (.int .i64 (c i)) := by
  rw [nodeCells_get _ _ _ _ (by omega), if_neg (by omega), if_neg (by omega), show 17 + i - 17 = i by omega]
theorem nodeCells_ext {h : Nat} {k : Nat → PT} {c : Nat → Int} {a : Array Value} (hs : a.size = 33)
    (h1 : ∀ i, i < 33 → a[i]? = (nodeCells h k c)[i]?) : a = nodeCells h k c := by
  refine Array.ext_getElem? fun i => ?_
  by_cases hi : i < 33
  · exact h1 i hi
  · rw [Array.getElem?_eq_none (by omega), Array.getElem?_eq_none (by rw [nodeCells_size]; omega)]
theorem nodeCells_setHas (h h' : Nat) (k : Nat → PT) (c : Nat → Int) : (nodeCells h k c).setIfInBounds 0 (.int .u16 h') = nodeCells h' k c := by
  refine nodeCells_ext (by simp [nodeCells_size]) fun i hi => ?_
  rw [nodeCells_get _ _ _ _ hi]
  by_cases e : i = 0
  · subst e; simp [Array.getElem?_setIfInBounds, nodeCells_size]
  · rw [Array.getElem?_setIfInBounds_ne (by omega), nodeCells_get _ _ _ _ hi, if_neg e, if_neg e]
theorem nodeCells_setKid (h : Nat) (k : Nat → PT) (c : Nat → Int) (i : Nat) (hi : i < 16) (t : PT) : (nodeCells h k c).setIfInBounds (1 + i) (.pointer t.ptr) = nodeCells h (upd k i t) c := by
  refine nodeCells_ext (by simp [nodeCells_size]) fun j hj => ?_
  rw [nodeCells_get _ _ _ _ hj]
  by_cases e : j = 1 + i
  · subst e; simp [Array.getElem?_setIfInBounds, nodeCells_size, hj, upd, hi]; omega
  · rw [Array.getElem?_setIfInBounds_ne (by omega), nodeCells_get _ _ _ _ hj]
    by_cases e0 : j = 0
    · simp [e0]
    · by_cases e1 : j < 17
      · simp only [e0, e1, if_true, if_false]; rw [upd_other _ _ (by omega)]
      · simp only [e0, e1, if_false]
theorem nodeCells_setChunk (h : Nat) (k : Nat → PT) (c : Nat → Int) (i : Nat) (hi : i < 16) (x : Int) : (nodeCells h k c).setIfInBounds (17 + i) (.int .i64 x) = nodeCells h k (upd c i x) := by
  refine nodeCells_ext (by simp [nodeCells_size]) fun j hj => ?_
  rw [nodeCells_get _ _ _ _ hj]
  by_cases e : j = 17 + i
  · subst e
    have e1 : ¬ (17 + i = 0) := by omega
    have e2 : ¬ (17 + i < 17) := by omega
    simp [Array.getElem?_setIfInBounds, nodeCells_size, hj, upd]
  · rw [Array.getElem?_setIfInBounds_ne (by omega), nodeCells_get _ _ _ _ hj]
    by_cases e0 : j = 0
    · simp [e0]
    · by_cases e1 : j < 17
      · simp only [e0, e1, if_true, if_false]
      · simp only [e0, e1, if_false]; rw [upd_other _ _ (by omega)]

theorem nodeCells_zero : nodeCells 0 (fun _ => .nil) (fun _ => 0) = (#[.int .u16 0] ++ Array.replicate 16 (.pointer none) ++ Array.replicate 16 (.int .i64 0) : Array Value) := by
  unfold nodeCells
  rfl

theorem nodeCells_one (h : Nat) (k : Nat → PT) (c : Nat → Int) : ∀ u ∈ (nodeCells h k c).toList, u.oneCell' = true := by
  intro u hu
  simp only [nodeCells, Array.mem_toList_iff, Array.mem_ofFn] at hu
  obtain ⟨i, rfl⟩ := hu
  repeat' split
  all_goals rfl

attribute [irreducible] nodeCells

/-- The slot of a block in a node of a level. -/
def sl (L blk : Nat) : Nat := blk / 16 ^ L % 16
theorem sl_lt (L blk : Nat) : sl L blk < 16 := Nat.mod_lt _ (by omega)

/-- What a tree says of a block. -/
def PT.get : Nat → PT → Nat → Int × Bool
  | _, .nil, _ => (0, false)
  | 0, .node _ h _ c, blk => (c (sl 0 blk), h.testBit (sl 0 blk))
  | L + 1, .node _ _ k _, blk => (k (sl (L + 1) blk)).get L blk

/-- t' is what 'set' makes of t; the new nodes lie in blocks from n on. -/
def PT.Set : Nat → Nat → PT → Nat → Int → PT → Prop
  | 0, n, t, blk, ch, t' => ∃ b, n ≤ b ∧ t' = .node b (t.has ||| 2 ^ sl 0 blk) t.kid (upd t.chunk (sl 0 blk) ch)
  | L + 1, n, t, blk, ch, t' => ∃ b k', n ≤ b ∧ PT.Set L (b + 1) (t.kid (sl (L + 1) blk)) blk ch k' ∧
      t' = .node b (t.has ||| 2 ^ sl (L + 1) blk) (upd t.kid (sl (L + 1) blk) k') t.chunk

theorem PT.Set.mono {L n m : Nat} {t t' : PT} {blk : Nat} {ch : Int} (hm : m ≤ n) (h : PT.Set L n t blk ch t') : PT.Set L m t blk ch t' := by
  cases L with
  | zero => obtain ⟨b, hb, e⟩ := h; exact ⟨b, by omega, e⟩
  | succ L => obtain ⟨b, k', hb, hs, e⟩ := h; exact ⟨b, k', by omega, hs, e⟩

/-- The bit taken out. -/
def unbit (h i : Nat) : Nat := h &&& (65535 - 2 ^ i)

/-- The nodes on the way to a block are there. -/
def PT.Way : Nat → PT → Nat → Prop
  | 0, t, _ => t ≠ .nil
  | L + 1, t, blk => t ≠ .nil ∧ PT.Way L (t.kid (sl (L + 1) blk)) blk

/-- t' is what 'clear' makes of t. -/
def PT.Clr : Nat → Nat → PT → Nat → PT → Prop
  | 0, n, t, blk, t' => ∃ b, n ≤ b ∧ t' = if unbit t.has (sl 0 blk) = 0 then PT.nil else PT.node b (unbit t.has (sl 0 blk)) t.kid (upd t.chunk (sl 0 blk) 0)
  | L + 1, n, t, blk, t' => ∃ b k', n ≤ b ∧ PT.Clr L (b + 1) (t.kid (sl (L + 1) blk)) blk k' ∧
      t' = if k'.isNil = false then PT.node b t.has (upd t.kid (sl (L + 1) blk) k') t.chunk
        else if unbit t.has (sl (L + 1) blk) = 0 then PT.nil else PT.node b (unbit t.has (sl (L + 1) blk)) (upd t.kid (sl (L + 1) blk) PT.nil) t.chunk

theorem PT.Clr.mono {L n m : Nat} {t t' : PT} {blk : Nat} (hm : m ≤ n) (h : PT.Clr L n t blk t') : PT.Clr L m t blk t' := by
  cases L with
  | zero => obtain ⟨b, hb, e⟩ := h; exact ⟨b, by omega, e⟩
  | succ L => obtain ⟨b, k', hb, hs, e⟩ := h; exact ⟨b, k', by omega, hs, e⟩

/-- A tree's nodes lie frozen in memory. T: the node type's number. -/
def Tr (T : Nat) (K : Fz) : PT → Prop
  | .nil => True
  | .node b h k c => K b = some (.cells (nodeCells h k c) T (0, 0)) ∧ h < 65536 ∧ ∀ i, Tr T K (k i)

theorem Tr.le {T n : Nat} {K K' : Fz} {w : World} (hl : K.Le n K') (hK : K.In w) (hn : w.heap.size ≤ n) : ∀ {t : PT}, Tr T K t → Tr T K' t := by
  intro t
  induction t with
  | nil => exact id
  | node b h k c ih => exact fun ⟨h1, h2, h3⟩ => ⟨hl.keep hK hn h1, h2, fun i => ih i (h3 i)⟩
theorem Tr.add {T : Nat} {K : Fz} {b : Nat} {o : Obj} (hb : K b = none) : ∀ {t : PT}, Tr T K t → Tr T (K.add b o) t := by
  intro t
  induction t with
  | nil => exact id
  | node b' h k c ih =>
    rintro ⟨h1, h2, h3⟩
    refine ⟨?_, h2, fun i => ih i (h3 i)⟩
    rw [Fz.add_other _ _ (by rintro rfl; rw [hb] at h1; cases h1)]
    exact h1
theorem Tr.kid {T : Nat} {K : Fz} {t : PT} (h : Tr T K t) (i : Nat) : Tr T K (t.kid i) := by
  cases t with
  | nil => trivial
  | node b h' k c => exact h.2.2 i
theorem Tr.has {T : Nat} {K : Fz} {t : PT} (h : Tr T K t) : t.has < 65536 := by
  cases t with
  | nil => decide
  | node b h' k c => exact h.2.1
end Go.Proofs.YtdaagmhkhfcmdaaDoor
/- Steps of a walk over a block known whole: no program in sight. -/
namespace Go.Proofs.YtdaagmhkhfcmdaaDoor
open Go Go.RowKit

/-- One block has turned, nothing else. -/
structure Upd (w : World) (g : Nat) (o : Obj) (w' : World) : Prop where
  os : w'.os = w.os
  tape : w'.tape = w.tape
  output : w'.output = w.output
  size : w'.heap.size = w.heap.size
  here : w'.heap[g]? = some o
  other : ∀ k, k ≠ g → w'.heap[k]? = w.heap[k]?

/-- One block has come, nothing else. -/
structure New (w : World) (o : Obj) (w' : World) : Prop where
  os : w'.os = w.os
  tape : w'.tape = w.tape
  output : w'.output = w.output
  size : w'.heap.size = w.heap.size + 1
  here : w'.heap[w.heap.size]? = some o
  other : ∀ k, k < w.heap.size → w'.heap[k]? = w.heap[k]?

theorem New.alloc (w : World) (o : Obj) : New w o (w.alloc o) :=
  ⟨rfl, rfl, rfl, by simp, heap_alloc_new w o, fun k hk => Below.heap_alloc w o k hk⟩
theorem Upd.setRow {w : World} {g : Nat} {cur cs : Array Value} {t : TypeId} {fr : Nat × Nat} (hg : w.heap[g]? = some (.cells cur t fr)) : Upd w g (.cells cs t fr) (w.setRow g cs) :=
  ⟨rfl, rfl, rfl, by simp, setRow_heap w g cur cs t fr hg, fun k hk => setRow_other w g k cs hk⟩
theorem Upd.setCell {w : World} {g i : Nat} {cur : Array Value} {t : TypeId} {fr : Nat × Nat} (v : Value) (hg : w.heap[g]? = some (.cells cur t fr)) :
    Upd w g (.cells (cur.setIfInBounds i v) t fr) (w.setCell ⟨g, i, none⟩ v) := by
  rw [setCell_eq_setRow w g i cur t fr v hg]; exact Upd.setRow hg

theorem Upd.drew {w w' : World} {g : Nat} {o : Obj} (hu : Upd w g o w') : Upd w g o w'.drew := ⟨hu.os, hu.tape, hu.output, hu.size, hu.here, hu.other⟩

theorem Upd.below {B g : Nat} {w0 w w' : World} {o : Obj} (hu : Upd w g o w') (hb : Below B w0 w) (hg : B ≤ g) : Below B w0 w' :=
  hb.trans ⟨hu.os, hu.tape, hu.output, by rw [hu.size]; exact Nat.le_refl _, fun k hk => hu.other k (by omega)⟩
theorem New.below {B : Nat} {w0 w w' : World} {o : Obj} (hn : New w o w') (hb : Below B w0 w) (hB : B ≤ w.heap.size) : Below B w0 w' :=
  hb.trans ⟨hn.os, hn.tape, hn.output, by rw [hn.size]; exact Nat.le_succ _, fun k hk => hn.other k (by omega)⟩
theorem Upd.inn {K : Fz} {g : Nat} {w w' : World} {o : Obj} (hu : Upd w g o w') (h : K.In w) (hg : K g = none) : K.In w' :=
  fun b o' hk => ⟨(hu.other b (by rintro rfl; rw [hg] at hk; cases hk)).trans (h.get hk), (h b o' hk).2⟩
theorem New.inn {K : Fz} {w w' : World} {o : Obj} (hn : New w o w') (h : K.In w) : K.In w' :=
  fun b o' hk => ⟨(hn.other b (h.lt hk)).trans (h.get hk), (h b o' hk).2⟩
theorem New.at {w w' : World} {o o' : Obj} {g : Nat} (hn : New w o w') (h : w.heap[g]? = some o') : w'.heap[g]? = some o' :=
  (hn.other g (Array.getElem?_eq_some_iff.1 h).1).trans h
theorem Upd.at {w w' : World} {o o' : Obj} {g k : Nat} (hu : Upd w g o w') (h : w.heap[k]? = some o') (hne : k ≠ g) : w'.heap[k]? = some o' :=
  (hu.other k hne).trans h
theorem below_at {B : Nat} {w w' : World} {o : Obj} {g : Nat} (hb : Below B w w') (h : w.heap[g]? = some o) (hg : g < B) : w'.heap[g]? = some o := (hb.block g hg).trans h
theorem lt_of_at {w : World} {g : Nat} {o : Obj} (h : w.heap[g]? = some o) : g < w.heap.size := (Array.getElem?_eq_some_iff.1 h).1

/-- How a call stands: what is frozen now; nothing older has turned. -/
structure St (K0 : Fz) (w : World) (K : Fz) (W : World) : Prop where
  inn : K.In W
  le : K0.Le w.heap.size K
  below : Below w.heap.size w W

/-- A block of the call's own, and what it holds. -/
structure Own (w : World) (K : Fz) (W : World) (g : Nat) (o : Obj) : Prop where
  at_ : W.heap[g]? = some o
  none_ : K g = none
  base : w.heap.size ≤ g

section st
variable {K0 K K' : Fz} {w W W' : World} {g g' : Nat} {o o' : Obj}
theorem St.start (h : K0.In w) : St K0 w K0 w := ⟨h, Fz.Le.refl _ _, Below.refl _ _⟩
theorem St.size (s : St K0 w K W) : w.heap.size ≤ W.heap.size := s.below.size
theorem St.new (s : St K0 w K W) (hn : New W o W') : St K0 w K W' := ⟨hn.inn s.inn, s.le, hn.below s.below s.size⟩
theorem Own.made (s : St K0 w K W) (e : g = W.heap.size) (hn : New W o W') : Own w K W' g o := by
  subst e; exact ⟨hn.here, s.inn.out (Nat.le_refl _), s.size⟩
theorem Own.lt (h : Own w K W g o) : g < W.heap.size := lt_of_at h.at_
theorem Own.new (h : Own w K W g o) (hn : New W o' W') : Own w K W' g o := ⟨hn.at h.at_, h.none_, h.base⟩
theorem Own.ne (h : Own w K W g o) (e : g' = W.heap.size) : g ≠ g' := by have := h.lt; omega
theorem St.upd (s : St K0 w K W) (h : Own w K W g o) (hu : Upd W g o' W') : St K0 w K W' := ⟨hu.inn s.inn h.none_, s.le, hu.below s.below h.base⟩
theorem Own.upd (h : Own w K W g o) (hu : Upd W g o' W') : Own w K W' g o' := ⟨hu.here, h.none_, h.base⟩
theorem Own.other (h : Own w K W g o) (hu : Upd W g' o' W') (hne : g ≠ g') : Own w K W' g o := ⟨hu.at h.at_ hne, h.none_, h.base⟩
theorem St.call (s : St K0 w K W) (h1 : K'.In W') (h2 : K.Le W.heap.size K') (h3 : Below W.heap.size W W') : St K0 w K' W' :=
  ⟨h1, s.le.trans h2 s.size, s.below.trans (h3.mono s.size)⟩
theorem Own.call (h : Own w K W g o) (h2 : K.Le W.heap.size K') (h3 : Below W.heap.size W W') : Own w K' W' g o :=
  ⟨below_at h3 h.at_ h.lt, (h2 _ h.lt).trans h.none_, h.base⟩
theorem St.quiet (s : St K0 w K W) (h3 : Below W.heap.size W W') : St K0 w K W' := s.call (s.inn.below h3) (Fz.Le.refl _ _) h3
theorem Own.quiet (h : Own w K W g o) (h3 : Below W.heap.size W W') : Own w K W' g o := h.call (Fz.Le.refl _ _) h3
theorem St.drew (s : St K0 w K W) : St K0 w K W.drew := ⟨s.inn, s.le, s.below.drew⟩
theorem Own.drew (h : Own w K W g o) : Own w K W.drew g o := ⟨h.at_, h.none_, h.base⟩
theorem St.drewN (s : St K0 w K W) (n : Nat) : St K0 w K (W.drewN n) := ⟨s.inn, s.le, s.below.drewN' n⟩
theorem Own.drewN (h : Own w K W g o) (n : Nat) : Own w K (W.drewN n) g o := ⟨h.at_, h.none_, h.base⟩
theorem St.freeze {cs : Array Value} {t : TypeId} {fr : Nat × Nat} (s : St K0 w K W) (h : Own w K W g (.cells cs t fr)) : St K0 w (K.add g (.cells cs t fr)) W := ⟨s.inn.add h.at_, s.le.add _ _ h.base, s.below⟩
theorem Own.freeze (h : Own w K W g o) (hne : g ≠ g') : Own w (K.add g' o') W g o := ⟨h.at_, (Fz.add_other _ _ hne).trans h.none_, h.base⟩
theorem St.ret {R : Fz → Value → Prop} (s : St K0 w K W) {v : Value} (h : R K v) : Ret K0 w R (.returned v) W := ⟨v, K, rfl, s.inn, s.le, s.below, h⟩
theorem Tr.call {T : Nat} {t : PT} : Tr T K t → K.In W → K.Le W.heap.size K' → Tr T K' t := fun h hi hl => h.le hl hi (Nat.le_refl _)
end st

section gates
variable {P : Program} {ops : Array Oper} {rest : List Oper} {a : Act} {w : World} {Q : Exit → Act → World → Prop} {dst : Option Tmp} {ty : TypeId} {pos : String} {after : Array Edge} {gd : Option (Nat × Bool)}
theorem gate_alloc {T : TypeId} (h : wpList P ops Q ({ dst, op := .alloc T, type := ty, pos, after, guard := gd } :: rest) a w) : wpList P ops Q ({ dst, op := .alloc T, type := ty, pos, after, guard := gd } :: rest) a w := h
theorem gate_box {T : TypeId} {x : Operand} (h : wpList P ops Q ({ dst, op := .box T x, type := ty, pos, after, guard := gd } :: rest) a w) : wpList P ops Q ({ dst, op := .box T x, type := ty, pos, after, guard := gd } :: rest) a w := h
theorem gate_load {T : TypeId} {x : Operand} (h : wpList P ops Q ({ dst, op := .load T x, type := ty, pos, after, guard := gd } :: rest) a w) : wpList P ops Q ({ dst, op := .load T x, type := ty, pos, after, guard := gd } :: rest) a w := h
theorem gate_store {T : TypeId} {x y : Operand} (h : wpList P ops Q ({ dst, op := .store T x y, type := ty, pos, after, guard := gd } :: rest) a w) : wpList P ops Q ({ dst, op := .store T x y, type := ty, pos, after, guard := gd } :: rest) a w := h
theorem gate_build {T : TypeId} {x : Array (Nat × Operand)} (h : wpList P ops Q ({ dst, op := .build T x, type := ty, pos, after, guard := gd } :: rest) a w) : wpList P ops Q ({ dst, op := .build T x, type := ty, pos, after, guard := gd } :: rest) a w := h
theorem gate_buildSlice {T n : TypeId} {x : Array (Nat × Operand)} (h : wpList P ops Q ({ dst, op := .buildSlice T n x, type := ty, pos, after, guard := gd } :: rest) a w) : wpList P ops Q ({ dst, op := .buildSlice T n x, type := ty, pos, after, guard := gd } :: rest) a w := h
end gates

section ops
variable {P : Program} {ops : Array Oper} {rest : List Oper} {o : Oper} {a : Act} {w : World} {Q : Exit → Act → World → Prop}

theorem wpList_run {v : Value} {w' : World} (hgd : o.guard = none) (hr : (execOp a.eval o).run P w = .ok (.value v) w') (h : wpList P ops Q rest (a.put o.dst v) w') : wpList P ops Q (o :: rest) a w :=
  wpList_plain hgd fun K hK => by unfold Oper.wp; rw [hr]; exact hK _ _ h

/-- 'T{}': the zero value. -/
theorem wpList_build0 {T : TypeId} {v : Value} (hgd : o.guard = none) (ho : o.op = .build T #[]) (hz : ∀ w, (Instr.build T #[]).run P w = .ok v w)
    (h : wpList P ops Q rest (a.put o.dst v) w) : wpList P ops Q (o :: rest) a w :=
  wpList_run hgd (by simp [execOp, ho, hz]) h

/-- A new variable, zero. -/
theorem wpList_alloc {T : TypeId} {z : Value} {cs : Array Value} (hgd : o.guard = none) (ho : o.op = .alloc T) (hz : ∀ w, (zeroValue T).run P w = .ok z w) (hcs : z.cells = cs)
    (h : ∀ w', New w (.cells cs T) w' → wpList P ops Q rest (a.put o.dst (.pointer (some ⟨w.heap.size, 0, none⟩))) w') : wpList P ops Q (o :: rest) a w :=
  wpList_run hgd (by simp [execOp, ho, Instr.alloc, hz, newVar, newRow, run_newObj_alloc, hcs]) (h _ (New.alloc _ _))

/-- A new variable that holds x. -/
theorem wpList_box {T : TypeId} {x : Operand} {v : Value} {cs : Array Value} (hgd : o.guard = none) (ho : o.op = .box T x) (hx : a.eval x = v) (hcs : v.cells = cs)
    (h : ∀ w', New w (.cells cs T) w' → wpList P ops Q rest (a.put o.dst (.pointer (some ⟨w.heap.size, 0, none⟩))) w') : wpList P ops Q (o :: rest) a w :=
  wpList_run hgd (by simp [execOp, ho, hx, Instr.box, newVar, newRow, run_newObj_alloc, hcs]) (h _ (New.alloc _ _))

theorem wpList_allocG {T : TypeId} {z : Value} {cs : Array Value} (hgd : o.guard = none) (ho : o.op = .alloc T) (hz : ∀ w, (zeroValue T).run P w = .ok z w) (hcs : z.cells = cs)
    (h : ∀ g w', g = w.heap.size → New w (.cells cs T) w' → wpList P ops Q rest (a.put o.dst (.pointer (some ⟨g, 0, none⟩))) w') : wpList P ops Q (o :: rest) a w :=
  wpList_alloc hgd ho hz hcs (fun w' hn => h _ w' rfl hn)
theorem wpList_boxG {T : TypeId} {x : Operand} {v : Value} {cs : Array Value} (hgd : o.guard = none) (ho : o.op = .box T x) (hx : a.eval x = v) (hcs : v.cells = cs)
    (h : ∀ g w', g = w.heap.size → New w (.cells cs T) w' → wpList P ops Q rest (a.put o.dst (.pointer (some ⟨g, 0, none⟩))) w') : wpList P ops Q (o :: rest) a w :=
  wpList_box hgd ho hx hcs (fun w' hn => h _ w' rfl hn)

/-- A store of a whole value into the head of a block. -/
theorem wpList_storeAll {T t : TypeId} {x y : Operand} {g : Nat} {v : Value} {cs cur : Array Value} (hgd : o.guard = none) (ho : o.op = .store T x y) (hx : a.eval x = .pointer (some ⟨g, 0, none⟩)) (hy : a.eval y = v) (hcs : v.cells = cs)
    (hg : w.heap[g]? = some (.cells cur t (0, 0))) (hs : cs.size = cur.size) (hT : (P.info? T).map (·.size) = some cs.size) (h1 : ∀ u ∈ cs.toList, u.oneCell' = true)
    (h : ∀ w', Upd w g (.cells cs t (0, 0)) w' → wpList P ops Q rest (a.put o.dst undef) w') : wpList P ops Q (o :: rest) a w := by
  refine wpList_plain hgd fun K hK => ?_
  subst hcs
  have hst := run_storeCells_at (P := P) g 0 t v.cells.toList 0 cur w hg (by simp [hs]) h1
  have e : (cur.toList.take (0 + 0) ++ v.cells.toList ++ cur.toList.drop (0 + 0 + v.cells.toList.length)).toArray = v.cells := by
    have hd : cur.toList.drop v.cells.size = [] := List.drop_eq_nil_of_le (by simp [hs])
    simp [hd]
  rw [e] at hst
  cases hq : P.info? T with
  | none => simp [hq] at hT
  | some i =>
    have hi : i.size = cur.size := by simpa [hq, hs] using hT
    unfold Oper.wp
    simp only [execOp, ho, hx, hy, Instr.storeAt, Instr.sureAddr, storeVar, sizeOf, typeInfo, hq, hi, hs, Sem.run_bind, Sem.run_pure, Result.andThen_ok, hst]
    simp [hq, hi, hst, Oper.upon]
    exact hK _ _ (h _ (Upd.setRow hg))

/-- A store of one cell into a block. -/
theorem wpList_storeCell {T t : TypeId} {x y : Operand} {g off : Nat} {v : Value} {cur : Array Value} (hgd : o.guard = none) (ho : o.op = .store T x y) (hx : a.eval x = .pointer (some ⟨g, off, none⟩)) (hy : a.eval y = v)
    (hg : w.heap[g]? = some (.cells cur t (0, 0))) (hs : off < cur.size) (hT : (P.info? T).map (·.size) = some 1) (hc : v.cells = #[v]) (h1 : v.oneCell' = true)
    (h : ∀ w', Upd w g (.cells (cur.setIfInBounds off v) t (0, 0)) w' → wpList P ops Q rest (a.put o.dst undef) w') : wpList P ops Q (o :: rest) a w := by
  refine wpList_plain hgd fun K hK => ?_
  have hst := run_storeCells_at (P := P) g off t [v] 0 cur w hg (by simp; omega) (by simpa using h1)
  have e : (cur.toList.take (off + 0) ++ [v] ++ cur.toList.drop (off + 0 + [v].length)).toArray = cur.setIfInBounds off v := by
    apply Array.toList_inj.1
    rw [Array.toList_setIfInBounds, List.set_eq_take_append_cons_drop, if_pos (by simpa using hs)]
    simp
  rw [e] at hst
  cases hq : P.info? T with
  | none => simp [hq] at hT
  | some i =>
    have hi : i.size = 1 := by simpa [hq] using hT
    unfold Oper.wp
    simp only [execOp, ho, hx, hy, Instr.storeAt, Instr.sureAddr, storeVar, sizeOf, typeInfo, hq, hi, hc, Sem.run_bind, Sem.run_pure, Result.andThen_ok, hst]
    simp [hq, hi, hst, Oper.upon]
    exact hK _ _ (h _ (Upd.setRow hg))

/-- A load of one cell of a block. -/
theorem wpList_loadCell {T t : TypeId} {x : Operand} {g off : Nat} {v : Value} {cur : Array Value} {fr : Nat × Nat} {d : TypeDesc} (hgd : o.guard = none) (ho : o.op = .load T x) (hx : a.eval x = .pointer (some ⟨g, off, none⟩))
    (hu : P.underlying T = some d) (hd : (match d with | .struct _ | .array _ _ => true | _ => false) = false) (hg : w.heap[g]? = some (.cells cur t fr)) (hc : cur[off]? = some v)
    (h : wpList P ops Q rest (a.put o.dst v) w) : wpList P ops Q (o :: rest) a w := by
  refine wpList_run hgd ?_ h
  have hcell : w.cell? ⟨g, off, none⟩ = some v := (cell_of_row w g off cur t fr hg).trans hc
  have hagg : (isAgg T).run P w = .ok false w := by
    unfold isAgg
    rw [Sem.run_bind, run_underlying hu w]
    cases d <;> simp_all
  simp [execOp, ho, hx, Instr.loadAt, Instr.sureAddr, loadVar, Sem.run_bind, hagg, run_load, hcell]

/-- A load of a whole value out of a block. -/
theorem wpList_loadAgg {T t : TypeId} {x : Operand} {g off : Nat} {vs : List Value} {cur : Array Value} {fr : Nat × Nat} {d : TypeDesc} (hgd : o.guard = none) (ho : o.op = .load T x) (hx : a.eval x = .pointer (some ⟨g, off, none⟩))
    (hu : P.underlying T = some d) (hd : (match d with | .struct _ | .array _ _ => true | _ => false) = true) (hg : w.heap[g]? = some (.cells cur t fr)) (hT : (P.info? T).map (·.size) = some vs.length)
    (hc : ∀ (j : Nat) (v : Value), vs[j]? = some v → cur[off + j]? = some v)
    (h : wpList P ops Q rest (a.put o.dst (.agg vs.toArray)) w) : wpList P ops Q (o :: rest) a w := by
  refine wpList_run hgd ?_ h
  have hl : (loadCells ⟨g, off, none⟩ vs.length).run P w = .ok vs.toArray w :=
    run_loadCells_list (P := P) w ⟨g, off, none⟩ vs (fun j v hv => by
      have hadd : (⟨g, off, none⟩ : Addr).add j = ⟨g, off + j, none⟩ := by unfold Addr.add; split <;> simp_all
      rw [hadd, cell_of_row w g (off + j) cur t fr hg]
      exact hc j v hv)
  have hagg : (isAgg T).run P w = .ok true w := by
    unfold isAgg
    rw [Sem.run_bind, run_underlying hu w]
    cases d <;> simp_all
  cases hq : P.info? T with
  | none => simp [hq] at hT
  | some i =>
    have hi : i.size = vs.length := by simpa [hq] using hT
    simp [execOp, ho, hx, Instr.loadAt, Instr.sureAddr, loadVar, Sem.run_bind, hagg, sizeOf, typeInfo, hq, hi, hl]
end ops
end Go.Proofs.YtdaagmhkhfcmdaaDoor
/- A slice in frozen memory, read as a list: no program in sight. -/
namespace Go.Proofs.YtdaagmhkhfcmdaaDoor
open Go Go.RowKit

/-- The value v is a slice whose elements are xs; an element takes sz cells. -/
def SlK {α : Type} (K : Fz) (sz : Nat) (enc : α → List Value) (v : Value) (xs : List α) : Prop :=
  ∃ a cap, v = .slice a xs.length cap ∧ xs.length ≤ cap ∧
    ∀ (i : Nat) (x : α), xs[i]? = some x → ∃ b off cs t fr, a = some ⟨b, off, none⟩ ∧ K b = some (.cells cs t fr) ∧ ∀ (j : Nat) (u : Value), (enc x)[j]? = some u → cs[off + i * sz + j]? = some u

section
variable {α : Type} {K K' : Fz} {sz : Nat} {enc : α → List Value} {v : Value} {xs : List α}
theorem SlK.nil (K : Fz) (sz : Nat) (enc : α → List Value) (a : Option Addr) (c : Nat) : SlK K sz enc (.slice a 0 c) ([] : List α) := ⟨a, c, rfl, Nat.zero_le _, fun i x h => by simp at h⟩
theorem SlK.keep (h : SlK K sz enc v xs) (hk : ∀ b o, K b = some o → K' b = some o) : SlK K' sz enc v xs := by
  obtain ⟨a, cap, rfl, hc, hx⟩ := h
  refine ⟨a, cap, rfl, hc, fun i x hi => ?_⟩
  obtain ⟨b, off, cs, t, fr, ha, hb, hj⟩ := hx i x hi
  exact ⟨b, off, cs, t, fr, ha, hk _ _ hb, hj⟩
theorem SlK.call {W : World} (h : SlK K sz enc v xs) (hi : K.In W) (hl : K.Le W.heap.size K') : SlK K' sz enc v xs :=
  h.keep fun b o hk => hl.keep hi (Nat.le_refl _) hk
theorem SlK.add {g : Nat} {o : Obj} (h : SlK K sz enc v xs) (hg : K g = none) : SlK (K.add g o) sz enc v xs :=
  h.keep fun b o' hk => by rw [Fz.add_other _ _ (by rintro rfl; rw [hg] at hk; cases hk)]; exact hk
/-- An own row, frozen. -/
theorem SlK.made {W : World} {base g e n cap : Nat} {cells : List Value} (ho : W.ownsRow base e sz (.slice (some ⟨g, 0, none⟩) n cap) n cells) (hn : n = xs.length)
    (hl : ∀ x, (enc x).length = sz) (hc : cells = xs.flatMap enc) : ∃ cur t, W.heap[g]? = some (.cells cur t (0, 0)) ∧ base ≤ g ∧ ∀ K : Fz, SlK (K.add g (.cells cur t (0, 0))) sz enc (.slice (some ⟨g, 0, none⟩) n cap) xs := by
  subst hn hc
  obtain ⟨hlen, (⟨h1, h2⟩ | ⟨g', cap', cur, h1, hb, hg, hnc, hcm, hcs, ht⟩)⟩ := ho
  · cases h1
  · cases h1
    refine ⟨_, _, hg, hb, fun K => ⟨_, _, rfl, hnc, fun i x hi => ⟨g, 0, cur, e, _, rfl, Fz.add_self _ _ _, fun j u hu => ?_⟩⟩⟩
    have hj : j < sz := by rw [← hl x]; exact (List.getElem?_eq_some_iff.1 hu).1
    have hi' : i < xs.length := (List.getElem?_eq_some_iff.1 hi).1
    have key : ∀ (ys : List α) (i : Nat) (x : α), ys[i]? = some x → (ys.flatMap enc)[i * sz + j]? = (enc x)[j]? := by
      intro ys
      induction ys with
      | nil => intro i x h; simp at h
      | cons y ys ih =>
        intro i x h
        cases i with
        | zero =>
          obtain rfl : y = x := by simpa using h
          simp only [List.flatMap_cons, Nat.zero_mul, Nat.zero_add]
          rw [List.getElem?_append_left (by rw [hl]; exact hj)]
        | succ i =>
          have h' : ys[i]? = some x := by simpa using h
          rw [List.flatMap_cons, List.getElem?_append_right (by rw [hl, Nat.succ_mul]; omega), hl, ← ih i x h']
          congr 1
          rw [Nat.succ_mul]; omega
    have hk := key xs i x hi
    rw [hu, ← ht, List.getElem?_take] at hk
    split at hk
    · rw [Nat.zero_add]; simpa using hk
    · cases hk
end
end Go.Proofs.YtdaagmhkhfcmdaaDoor
