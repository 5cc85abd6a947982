/- The ghost of frozen memory, and lemmas on it: no program in sight. -/
import Derived.WalkKit
import Derived.IntWalk
import Derived.Lib.Hide
import Derived.Deep.QuietTactic
namespace Go.Proofs.Ytdaagmhkhfcmdaa
open Go Go.RowKit

/-- Frozen blocks: what they hold from now on. -/
abbrev Fz := Nat → Option Obj

/-- A block of plain cells. -/
def Plain : Obj → Prop
  | .cells _ _ _ => True
  | _ => False
def Fz.In (K : Fz) (w : World) : Prop := ∀ b o, K b = some o → w.heap[b]? = some o ∧ Plain o
theorem Fz.In.get {K : Fz} {w : World} (h : K.In w) {b : Nat} {o : Obj} (hk : K b = some o) : w.heap[b]? = some o := (h b o hk).1
def Fz.Le (n : Nat) (K K' : Fz) : Prop := ∀ b, b < n → K' b = K b
def Fz.add (K : Fz) (b : Nat) (o : Obj) : Fz := fun c => if c = b then some o else K c

theorem Fz.In.lt {K : Fz} {w : World} (h : K.In w) {b : Nat} {o : Obj} (hk : K b = some o) : b < w.heap.size :=
  (Array.getElem?_eq_some_iff.1 (h.get hk)).1

theorem Fz.In.out {K : Fz} {w : World} (h : K.In w) {b : Nat} (hb : w.heap.size ≤ b) : K b = none := by
  cases hk : K b with
  | none => rfl
  | some o => have := h.lt hk; omega

theorem Fz.In.below {K : Fz} {w w' : World} (h : K.In w) (hb : Below w.heap.size w w') : K.In w' :=
  fun b o hk => ⟨(hb.block b (h.lt hk)).trans (h.get hk), (h b o hk).2⟩

theorem Fz.In.alloc {K : Fz} {w : World} (h : K.In w) (o : Obj) : K.In (w.alloc o) :=
  h.below ((Below.refl _ _).alloc (Nat.le_refl _) _)

theorem Fz.In.drew {K : Fz} {w : World} (h : K.In w) : K.In w.drew := h

theorem Fz.In.setCell {K : Fz} {w : World} (h : K.In w) (p : Addr) (u : Value) (hp : K p.block = none) : K.In (w.setCell p u) :=
  fun b o hk => ⟨(Below.heap_setCell w p u b (by rintro rfl; simp [hp] at hk)).trans (h.get hk), (h b o hk).2⟩

theorem Fz.Le.refl (n : Nat) (K : Fz) : K.Le n K := fun _ _ => rfl
theorem Fz.Le.trans {n m : Nat} {A B C : Fz} (h : A.Le n B) (k : B.Le m C) (hm : n ≤ m) : A.Le n C :=
  fun b hb => (k b (Nat.lt_of_lt_of_le hb hm)).trans (h b hb)
theorem Fz.Le.mono {n m : Nat} {A B : Fz} (h : A.Le n B) (hm : m ≤ n) : A.Le m B := fun b hb => h b (Nat.lt_of_lt_of_le hb hm)
theorem Fz.Le.keep {n : Nat} {A B : Fz} (h : A.Le n B) {w : World} (hA : A.In w) (hn : w.heap.size ≤ n) {b : Nat} {o : Obj} (hk : A b = some o) : B b = some o :=
  (h b (Nat.lt_of_lt_of_le (hA.lt hk) hn)).trans hk

theorem Fz.In.add {K : Fz} {w : World} (h : K.In w) {b : Nat} {cs : Array Value} {t : TypeId} {fr : Nat × Nat} (hb : w.heap[b]? = some (.cells cs t fr)) : (K.add b (.cells cs t fr)).In w := by
  intro c o' hc
  unfold Fz.add at hc
  split at hc
  · next e => subst e; cases hc; exact ⟨hb, trivial⟩
  · exact h c o' hc
theorem Fz.Le.add {n : Nat} {A B : Fz} (h : A.Le n B) (b : Nat) (o : Obj) (hb : n ≤ b) : A.Le n (B.add b o) := by
  intro c hc
  unfold Fz.add
  rw [if_neg (by omega)]
  exact h c hc
theorem Fz.add_self (K : Fz) (b : Nat) (o : Obj) : (K.add b o) b = some o := by simp [Fz.add]
theorem Fz.add_other (K : Fz) {b c : Nat} (o : Obj) (h : c ≠ b) : (K.add b o) c = K c := by simp [Fz.add, h]

theorem Fz.In.cell {K : Fz} {w : World} (h : K.In w) {b : Nat} {cs : Array Value} {T : TypeId} {fr : Nat × Nat} (hk : K b = some (.cells cs T fr)) (i : Nat) :
    w.cell? ⟨b, i, none⟩ = cs[i]? := cell_of_row w b i cs T fr (h.get hk)

theorem _root_.Go.RowKit.Below.drewN' {B : Nat} {a w : World} (h : Below B a w) (n : Nat) : Below B a (w.drewN n) := ⟨h.os, h.tape, h.output, h.size, h.block⟩
theorem Fz.In.drewN {K : Fz} {w : World} (h : K.In w) (n : Nat) : K.In (w.drewN n) := h

/-- The call returns a value; what it made is frozen; nothing older has turned. -/
def Ret (K : Fz) (w : World) (R : Fz → Value → Prop) (e : Ending) (w' : World) : Prop :=
  ∃ v K', e = .returned v ∧ K'.In w' ∧ K.Le w.heap.size K' ∧ Below w.heap.size w w' ∧ R K' v

theorem Ret.mono {K : Fz} {w : World} {R R' : Fz → Value → Prop} (hR : ∀ K' v, K.Le w.heap.size K' → R K' v → R' K' v) {e : Ending} {w' : World} (h : Ret K w R e w') : Ret K w R' e w' := by
  obtain ⟨v, K', he, hi, hl, hb, hr⟩ := h
  exact ⟨v, K', he, hi, hl, hb, hR _ _ hl hr⟩
end Go.Proofs.Ytdaagmhkhfcmdaa
