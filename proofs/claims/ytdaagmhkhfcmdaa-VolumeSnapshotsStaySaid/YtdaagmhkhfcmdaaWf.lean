/- Well-formed trees: no program in sight. -/
import Derived.Test.YtdaagmhkhfcmdaaPt
namespace Go.Proofs.Ytdaagmhkhfcmdaa
open Go

/-- A well-formed tree of a level. -/
def PT.Wf : Nat → PT → Prop
  | _, .nil => True
  | 0, .node _ h k c => h ≠ 0 ∧ h < 65536 ∧ (∀ i, k i = .nil) ∧ ∀ i, i < 16 → h.testBit i = false → c i = 0
  | L + 1, .node _ h k c => h ≠ 0 ∧ h < 65536 ∧ (∀ i, c i = 0) ∧ (∀ i, i < 16 → (h.testBit i = false ↔ k i = .nil)) ∧ ∀ i, (k i).Wf L

/-- Two blocks lie in one range of level L. -/
def same (L b c : Nat) : Prop := ∀ l, l ≤ L → sl l b = sl l c

theorem get_nil (L b : Nat) : PT.nil.get L b = (0, false) := by cases L <;> rfl
theorem get_node0 (t : PT) (b : Nat) : t.get 0 b = (t.chunk (sl 0 b), t.has.testBit (sl 0 b)) := by
  cases t with
  | nil => simp [PT.get, PT.chunk, PT.has]
  | node b' h k c => rfl
theorem get_nodeS (L : Nat) (t : PT) (b : Nat) : t.get (L + 1) b = (t.kid (sl (L + 1) b)).get L b := by
  cases t with
  | nil => rw [get_nil]; exact (get_nil L b).symm
  | node b' h k c => rfl

theorem PT.Wf.has0 {L : Nat} {t : PT} (h : t.Wf L) (hn : t ≠ .nil) : t.has ≠ 0 ∧ t.has < 65536 := by
  cases t with
  | nil => exact (hn rfl).elim
  | node b h' k c => cases L <;> exact ⟨h.1, h.2.1⟩
theorem PT.Wf.hasLt {L : Nat} {t : PT} (h : t.Wf L) : t.has < 65536 := by
  cases t with
  | nil => decide
  | node b h' k c => cases L <;> exact h.2.1

open Classical in
theorem get_set : ∀ (L n : Nat) (t t' : PT) (blk : Nat) (ch : Int), PT.Set L n t blk ch t' → ∀ b, t'.get L b = if same L b blk then (ch, true) else t.get L b
  | 0, n, t, t', blk, ch, ⟨g, _, e⟩, b => by
    subst e
    rw [get_node0]
    by_cases h : sl 0 b = sl 0 blk
    · have hs : same 0 b blk := fun l hl => by rw [show l = 0 from Nat.le_zero.1 hl]; exact h
      rw [if_pos hs]
      simp [PT.chunk, PT.has, h, upd, Nat.testBit_or, Nat.testBit_two_pow_self]
    · rw [if_neg (fun hs => h (hs 0 (Nat.le_refl _))), get_node0]
      simp only [PT.chunk, PT.has, upd, h, if_false, Nat.testBit_or, Nat.testBit_two_pow]
      have : decide (sl 0 blk = sl 0 b) = false := by simp; omega
      rw [this, Bool.or_false]
  | L + 1, n, t, t', blk, ch, ⟨g, k', _, hk, e⟩, b => by
    subst e
    rw [get_nodeS, get_nodeS]
    have ih := get_set L (g + 1) _ _ _ _ hk b
    by_cases h : sl (L + 1) b = sl (L + 1) blk
    · have e1 : (PT.node g (t.has ||| 2 ^ sl (L + 1) blk) (upd t.kid (sl (L + 1) blk) k') t.chunk).kid (sl (L + 1) b) = k' := by simp [PT.kid, upd, h]
      rw [e1, ih, h]
      have : same (L + 1) b blk ↔ same L b blk := by
        constructor
        · exact fun hs l hl => hs l (by omega)
        · intro hs l hl
          by_cases e : l = L + 1
          · subst e; exact h
          · exact hs l (by omega)
      by_cases hs : same L b blk
      · rw [if_pos hs, if_pos (this.2 hs)]
      · rw [if_neg hs, if_neg (fun x => hs (this.1 x))]
    · rw [if_neg (fun hs => h (hs _ (Nat.le_refl _)))]
      have e1 : (PT.node g (t.has ||| 2 ^ sl (L + 1) blk) (upd t.kid (sl (L + 1) blk) k') t.chunk).kid (sl (L + 1) b) = t.kid (sl (L + 1) b) := by simp [PT.kid, upd, h]
      rw [e1]

theorem or_ne {h i : Nat} : h ||| 2 ^ i ≠ 0 := by
  intro e
  have := congrArg (fun x => Nat.testBit x i) e
  simp [Nat.testBit_or, Nat.testBit_two_pow_self] at this
theorem or_lt16 {h i : Nat} (hh : h < 65536) (hi : i < 16) : h ||| 2 ^ i < 65536 := by
  have : (2 : Nat) ^ i < 2 ^ 16 := Nat.pow_lt_pow_right (by omega) hi
  exact Nat.or_lt_two_pow (n := 16) (by omega) this
theorem wf_set : ∀ (L n : Nat) (t t' : PT) (blk : Nat) (ch : Int), t.Wf L → PT.Set L n t blk ch t' → t'.Wf L ∧ t' ≠ .nil
  | 0, n, t, t', blk, ch, hw, ⟨g, _, e⟩ => by
    subst e
    refine ⟨⟨or_ne, or_lt16 hw.hasLt (sl_lt _ _), ?_, ?_⟩, by simp⟩
    · intro i
      cases t with
      | nil => rfl
      | node b h k c => exact hw.2.2.1 i
    · intro i hi hb
      rw [Nat.testBit_or, Nat.testBit_two_pow] at hb
      simp only [Bool.or_eq_false_iff, decide_eq_false_iff_not] at hb
      rw [upd_other _ _ (Ne.symm hb.2)]
      cases t with
      | nil => rfl
      | node b h k c => exact hw.2.2.2 i hi hb.1
  | L + 1, n, t, t', blk, ch, hw, ⟨g, k', _, hk, e⟩ => by
    subst e
    have hkw : (t.kid (sl (L + 1) blk)).Wf L := by
      cases t with
      | nil => exact (by cases L <;> trivial)
      | node b h k c => exact hw.2.2.2.2 _
    obtain ⟨h1, h2⟩ := wf_set L (g + 1) _ _ _ _ hkw hk
    refine ⟨⟨or_ne, or_lt16 hw.hasLt (sl_lt _ _), ?_, ?_, ?_⟩, by simp⟩
    · intro i
      cases t with
      | nil => rfl
      | node b h k c => exact hw.2.2.1 i
    · intro i hi
      rw [Nat.testBit_or, Nat.testBit_two_pow]
      by_cases e : i = sl (L + 1) blk
      · subst e
        rw [upd_self]
        simp [h2]
      · rw [upd_other _ _ e]
        have : decide (sl (L + 1) blk = i) = false := by simp; omega
        rw [this, Bool.or_false]
        cases t with
        | nil => simp [PT.has, PT.kid]
        | node b h k c => exact hw.2.2.2.1 i hi
    · intro i
      by_cases e : i = sl (L + 1) blk
      · subst e; rw [upd_self]; exact h1
      · rw [upd_other _ _ e]
        cases t with
        | nil => exact (by cases L <;> trivial)
        | node b h k c => exact hw.2.2.2.2 i
end Go.Proofs.Ytdaagmhkhfcmdaa
