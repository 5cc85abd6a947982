/- The blocks that two trees do not map alike: plain data. -/
import Derived.Test.YtpfdlpniijgakaaDoorTz
namespace Go.Proofs.YtpfdlpniijgakaaDoor
open Go Go.RowKit

def diffs : Nat → PT → PT → Nat → List Nat
  | 0, a, b, first => if a.ptr = b.ptr then [] else
      (List.range 16).flatMap fun i => if (a.has ||| b.has).testBit i then (if (a.has ^^^ b.has).testBit i || a.chunk i != b.chunk i then [first + i] else []) else []
  | L + 1, a, b, first => if a.ptr = b.ptr then [] else
      (List.range 16).flatMap fun i => if (a.has ||| b.has).testBit i then diffs L (a.kid i) (b.kid i) (first + i * 16 ^ (L + 1)) else []

def diffPart : Nat → PT → PT → Nat → Nat → List Nat
  | 0, a, b, first, i => if (a.has ^^^ b.has).testBit i || a.chunk i != b.chunk i then [first + i] else []
  | L + 1, a, b, first, i => diffs L (a.kid i) (b.kid i) (first + i * 16 ^ (L + 1))
def diffTo (L : Nat) (a b : PT) (first n : Nat) : List Nat := (List.range n).flatMap fun i => if (a.has ||| b.has).testBit i then diffPart L a b first i else []

theorem diffs_eq (L : Nat) (a b : PT) (first : Nat) (h : a.ptr ≠ b.ptr) : diffs L a b first = diffTo L a b first 16 := by
  cases L <;> simp [diffs, diffTo, diffPart, h]
theorem diffs_same (L : Nat) (a b : PT) (first : Nat) (h : a.ptr = b.ptr) : diffs L a b first = [] := by
  cases L <;> simp [diffs, h]
theorem diffTo_succ (L : Nat) (a b : PT) (first n : Nat) : diffTo L a b first (n + 1) = diffTo L a b first n ++ if (a.has ||| b.has).testBit n then diffPart L a b first n else [] := by
  simp [diffTo, List.range_succ]
theorem diffTo_skip (L : Nat) (a b : PT) (first n : Nat) : ∀ m, n ≤ m → (∀ j, n ≤ j → j < m → (a.has ||| b.has).testBit j = false) → diffTo L a b first m = diffTo L a b first n := by
  intro m
  induction m with
  | zero =>
    intro h _
    obtain rfl : n = 0 := by omega
    rfl
  | succ m ih =>
    intro h hj
    by_cases e : n = m + 1
    · rw [e]
    · rw [diffTo_succ, hj m (by omega) (by omega)]
      simpa using ih (by omega) (fun j h1 h2 => hj j h1 (by omega))
theorem diffTo_prefix (L : Nat) (a b : PT) (first n m : Nat) (h : n ≤ m) : ∃ r, diffTo L a b first m = diffTo L a b first n ++ r := by
  induction m with
  | zero =>
    obtain rfl : n = 0 := by omega
    exact ⟨[], by simp⟩
  | succ m ih =>
    by_cases e : n = m + 1
    · exact ⟨[], by rw [e]; simp⟩
    · obtain ⟨r, hr⟩ := ih (by omega)
      exact ⟨_, by rw [diffTo_succ, hr, List.append_assoc]⟩

/-- The bits of h from n on. -/
def Left (h n x : Nat) : Prop := ∀ j, x.testBit j = (decide (n ≤ j) && h.testBit j)
theorem Left.start (h : Nat) : Left h 0 h := fun j => by simp
theorem clear_low (i : Nat) : ∀ x : Nat, x.testBit i = true → (∀ j, j < i → x.testBit j = false) → ∀ j, (x &&& (x - 1)).testBit j = (x.testBit j && decide (j ≠ i)) := by
  induction i with
  | zero =>
    intro x h0 _ j
    obtain ⟨a, rfl⟩ : ∃ a, x = 2 * a + 1 := ⟨x / 2, by simp [Nat.testBit_zero] at h0; omega⟩
    rw [Nat.testBit_and, show 2 * a + 1 - 1 = 2 * a by omega]
    cases j with
    | zero => simp [Nat.testBit_zero]
    | succ j =>
      have e1 : (2 * a + 1) / 2 = a := by omega
      have e2 : 2 * a / 2 = a := by omega
      rw [Nat.testBit_succ, Nat.testBit_succ, e1, e2]; simp
  | succ i ih =>
    intro x h1 h2 j
    have hx := h2 0 (by omega)
    obtain ⟨a, rfl⟩ : ∃ a, x = 2 * a := ⟨x / 2, by simp [Nat.testBit_zero] at hx; omega⟩
    have e1 : 2 * a / 2 = a := by omega
    have ha : a ≠ 0 := by rintro rfl; simp at h1
    rw [show 2 * a - 1 = 2 * (a - 1) + 1 by omega, Nat.testBit_and]
    have e2 : (2 * (a - 1) + 1) / 2 = a - 1 := by omega
    rw [Nat.testBit_succ, e1] at h1
    cases j with
    | zero => simp [Nat.testBit_zero]
    | succ j =>
      have := ih a h1 (fun j hj => by have := h2 (j + 1) (by omega); rwa [Nat.testBit_succ, e1] at this) j
      rw [Nat.testBit_and] at this
      rw [Nat.testBit_succ, Nat.testBit_succ, e1, e2, this]
      simp
theorem Left.next {h n x i : Nat} (hl : Left h n x) (h1 : x.testBit i = true) (h2 : ∀ j, j < i → x.testBit j = false) : Left h (i + 1) (x &&& (x - 1)) ∧ n ≤ i ∧ h.testBit i = true ∧ ∀ j, n ≤ j → j < i → h.testBit j = false := by
  have hi := hl i
  rw [h1] at hi
  have hi' : n ≤ i ∧ h.testBit i = true := by simpa using hi.symm
  refine ⟨fun j => ?_, hi'.1, hi'.2, fun j hj hji => ?_⟩
  · rw [clear_low i x h1 h2 j, hl j]
    by_cases hji : j < i
    · have := hl j
      rw [h2 j hji] at this
      simp only [← this]
      simp [show ¬ (i + 1 ≤ j) by omega]
    · by_cases e : j = i
      · subst e
        simp [show ¬ (j + 1 ≤ j) by omega]
      · simp [show n ≤ j by omega, show i + 1 ≤ j by omega, e]
  · have := hl j
    rw [h2 j hji] at this
    simpa [hj] using this.symm
theorem Left.lt {h n x : Nat} (hl : Left h n x) (hh : h < 65536) : x < 65536 := by
  refine Nat.lt_pow_two_of_testBit (n := 16) x fun i hi => ?_
  rw [hl i, Nat.testBit_lt_two_pow (Nat.lt_of_lt_of_le hh (Nat.pow_le_pow_right (n := 2) (by omega) hi))]
  simp
theorem Left.zero {h n : Nat} (hl : Left h n 0) : ∀ j, n ≤ j → h.testBit j = false := fun j hj => by
  have := hl j
  simpa [hj] using this.symm
end Go.Proofs.YtpfdlpniijgakaaDoor
