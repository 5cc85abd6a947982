/- The lowest bit, and what TrailingZeros16 answers. -/
import Derived.Test.YtpfdlpniijgakaaDoorTreeA
namespace Go.Proofs.YtpfdlpniijgakaaDoor
open Go Go.RowKit
set_option maxHeartbeats 400000

theorem low_bit (k : Nat) : ∀ x : Nat, x < 2 ^ k → x ≠ 0 → ∃ i, i < k ∧ x &&& (2 ^ k - x) = 2 ^ i ∧ x.testBit i = true ∧ ∀ j, j < i → x.testBit j = false := by
  induction k with
  | zero => intro x h h0; simp at h; omega
  | succ k ih =>
    intro x h h0
    rcases Nat.mod_two_eq_zero_or_one x with hx | hx
    · obtain ⟨a, rfl⟩ : ∃ a, x = 2 * a := ⟨x / 2, by omega⟩
      have h2 : a < 2 ^ k := by rw [Nat.pow_succ] at h; omega
      obtain ⟨i, hi, h3, h4, h5⟩ := ih a h2 (by omega)
      refine ⟨i + 1, by omega, ?_, ?_, ?_⟩
      · have e : 2 ^ (k + 1) - 2 * a = 2 * (2 ^ k - a) := by rw [Nat.pow_succ]; omega
        rw [e, Nat.pow_succ, ← h3]
        apply Nat.eq_of_testBit_eq
        intro j
        cases j with
        | zero => simp [Nat.testBit_zero]
        | succ j =>
          have e1 : 2 * a / 2 = a := by omega
          have e2 : 2 * (2 ^ k - a) / 2 = 2 ^ k - a := by omega
          have e3 : (a &&& 2 ^ k - a) * 2 / 2 = (a &&& 2 ^ k - a) := by omega
          rw [Nat.testBit_and, Nat.testBit_succ, Nat.testBit_succ, Nat.testBit_succ, e1, e2, e3, Nat.testBit_and]
      · simpa [Nat.testBit_succ] using h4
      · intro j hj
        cases j with
        | zero => simp [Nat.testBit_zero]
        | succ j => simpa [Nat.testBit_succ] using h5 j (by omega)
    · obtain ⟨a, rfl⟩ : ∃ a, x = 2 * a + 1 := ⟨x / 2, by omega⟩
      have h2 : a < 2 ^ k := by rw [Nat.pow_succ] at h; omega
      refine ⟨0, by omega, ?_, by simp [Nat.testBit_zero], fun j hj => by omega⟩
      have e : 2 ^ (k + 1) - (2 * a + 1) = 2 * (2 ^ k - (a + 1)) + 1 := by rw [Nat.pow_succ]; omega
      rw [e]
      apply Nat.eq_of_testBit_eq
      intro j
      cases j with
      | zero => simp [Nat.testBit_zero]
      | succ j =>
        have e1 : (2 * a + 1) / 2 = a := by omega
        have e2 : (2 * (2 ^ k - (a + 1)) + 1) / 2 = 2 ^ k - (a + 1) := by omega
        rw [Nat.testBit_and, Nat.testBit_succ, Nat.testBit_succ, e1, e2, Nat.testBit_two_pow_sub_succ h2]
        cases a.testBit j <;> simp [Nat.testBit_succ]

def tzTab : List Nat := [0, 1, 28, 2, 29, 14, 24, 3, 30, 22, 20, 15, 25, 17, 4, 8, 31, 27, 13, 23, 21, 19, 16, 7, 26, 12, 18, 6, 11, 5, 10, 9]
theorem tz_tab (i : Nat) (hi : i < 16) : (2 ^ i * 125613361 % 4294967296) / 134217728 < 32 ∧ tzTab[(2 ^ i * 125613361 % 4294967296) / 134217728]? = some i := by
  have : ∀ i, i < 16 → (2 ^ i * 125613361 % 4294967296) / 134217728 < 32 ∧ tzTab[(2 ^ i * 125613361 % 4294967296) / 134217728]? = some i := by decide
  exact this i hi

theorem pow_lt16 (i : Nat) (hi : i < 16) : 2 ^ i < 65536 := Nat.lt_of_lt_of_le (Nat.pow_lt_pow_right (by omega) hi) (by decide)

/-- The table of the library lies frozen. -/
def Tab (K : Fz) : Prop := ∃ T fr, K 0 = some (.cells (tzTab.map fun n : Nat => Value.int .u8 (n : Nat)).toArray T fr)

/-- The answer is the lowest bit. -/
def LowBit (x : Nat) (w : World) (e : Ending) (w' : World) : Prop := ∃ i : Nat, e = .returned (.int .i64 i) ∧ i < 16 ∧ x.testBit i = true ∧ (∀ j, j < i → x.testBit j = false) ∧ w = w'

theorem tz16_ok (K : Fz) (x : Nat) (w : World) (hK : K.In w) (ht : Tab K) (hx : x < 65536) (h0 : x ≠ 0) :
    Calls Tryd.prog 45 #[.int .u16 x] w (LowBit x w) := by
  obtain ⟨i, hi, h1, h2, h3⟩ := low_bit 16 x hx h0
  obtain ⟨T, fr, hk⟩ := ht
  obtain ⟨t1, t2⟩ := tz_tab i hi
  have hw : IntKind.u16.wrap (-(x : Int)) = ((65536 - x : Nat) : Int) := by rw [IntKind.wrap_u16]; omega
  have hcell : w.cell? ⟨0, (bits BinOp.and IntKind.u16 (x : Int) (IntKind.u16.wrap (-(x : Int))) % 4294967296 * 125613361 % 4294967296 / 134217728).toNat, none⟩ = some (.int .u8 (i : Nat)) := by
    rw [hw, u16_and_nat _ _ hx (by omega), hK.cell hk]
    have e0 : x &&& 65536 - x = 2 ^ i := h1
    rw [e0]
    have hp := pow_lt16 i hi
    have e : (((2 ^ i : Nat) : Int) % 4294967296 * 125613361 % 4294967296 / 134217728).toNat = (2 ^ i * 125613361 % 4294967296) / 134217728 := by
      generalize (2 ^ i : Nat) = n at hp
      have e1 : ((n : Nat) : Int) % 4294967296 = ((n : Nat) : Int) := by clear e0; omega
      have e2 : ((n : Nat) : Int) * 125613361 % 4294967296 / 134217728 = ((n * 125613361 % 4294967296 / 134217728 : Nat) : Int) := by simp
      rw [e1, e2, Int.toNat_natCast]
    rw [e]
    simp only [List.getElem?_toArray, List.getElem?_map, t2, Option.map_some]
  clear hw t1 t2 hk
  have hx0 : ((x : Int) == 0) = false := by rw [beq_eq_false_iff_ne]; omega
  have h4 := Lib.hid h2
  have h5 := Lib.hid h3
  clear h2 h3
  go_enter Tryd.func45, Tryd.ntmps45
  go_wp2
  go_ret
  exact ⟨i, rfl, hi, h4.out, h5.out, rfl⟩
end Go.Proofs.YtpfdlpniijgakaaDoor
