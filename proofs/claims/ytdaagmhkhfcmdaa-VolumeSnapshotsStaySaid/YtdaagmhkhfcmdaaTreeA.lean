/- What the small functions of package tree compute: valid, slot, Len, Get. -/
import Derived.Test.YtdaagmhkhfcmdaaProg
import Derived.Deep.QuietTactic
import Derived.BigQuiet
import Derived.Test.YtdaagmhkhfcmdaaPt
namespace Go.Proofs.Ytdaagmhkhfcmdaa
open Go Go.RowKit
set_option maxHeartbeats 400000

theorem ret_int {k : IntKind} {a b : Int} (h : a = b) : Ending.returned (.int k a) = .returned (.int k b) := by rw [h]

theorem valid_ok (n : Int) (w : World) : Calls Try.prog 77 #[.int .i64 n] w fun e w' => e = .returned (.bool (decide (0 ≤ n ∧ n < 4096))) ∧ w = w' := by
  by_cases h0 : 0 ≤ n <;> by_cases h1 : n < 4096
  all_goals
    go_enter Try.func77, Try.ntmps77
    go_wp2
    all_goals go_ret
    all_goals simp [h0, h1]

theorem wraps_i63 (n : Int) (h₀ : 0 ≤ n) (h₁ : n < 2 ^ 63) : IntKind.i64.wrap n = n := by rw [IntKind.wrap_i64]; omega

theorem slot_ok (l b : Int) (hl0 : 0 ≤ l) (hl2 : l ≤ 2) (hb0 : 0 ≤ b) (hb : b < 4096) (w : World) :
    Calls Try.prog 99 #[.int .i64 l, .int .i64 b] w fun e w' => e = .returned (.int .i64 (sl l.toNat b.toNat : Nat)) ∧ w = w' := by
  go_enter Try.func99, Try.ntmps99
  go_wp2
  go_ret
  refine ⟨ret_int ?_, rfl⟩
  obtain ⟨n, rfl⟩ := Int.eq_ofNat_of_zero_le hl0
  obtain ⟨m, rfl⟩ := Int.eq_ofNat_of_zero_le hb0
  have hm : bits .and .i64 ((m : Int) / 2 ^ (4 * (n : Int)).toNat) (2 ^ 4 - 1) = ((m : Int) / 2 ^ (4 * (n : Int)).toNat) % 2 ^ 4 := by
    have h1 : (m : Int) / 2 ^ (4 * (n : Int)).toNat ≤ m := Int.ediv_le_self _ (by omega)
    exact bits_mask .i64 63 (by decide) wraps_i63 4 (by decide) _ (Int.ediv_nonneg (by omega) (Int.pow_nonneg (by omega))) (by omega)
  have e4 : (4 * (n : Int)).toNat = 4 * n := by omega
  rw [e4] at hm ⊢
  rw [show (15 : Int) = 2 ^ 4 - 1 by decide, hm]
  simp only [sl, Int.toNat_natCast]
  rw [show (16 : Nat) ^ n = 2 ^ (4 * n) by rw [Nat.pow_mul]]
  simp

theorem slot_at (l b : Int) (i : Nat) (hi : sl l.toNat b.toNat = i) (hl0 : 0 ≤ l) (hl2 : l ≤ 2) (hb0 : 0 ≤ b) (hb : b < 4096) (w : World) :
    Calls Try.prog 99 #[.int .i64 l, .int .i64 b] w fun e w' => e = .returned (.int .i64 (i : Nat)) ∧ w = w' := by
  subst hi; exact slot_ok l b hl0 hl2 hb0 hb w

theorem len_ok (a : Option Addr) (n : Int) (w : World) : Calls Try.prog 44 #[.agg #[.pointer a, .int .i64 n]] w fun e w' => e = .returned (.int .i64 n) ∧ Below w.heap.size w w' := by
  go_enter Try.func44, Try.ntmps44
  go_wp2
  all_goals go_ret
  exact ⟨rfl, (Below.refl _ _).alloc (Nat.le_refl _) _⟩

/-- The chunk as Go returns it, and whether the block is mapped. -/
def getV (r : Int × Bool) : Value := .tuple #[.int .i64 r.1, .bool r.2]

/-- What Get says of a block, any number. -/
def PT.look (t : PT) (blk : Int) : Int × Bool := if 0 ≤ blk ∧ blk < 4096 then t.get 2 blk.toNat else (0, false)

theorem bit_ne (h i : Nat) (hh : h < 65536) : (bits BinOp.and IntKind.u16 ((h : Int) / 2 ^ i) 1 != 0) = h.testBit i := by
  have e : ((h : Int) / 2 ^ i) = ((h / 2 ^ i : Nat) : Int) := by simp
  have h2 : h / 2 ^ i ≤ h := Nat.div_le_self _ _
  rw [e, show (1 : Int) = ((1 : Nat) : Int) by rfl, u16_and_nat _ _ (by omega) (by omega)]
  rw [Nat.testBit, Nat.shiftRight_eq_div_pow, Nat.and_comm]
  rw [Bool.eq_iff_iff]
  simp only [bne_iff_ne, ne_eq]
  constructor
  · intro h h'; apply h; rw [h']; rfl
  · intro h h'; apply h; exact_mod_cast h'

set_option maxRecDepth 100000 in
theorem get_ok (K : Fz) (t : PT) (n blk : Int) (w : World) (hK : K.In w) (ht : Tr 153 K t) :
    Calls Try.prog 76 #[.agg #[.pointer t.ptr, .int .i64 n], .int .i64 blk] w fun e w' =>
      e = .returned (getV (t.look blk)) ∧ Below w.heap.size w w' := by
  by_cases hv : 0 ≤ blk ∧ blk < 4096
  · obtain ⟨h0, h1⟩ := hv
    have hB : decide (0 ≤ blk ∧ blk < 4096) = true := by simp [h0, h1]
    have hL : t.look blk = t.get 2 blk.toNat := by simp [PT.look, h0, h1]
    rw [hL]
    clear hL
    go_enter Try.func76, Try.ntmps76
    go_wp2_with (go_at_call 77; refine (valid_ok _ _).mono ?_; rintro e w' ⟨rfl, rfl⟩)
    have hW := (Below.refl w.heap.size w).alloc (Nat.le_refl _) (.cells #[.pointer t.ptr, .int .i64 n] 86)
    revert hW
    generalize w.alloc (.cells #[.pointer t.ptr, .int .i64 n] 86) = W
    intro hW
    have hI := hK.below hW
    go_loop [6, 7, 8] (fun p l _ => ∃ (L : Nat) (s : PT), p = .pointer s.ptr ∧ l = .int .i64 L ∧ L ≤ 2 ∧ Tr 153 K s ∧ Hid (s.get L blk.toNat = t.get 2 blk.toNat)) (fun _ l _ => (intOf l).toNat)
    case atStart => exact ⟨2, t, rfl, rfl, by omega, ht, rfl⟩
    case round =>
      obtain ⟨L, s, rfl, rfl, hL, hs, hg⟩ := hrel
      cases s with
      | nil =>
        have hp : PT.nil.ptr = none := rfl
        go_wp2
        go_ret2
        refine ⟨?_, hW⟩
        rw [← hg.out]
        cases L <;> rfl
      | node b h k c =>
        obtain ⟨hb, hh, hk⟩ := hs
        have hp : (PT.node b h k c).ptr = some ⟨b, 0, none⟩ := rfl
        have hsl := sl_lt L blk.toNat
        obtain ⟨i, hi⟩ : ∃ i, sl L blk.toNat = i := ⟨_, rfl⟩
        rw [hi] at hsl
        have c0 := (hI.cell hb 0).trans (nodeCells_has h k c)
        have c1 := (hI.cell hb (1 + i)).trans (nodeCells_kid h k c i hsl)
        have c2 := (hI.cell hb (17 + i)).trans (nodeCells_chunk h k c i hsl)
        have hbit := bit_ne h i hh
        have Hi := Lib.hid hi
        clear hi
        by_cases hL0 : L = 0
        · subst hL0
          go_wp2_with (go_at_call 99; refine (slot_at _ _ i (by simpa using Hi.out) (by omega) (by omega) h0 h1 _).mono ?_; rintro e w' ⟨rfl, rfl⟩)
          go_quiet (fail)
          all_goals go_wp2
          go_ret2
          refine ⟨?_, hW.drewN' _⟩
          rw [← hg.out]
          show _ = Ending.returned (getV (c (sl 0 blk.toNat), h.testBit (sl 0 blk.toNat)))
          rw [Hi.out]
          rfl
        · obtain ⟨L, rfl⟩ : ∃ m, L = m + 1 := ⟨L - 1, by omega⟩
          go_wp2_with (go_at_call 99; refine (slot_at _ _ i (by simpa using Hi.out) (by omega) (by omega) h0 h1 _).mono ?_; rintro e w' ⟨rfl, rfl⟩)
          go_roundw
          case rel =>
            refine ⟨L, k i, rfl, by go_num, by omega, hk i, ?_⟩
            rw [← hg.out]
            show _ = (k (sl (L + 1) blk.toNat)).get L blk.toNat
            rw [Hi.out]
          case measure => simp [intOf]
  · have hB : decide (0 ≤ blk ∧ blk < 4096) = false := by simp; omega
    have hL : t.look blk = (0, false) := by simp [PT.look, hv]
    rw [hL]
    clear hL
    go_enter Try.func76, Try.ntmps76
    go_wp2_with (go_at_call 77; refine (valid_ok _ _).mono ?_; rintro e w' ⟨rfl, rfl⟩)
    go_ret2
    exact ⟨rfl, (Below.refl _ _).alloc (Nat.le_refl _) _⟩
end Go.Proofs.Ytdaagmhkhfcmdaa
