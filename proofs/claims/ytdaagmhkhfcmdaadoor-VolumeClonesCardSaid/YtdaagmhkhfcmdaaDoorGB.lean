/- What the small functions of package tree compute: valid, slot, Len, Get. -/
import Derived.Test.YtdaagmhkhfcmdaaDoorProg
import Derived.Deep.QuietTactic
import Derived.BigQuiet
import Derived.Test.YtdaagmhkhfcmdaaDoorGA
import Derived.Deep.RegionHeld3
namespace Go.Proofs.YtdaagmhkhfcmdaaDoor
open Go Go.RowKit
set_option maxHeartbeats 400000

theorem ret_int {k : IntKind} {a b : Int} (h : a = b) : Ending.returned (.int k a) = .returned (.int k b) := by rw [h]

theorem valid_ok (n : Int) (w : World) : Calls Tryd.prog 63 #[.int .i64 n] w fun e w' => e = .returned (.bool (decide (0 ≤ n ∧ n < 4096))) ∧ w = w' := by
  by_cases h0 : 0 ≤ n <;> by_cases h1 : n < 4096
  all_goals
    go_enter Tryd.func63, Tryd.ntmps63
    go_wp2
    all_goals go_ret
    all_goals simp [h0, h1]

theorem wraps_i63 (n : Int) (h₀ : 0 ≤ n) (h₁ : n < 2 ^ 63) : IntKind.i64.wrap n = n := by rw [IntKind.wrap_i64]; omega

theorem slot_ok (l b : Int) (hl0 : 0 ≤ l) (hl2 : l ≤ 2) (hb0 : 0 ≤ b) (hb : b < 4096) (w : World) :
    Calls Tryd.prog 71 #[.int .i64 l, .int .i64 b] w fun e w' => e = .returned (.int .i64 (sl l.toNat b.toNat : Nat)) ∧ w = w' := by
  go_enter Tryd.func71, Tryd.ntmps71
  go_wp2
  go_ret
  refine ⟨ret_int ?_, rfl⟩
  obtain ⟨n, rfl⟩ := Int.eq_ofNat_of_zero_le hl0
  obtain ⟨m, rfl⟩ := Int.eq_ofNat_of_zero_le hb0
  have hm : bits .and .i64 ((m : Int) / 2 ^ (4 * (n : Int)).toNat) (2 ^ 4 - 1) = ((m : Int) / 2 ^ (4 * (n : Int)).toNat) % 2 ^ 4 := by
    have h1 : (m : Int) / 2 ^ (4 * (n : Int)).toNat ≤ m := Int.ediv_le_self _ (by omega)
    exact bits_mask .i64 63 (by decide) wraps_i63 4 (by decide) _ (Int.ediv_nonneg (by omega) (Int.pow_nonneg (by omega))) (by omega)
  have e4 : (4 * (n : Int)).toNat = 4 * n := by omega
  rw [e4] at hm ⊢
  rw [show (15 : Int) = 2 ^ 4 - 1 by decide, hm]
  simp only [sl, Int.toNat_natCast]
  rw [show (16 : Nat) ^ n = 2 ^ (4 * n) by rw [Nat.pow_mul]]
  simp

theorem slot_at (l b : Int) (i : Nat) (hi : sl l.toNat b.toNat = i) (hl0 : 0 ≤ l) (hl2 : l ≤ 2) (hb0 : 0 ≤ b) (hb : b < 4096) (w : World) :
    Calls Tryd.prog 71 #[.int .i64 l, .int .i64 b] w fun e w' => e = .returned (.int .i64 (i : Nat)) ∧ w = w' := by
  subst hi; exact slot_ok l b hl0 hl2 hb0 hb w

theorem len_ok (a : Option Addr) (n : Int) (w : World) : Calls Tryd.prog 54 #[.agg #[.pointer a, .int .i64 n]] w fun e w' => e = .returned (.int .i64 n) ∧ Below w.heap.size w w' := by
  go_enter Tryd.func54, Tryd.ntmps54
  go_wp2
  all_goals go_ret
  exact ⟨rfl, (Below.refl _ _).alloc (Nat.le_refl _) _⟩

/-- The chunk as Go returns it, and whether the block is mapped. -/
def getV (r : Int × Bool) : Value := .tuple #[.int .i64 r.1, .bool r.2]

/-- What Get says of a block, any number. -/
def PT.look (t : PT) (blk : Int) : Int × Bool := if 0 ≤ blk ∧ blk < 4096 then t.get 2 blk.toNat else (0, false)

theorem bit_ne (h i : Nat) (hh : h < 65536) : (bits BinOp.and IntKind.u16 ((h : Int) / 2 ^ i) 1 != 0) = h.testBit i := by
  have e : ((h : Int) / 2 ^ i) = ((h / 2 ^ i : Nat) : Int) := by simp
  have h2 : h / 2 ^ i ≤ h := Nat.div_le_self _ _
  rw [e, show (1 : Int) = ((1 : Nat) : Int) by rfl, u16_and_nat _ _ (by omega) (by omega)]
  rw [Nat.testBit, Nat.shiftRight_eq_div_pow, Nat.and_comm]
  rw [Bool.eq_iff_iff]
  simp only [bne_iff_ne, ne_eq]
  constructor
  · intro h h'; apply h; rw [h']; rfl
  · intro h h'; apply h; exact_mod_cast h'

set_option maxRecDepth 100000 in
theorem get_ok (K : Fz) (t : PT) (n blk : Int) (w : World) (hK : K.In w) (ht : Tr 122 K t) :
    Calls Tryd.prog 56 #[.agg #[.pointer t.ptr, .int .i64 n], .int .i64 blk] w fun e w' =>
      e = .returned (getV (t.look blk)) ∧ Below w.heap.size w w' := by
  by_cases hv : 0 ≤ blk ∧ blk < 4096
  · obtain ⟨h0, h1⟩ := hv
    have hB : decide (0 ≤ blk ∧ blk < 4096) = true := by simp [h0, h1]
    have hL : t.look blk = t.get 2 blk.toNat := by simp [PT.look, h0, h1]
    rw [hL]
    clear hL
    go_enter Tryd.func56, Tryd.ntmps56
    go_wp2_with (go_at_call 63; refine (valid_ok _ _).mono ?_; rintro e w' ⟨rfl, rfl⟩)
    have hW := (Below.refl w.heap.size w).alloc (Nat.le_refl _) (.cells #[.pointer t.ptr, .int .i64 n] 60)
    revert hW
    generalize w.alloc (.cells #[.pointer t.ptr, .int .i64 n] 60) = W
    intro hW
    have hI := hK.below hW
    go_loop [6, 7, 8] (fun p l _ => ∃ (L : Nat) (s : PT), p = .pointer s.ptr ∧ l = .int .i64 L ∧ L ≤ 2 ∧ Tr 122 K s ∧ Hid (s.get L blk.toNat = t.get 2 blk.toNat)) (fun _ l _ => (intOf l).toNat)
    case atStart => exact ⟨2, t, rfl, rfl, by omega, ht, rfl⟩
    case round =>
      obtain ⟨L, s, rfl, rfl, hL, hs, hg⟩ := hrel
      cases s with
      | nil =>
        have hp : PT.nil.ptr = none := rfl
        go_wp2
        go_ret2
        refine ⟨?_, hW⟩
        rw [← hg.out]
        cases L <;> rfl
      | node b h k c =>
        obtain ⟨hb, hh, hk⟩ := hs
        have hp : (PT.node b h k c).ptr = some ⟨b, 0, none⟩ := rfl
        have hsl := sl_lt L blk.toNat
        obtain ⟨i, hi⟩ : ∃ i, sl L blk.toNat = i := ⟨_, rfl⟩
        rw [hi] at hsl
        have c0 := (hI.cell hb 0).trans (nodeCells_has h k c)
        have c1 := (hI.cell hb (1 + i)).trans (nodeCells_kid h k c i hsl)
        have c2 := (hI.cell hb (17 + i)).trans (nodeCells_chunk h k c i hsl)
        have hbit := bit_ne h i hh
        have Hi := Lib.hid hi
        clear hi
        by_cases hL0 : L = 0
        · subst hL0
          go_wp2_with (go_at_call 71; refine (slot_at _ _ i (by simpa using Hi.out) (by omega) (by omega) h0 h1 _).mono ?_; rintro e w' ⟨rfl, rfl⟩)
          go_quiet (fail)
          all_goals go_wp2
          go_ret2
          refine ⟨?_, hW.drewN' _⟩
          rw [← hg.out]
          show _ = Ending.returned (getV (c (sl 0 blk.toNat), h.testBit (sl 0 blk.toNat)))
          rw [Hi.out]
          rfl
        · obtain ⟨L, rfl⟩ : ∃ m, L = m + 1 := ⟨L - 1, by omega⟩
          go_wp2_with (go_at_call 71; refine (slot_at _ _ i (by simpa using Hi.out) (by omega) (by omega) h0 h1 _).mono ?_; rintro e w' ⟨rfl, rfl⟩)
          go_roundw
          case rel =>
            refine ⟨L, k i, rfl, by go_num, by omega, hk i, ?_⟩
            rw [← hg.out]
            show _ = (k (sl (L + 1) blk.toNat)).get L blk.toNat
            rw [Hi.out]
          case measure => simp [intOf]
  · have hB : decide (0 ≤ blk ∧ blk < 4096) = false := by simp; omega
    have hL : t.look blk = (0, false) := by simp [PT.look, hv]
    rw [hL]
    clear hL
    go_enter Tryd.func56, Tryd.ntmps56
    go_wp2_with (go_at_call 63; refine (valid_ok _ _).mono ?_; rintro e w' ⟨rfl, rfl⟩)
    go_ret2
    exact ⟨rfl, (Below.refl _ _).alloc (Nat.le_refl _) _⟩
end Go.Proofs.YtdaagmhkhfcmdaaDoor
/- What node.set does. -/
namespace Go.Proofs.YtdaagmhkhfcmdaaDoor
open Go Go.RowKit
set_option maxHeartbeats 400000

abbrev nodeZ : Array Value := nodeCells 0 (fun _ => .nil) (fun _ => 0)
theorem build_node (w : World) : (Instr.build 122 #[]).run Tryd.prog w = .ok (.agg nodeZ) w := by rw [nodeZ, nodeCells_zero]; kernel_rfl
theorem zero_node (w : World) : (zeroValue 122).run Tryd.prog w = .ok (.agg nodeZ) w := by rw [nodeZ, nodeCells_zero]; kernel_rfl
theorem size_node : (Tryd.prog.info? 122).map (·.size) = some 33 := by kernel_rfl

theorem pow_lt (i : Nat) (hi : i < 16) : 2 ^ i < 65536 := Nat.lt_of_lt_of_le (Nat.pow_lt_pow_right (by omega) hi) (by decide)
theorem or_lt (h i : Nat) (hh : h < 65536) (hi : i < 16) : h ||| 2 ^ i < 65536 := Nat.or_lt_two_pow (n := 16) hh (pow_lt i hi)

theorem set_bits (h i : Nat) (hh : h < 65536) (hi : i < 16) : bits BinOp.or IntKind.u16 (h : Int) (IntKind.u16.wrap (2 ^ i)) = ((h ||| 2 ^ i : Nat) : Int) := by
  have h2 := pow_lt i hi
  have e : IntKind.u16.wrap (2 ^ i) = ((2 ^ i : Nat) : Int) := by
    have e1 : ((2 : Int) ^ i) = ((2 ^ i : Nat) : Int) := by simp
    rw [e1, IntKind.wrap_u16]
    generalize (2 ^ i : Nat) = n at h2
    omega
  rw [e, u16_or_nat _ _ hh h2]

theorem mk_node {T : Nat} {K Kc : Fz} {w W' : World} {g h : Nat} {k : Nat → PT} {c : Nat → Int} (hI : Kc.In W') (hL : K.Le w.heap.size Kc) (hgn : Kc g = none) (hg : w.heap.size ≤ g)
    (hc : W'.heap[g]? = some (.cells (nodeCells h k c) T (0, 0))) (hh : h < 65536) (hk : ∀ i, Tr T Kc (k i)) :
    (Kc.add g (.cells (nodeCells h k c) T (0, 0))).In W' ∧ K.Le w.heap.size (Kc.add g (.cells (nodeCells h k c) T (0, 0))) ∧ Tr T (Kc.add g (.cells (nodeCells h k c) T (0, 0))) (.node g h k c) :=
  ⟨hI.add hc, hL.add _ _ hg, Fz.add_self _ _ _, hh, fun i => (hk i).add hgn⟩

theorem nil_kids {T : Nat} {K : Fz} (i : Nat) : Tr T K ((fun _ => PT.nil) i) := trivial

set_option maxRecDepth 100000 in
theorem set_ok (L : Nat) : L ≤ 2 → ∀ (l blk ch : Int) (K : Fz) (t : PT) (w : World), l = L → K.In w → Tr 122 K t → 0 ≤ blk → blk < 4096 →
    Calls Tryd.prog 64 #[.pointer t.ptr, .int .i64 l, .int .i64 blk, .int .i64 ch] w
      (Ret K w fun K' v => ∃ t', v = .pointer t'.ptr ∧ Tr 122 K' t' ∧ t'.isNil = false ∧ PT.Set L w.heap.size t blk.toNat ch t') := by
  induction L with
  | zero =>
    rintro hL2 l blk ch K t w hl hK ht hb0 hb1
    obtain rfl : l = 0 := by simpa using hl
    clear hl
    have hsl := sl_lt 0 blk.toNat
    obtain ⟨i, hi⟩ : ∃ i, sl 0 blk.toNat = i := ⟨_, rfl⟩
    rw [hi] at hsl
    have Hi := Lib.hid hi
    clear hi
    have hgn := hK.out (Nat.le_refl _)
    rcases t with _ | ⟨b, h, k, c⟩
    · -- no node
      have hp : PT.nil.ptr = none := rfl
      go_enter Tryd.func64, Tryd.ntmps64
      go_wp2_with (first
        | ((with_reducible refine gate_build (T := 122) (x := #[]) ?_); refine wpList_build0 rfl rfl build_node ?_)
        | ((with_reducible refine gate_alloc (T := 122) ?_); refine wpList_alloc rfl rfl zero_node (cs := nodeZ) rfl ?_; intro W hn; have hc : W.heap[w.heap.size]? = some (.cells nodeZ 122 (0, 0)) := hn.here; have hB := hn.below (Below.refl _ _) (Nat.le_refl _); have hI := hn.inn hK; clear hn)
        | ((with_reducible refine gate_store (T := 122) ?_); refine wpList_storeAll rfl rfl rfl rfl (cs := nodeZ) rfl hc rfl (by rw [size_node, nodeCells_size]) (nodeCells_one _ _ _) ?_; intro W3 hu; replace hc : W3.heap[w.heap.size]? = some (.cells nodeZ 122 (0, 0)) := hu.here; replace hB := hu.below hB (Nat.le_refl _); replace hI := hu.inn hI hgn; clear hu)
        | (go_at_call 71; refine (slot_at _ _ i (by simpa using Hi.out) (by omega) (by omega) hb0 hb1 _).mono ?_; rintro e w' ⟨rfl, rfl⟩))
      have c0 := (cell_of_row W3 w.heap.size 0 _ _ _ hc).trans (nodeCells_has _ _ _)
      have f0 := frozen_of_row W3 w.heap.size 0 _ _ hc
      go_region
      have hu := Upd.drew (Upd.setCell (i := 0) (Value.int IntKind.u16 (bits BinOp.or IntKind.u16 0 (IntKind.u16.wrap (2 ^ i)))) hc)
      revert hu
      generalize (W3.setCell { block := w.heap.size, off := 0 } (Value.int IntKind.u16 (bits BinOp.or IntKind.u16 0 (IntKind.u16.wrap (2 ^ i))))).drew = W4
      intro hu
      clear c0 f0
      have hc3 := hu.here
      have hbits : bits BinOp.or IntKind.u16 0 (IntKind.u16.wrap (2 ^ i)) = ((0 ||| 2 ^ i : Nat) : Int) := set_bits 0 i (by omega) hsl
      rw [hbits, nodeCells_setHas] at hc3
      clear hc hbits
      replace hB := hu.below hB (Nat.le_refl _)
      replace hI := hu.inn hI hgn
      clear hu
      go_wp2_with (first
        | ((with_reducible refine gate_store (T := 3) ?_); refine wpList_storeCell rfl rfl rfl (v := .int .i64 ch) rfl hc3 (by rw [nodeCells_size]; omega) (by kernel_rfl) rfl rfl ?_; intro W5 hu; replace hc3 := hu.here; replace hB := hu.below hB (Nat.le_refl _); replace hI := hu.inn hI hgn; clear hu)
        | fail)
      go_ret
      rw [nodeCells_setChunk _ _ _ _ hsl] at hc3
      obtain ⟨r1, r2, r3⟩ := mk_node (K := K) hI (Fz.Le.refl _ _) hgn (Nat.le_refl _) hc3 (or_lt 0 i (by omega) hsl) (nil_kids)
      exact ⟨_, _, rfl, r1, r2, hB, _, rfl, r3, rfl, _, Nat.le_refl _, by rw [Hi.out]; rfl⟩
    · -- a node
      have hp : (PT.node b h k c).ptr = some ⟨b, 0, none⟩ := rfl
      obtain ⟨hb, hh, hk⟩ := ht
      go_enter Tryd.func64, Tryd.ntmps64
      go_wp2_with (first
        | ((with_reducible refine gate_build (T := 122) (x := #[]) ?_); refine wpList_build0 rfl rfl build_node ?_)
        | ((with_reducible refine gate_alloc (T := 122) ?_); refine wpList_alloc rfl rfl zero_node (cs := nodeZ) rfl ?_; intro W hn; have hc : W.heap[w.heap.size]? = some (.cells nodeZ 122 (0, 0)) := hn.here; have hB := hn.below (Below.refl _ _) (Nat.le_refl _); have hI := hn.inn hK; clear hn)
        | ((with_reducible refine gate_load (T := 122) ?_); refine wpList_load_row rfl 122 _ rfl b rfl 122 _ _ _ (hI.get hb) Tryd.underlying122 rfl (by rw [size_node, nodeCells_size]) ?_)
        | ((with_reducible refine gate_store (T := 122) (x := .tmp 9) (y := .tmp 11) ?_); refine wpList_storeAll rfl rfl rfl rfl (cs := nodeZ) rfl hc rfl (by rw [size_node, nodeCells_size]) (nodeCells_one _ _ _) ?_; intro W2 hu; replace hc : W2.heap[w.heap.size]? = some (.cells nodeZ 122 (0, 0)) := hu.here; replace hB := hu.below hB (Nat.le_refl _); replace hI := hu.inn hI hgn; clear hu)
        | ((with_reducible refine gate_store (T := 122) (x := .tmp 9) (y := .tmp 16) ?_); refine wpList_storeAll rfl rfl rfl rfl (cs := nodeCells h k c) rfl hc (by rw [nodeCells_size, nodeCells_size]) (by rw [size_node, nodeCells_size]) (nodeCells_one _ _ _) ?_; intro W3 hu; replace hc : W3.heap[w.heap.size]? = some (.cells (nodeCells h k c) 122 (0, 0)) := hu.here; replace hB := hu.below hB (Nat.le_refl _); replace hI := hu.inn hI hgn; clear hu)
        | (go_at_call 71; refine (slot_at _ _ i (by simpa using Hi.out) (by omega) (by omega) hb0 hb1 _).mono ?_; rintro e w' ⟨rfl, rfl⟩))
      have c0 := (cell_of_row W3 w.heap.size 0 _ _ _ hc).trans (nodeCells_has _ _ _)
      have f0 := frozen_of_row W3 w.heap.size 0 _ _ hc
      go_region
      have hu := Upd.drew (Upd.setCell (i := 0) (Value.int IntKind.u16 (bits BinOp.or IntKind.u16 (h : Int) (IntKind.u16.wrap (2 ^ i)))) hc)
      revert hu
      generalize (W3.setCell { block := w.heap.size, off := 0 } (Value.int IntKind.u16 (bits BinOp.or IntKind.u16 (h : Int) (IntKind.u16.wrap (2 ^ i))))).drew = W4
      intro hu
      clear c0 f0
      have hc3 := hu.here
      have hbits : bits BinOp.or IntKind.u16 (h : Int) (IntKind.u16.wrap (2 ^ i)) = ((h ||| 2 ^ i : Nat) : Int) := set_bits h i (by omega) hsl
      rw [hbits, nodeCells_setHas] at hc3
      clear hc hbits
      replace hB := hu.below hB (Nat.le_refl _)
      replace hI := hu.inn hI hgn
      clear hu
      go_wp2_with (first
        | ((with_reducible refine gate_store (T := 3) ?_); refine wpList_storeCell rfl rfl rfl (v := .int .i64 ch) rfl hc3 (by rw [nodeCells_size]; omega) (by kernel_rfl) rfl rfl ?_; intro W5 hu; replace hc3 := hu.here; replace hB := hu.below hB (Nat.le_refl _); replace hI := hu.inn hI hgn; clear hu)
        | fail)
      go_ret
      rw [nodeCells_setChunk _ _ _ _ hsl] at hc3
      obtain ⟨r1, r2, r3⟩ := mk_node (K := K) hI (Fz.Le.refl _ _) hgn (Nat.le_refl _) hc3 (or_lt h i (by omega) hsl) (hk)
      exact ⟨_, _, rfl, r1, r2, hB, _, rfl, r3, rfl, _, Nat.le_refl _, by rw [Hi.out]; rfl⟩
  | succ L ih =>
    rintro hL2 l blk ch K t w hl hK ht hb0 hb1
    have hl1 : l - 1 = L := by omega
    have hlt : 0 < l := by omega
    have hle : l ≤ 2 := by omega
    have hlb : (l == 0) = false := by rw [beq_eq_false_iff_ne]; omega
    have hll : l.toNat = L + 1 := by omega
    have Hl1 := Lib.hid hl1
    have Hll := Lib.hid hll
    clear hl hl1 hll
    have hsl := sl_lt (L + 1) blk.toNat
    obtain ⟨i, hi⟩ : ∃ i, sl (L + 1) blk.toNat = i := ⟨_, rfl⟩
    rw [hi] at hsl
    have Hi := Lib.hid hi
    clear hi
    have hgn := hK.out (Nat.le_refl _)
    have IH := Lib.hid ih
    clear ih
    rcases t with _ | ⟨b, h, k, c⟩
    · -- no node
      have hp : PT.nil.ptr = none := rfl
      go_enter Tryd.func64, Tryd.ntmps64
      go_wp2_with (first
        | ((with_reducible refine gate_build (T := 122) (x := #[]) ?_); refine wpList_build0 rfl rfl build_node ?_)
        | ((with_reducible refine gate_alloc (T := 122) ?_); refine wpList_alloc rfl rfl zero_node (cs := nodeZ) rfl ?_; intro W hn; have hc : W.heap[w.heap.size]? = some (.cells nodeZ 122 (0, 0)) := hn.here; have hB := hn.below (Below.refl _ _) (Nat.le_refl _); have hI := hn.inn hK; clear hn)
        | ((with_reducible refine gate_store (T := 122) ?_); refine wpList_storeAll rfl rfl rfl rfl (cs := nodeZ) rfl hc rfl (by rw [size_node, nodeCells_size]) (nodeCells_one _ _ _) ?_; intro W3 hu; replace hc : W3.heap[w.heap.size]? = some (.cells nodeZ 122 (0, 0)) := hu.here; replace hB := hu.below hB (Nat.le_refl _); replace hI := hu.inn hI hgn; clear hu)
        | (go_at_call 71; refine (slot_at _ _ i (by rw [Hll.out]; exact Hi.out) (by omega) (by omega) hb0 hb1 _).mono ?_; rintro e w' ⟨rfl, rfl⟩))
      have c0 := (cell_of_row W3 w.heap.size 0 _ _ _ hc).trans (nodeCells_has _ _ _)
      have f0 := frozen_of_row W3 w.heap.size 0 _ _ hc
      go_region
      have hu := Upd.drew (Upd.setCell (i := 0) (Value.int IntKind.u16 (bits BinOp.or IntKind.u16 0 (IntKind.u16.wrap (2 ^ i)))) hc)
      revert hu
      generalize (W3.setCell { block := w.heap.size, off := 0 } (Value.int IntKind.u16 (bits BinOp.or IntKind.u16 0 (IntKind.u16.wrap (2 ^ i))))).drew = W4
      intro hu
      clear c0 f0
      have hc3 := hu.here
      have hbits : bits BinOp.or IntKind.u16 0 (IntKind.u16.wrap (2 ^ i)) = ((0 ||| 2 ^ i : Nat) : Int) := set_bits 0 i (by omega) hsl
      rw [hbits, nodeCells_setHas] at hc3
      clear hc hbits
      replace hB := hu.below hB (Nat.le_refl _)
      replace hI := hu.inn hI hgn
      clear hu
      have c1 := (cell_of_row W4 w.heap.size (1 + i) _ _ _ hc3).trans (nodeCells_kid _ _ _ i hsl)
      go_wp2_with fail
      clear c1
      refine (IH.out (by omega) _ _ _ K _ _ Hl1.out hI (nil_kids i) hb0 hb1).mono ?_
      rintro e W5 ⟨v, K', rfl, hI', hle', hB', t', rfl, ht', hn', hs'⟩
      have hs1 : w.heap.size < W4.heap.size := lt_of_at hc3
      have hc4 := below_at hB' hc3 hs1
      replace hB := hB.trans (hB'.mono (Nat.le_of_lt hs1))
      have hgn' : K' w.heap.size = none := (hle' _ hs1).trans hgn
      clear hB'
      go_wp2_with (first
        | ((with_reducible refine gate_store (T := 58) ?_); refine wpList_storeCell rfl rfl rfl (v := .pointer t'.ptr) rfl hc4 (by rw [nodeCells_size]; omega) (by kernel_rfl) rfl rfl ?_; intro W6 hu; replace hc4 := hu.here; replace hB := hu.below hB (Nat.le_refl _); replace hI' := hu.inn hI' hgn'; clear hu)
        | fail)
      go_ret
      rw [nodeCells_setKid _ _ _ _ hsl] at hc4
      obtain ⟨r1, r2, r3⟩ := mk_node (K := K) hI' (hle'.mono (Nat.le_of_lt hs1)) hgn' (Nat.le_refl _) hc4 (or_lt 0 i (by omega) hsl) (fun j => by
        by_cases e : j = i
        · subst e; rw [upd_self]; exact ht'
        · rw [upd_other _ _ e]; exact nil_kids j)
      refine ⟨_, _, rfl, r1, r2, hB, _, rfl, r3, rfl, _, t', Nat.le_refl _, ?_, by rw [Hi.out]; rfl⟩
      rw [Hi.out]
      exact PT.Set.mono hs1 hs'
    · -- a node
      have hp : (PT.node b h k c).ptr = some ⟨b, 0, none⟩ := rfl
      obtain ⟨hb, hh, hk⟩ := ht
      go_enter Tryd.func64, Tryd.ntmps64
      go_wp2_with (first
        | ((with_reducible refine gate_build (T := 122) (x := #[]) ?_); refine wpList_build0 rfl rfl build_node ?_)
        | ((with_reducible refine gate_alloc (T := 122) ?_); refine wpList_alloc rfl rfl zero_node (cs := nodeZ) rfl ?_; intro W hn; have hc : W.heap[w.heap.size]? = some (.cells nodeZ 122 (0, 0)) := hn.here; have hB := hn.below (Below.refl _ _) (Nat.le_refl _); have hI := hn.inn hK; clear hn)
        | ((with_reducible refine gate_load (T := 122) ?_); refine wpList_load_row rfl 122 _ rfl b rfl 122 _ _ _ (hI.get hb) Tryd.underlying122 rfl (by rw [size_node, nodeCells_size]) ?_)
        | ((with_reducible refine gate_store (T := 122) (x := .tmp 9) (y := .tmp 11) ?_); refine wpList_storeAll rfl rfl rfl rfl (cs := nodeZ) rfl hc rfl (by rw [size_node, nodeCells_size]) (nodeCells_one _ _ _) ?_; intro W2 hu; replace hc : W2.heap[w.heap.size]? = some (.cells nodeZ 122 (0, 0)) := hu.here; replace hB := hu.below hB (Nat.le_refl _); replace hI := hu.inn hI hgn; clear hu)
        | ((with_reducible refine gate_store (T := 122) (x := .tmp 9) (y := .tmp 16) ?_); refine wpList_storeAll rfl rfl rfl rfl (cs := nodeCells h k c) rfl hc (by rw [nodeCells_size, nodeCells_size]) (by rw [size_node, nodeCells_size]) (nodeCells_one _ _ _) ?_; intro W3 hu; replace hc : W3.heap[w.heap.size]? = some (.cells (nodeCells h k c) 122 (0, 0)) := hu.here; replace hB := hu.below hB (Nat.le_refl _); replace hI := hu.inn hI hgn; clear hu)
        | (go_at_call 71; refine (slot_at _ _ i (by rw [Hll.out]; exact Hi.out) (by omega) (by omega) hb0 hb1 _).mono ?_; rintro e w' ⟨rfl, rfl⟩))
      have c0 := (cell_of_row W3 w.heap.size 0 _ _ _ hc).trans (nodeCells_has _ _ _)
      have f0 := frozen_of_row W3 w.heap.size 0 _ _ hc
      go_region
      have hu := Upd.drew (Upd.setCell (i := 0) (Value.int IntKind.u16 (bits BinOp.or IntKind.u16 (h : Int) (IntKind.u16.wrap (2 ^ i)))) hc)
      revert hu
      generalize (W3.setCell { block := w.heap.size, off := 0 } (Value.int IntKind.u16 (bits BinOp.or IntKind.u16 (h : Int) (IntKind.u16.wrap (2 ^ i))))).drew = W4
      intro hu
      clear c0 f0
      have hc3 := hu.here
      have hbits : bits BinOp.or IntKind.u16 (h : Int) (IntKind.u16.wrap (2 ^ i)) = ((h ||| 2 ^ i : Nat) : Int) := set_bits h i (by omega) hsl
      rw [hbits, nodeCells_setHas] at hc3
      clear hc hbits
      replace hB := hu.below hB (Nat.le_refl _)
      replace hI := hu.inn hI hgn
      clear hu
      have c1 := (cell_of_row W4 w.heap.size (1 + i) _ _ _ hc3).trans (nodeCells_kid _ _ _ i hsl)
      go_wp2_with fail
      clear c1
      refine (IH.out (by omega) _ _ _ K _ _ Hl1.out hI (hk i) hb0 hb1).mono ?_
      rintro e W5 ⟨v, K', rfl, hI', hle', hB', t', rfl, ht', hn', hs'⟩
      have hs1 : w.heap.size < W4.heap.size := lt_of_at hc3
      have hc4 := below_at hB' hc3 hs1
      replace hB := hB.trans (hB'.mono (Nat.le_of_lt hs1))
      have hgn' : K' w.heap.size = none := (hle' _ hs1).trans hgn
      clear hB'
      go_wp2_with (first
        | ((with_reducible refine gate_store (T := 58) ?_); refine wpList_storeCell rfl rfl rfl (v := .pointer t'.ptr) rfl hc4 (by rw [nodeCells_size]; omega) (by kernel_rfl) rfl rfl ?_; intro W6 hu; replace hc4 := hu.here; replace hB := hu.below hB (Nat.le_refl _); replace hI' := hu.inn hI' hgn'; clear hu)
        | fail)
      go_ret
      rw [nodeCells_setKid _ _ _ _ hsl] at hc4
      obtain ⟨r1, r2, r3⟩ := mk_node (K := K) hI' (hle'.mono (Nat.le_of_lt hs1)) hgn' (Nat.le_refl _) hc4 (or_lt h i (by omega) hsl) (fun j => by
        by_cases e : j = i
        · subst e; rw [upd_self]; exact ht'
        · rw [upd_other _ _ e]; exact (hk j).le hle' hI (Nat.le_refl _))
      refine ⟨_, _, rfl, r1, r2, hB, _, rfl, r3, rfl, _, t', Nat.le_refl _, ?_, by rw [Hi.out]; rfl⟩
      rw [Hi.out]
      exact PT.Set.mono hs1 hs'
end Go.Proofs.YtdaagmhkhfcmdaaDoor
/- What node.clear does. -/
namespace Go.Proofs.YtdaagmhkhfcmdaaDoor
open Go Go.RowKit
set_option maxHeartbeats 400000

theorem unbit_lt (h i : Nat) : unbit h i < 65536 := Nat.lt_of_le_of_lt (Nat.le_trans Nat.and_le_right (Nat.sub_le _ _)) (by decide)
theorem clr_bits (h i : Nat) (hh : h < 65536) (hi : i < 16) : bits BinOp.andNot IntKind.u16 (h : Int) (IntKind.u16.wrap (2 ^ i)) = ((unbit h i : Nat) : Int) := by
  have h2 := pow_lt i hi
  have e : IntKind.u16.wrap (2 ^ i) = ((2 ^ i : Nat) : Int) := by
    have e1 : ((2 : Int) ^ i) = ((2 ^ i : Nat) : Int) := by simp
    rw [e1, IntKind.wrap_u16]
    generalize (2 ^ i : Nat) = n at h2
    omega
  rw [e, u16_andNot_nat _ _ hh h2]
  rfl

set_option maxRecDepth 100000 in
theorem clear_ok (L : Nat) : L ≤ 2 → ∀ (l blk : Int) (K : Fz) (t : PT) (w : World), l = L → K.In w → Tr 122 K t → 0 ≤ blk → blk < 4096 → PT.Way L t blk.toNat →
    Calls Tryd.prog 65 #[.pointer t.ptr, .int .i64 l, .int .i64 blk] w
      (Ret K w fun K' v => ∃ t', v = .pointer t'.ptr ∧ Tr 122 K' t' ∧ PT.Clr L w.heap.size t blk.toNat t') := by
  induction L with
  | zero =>
    rintro hL2 l blk K t w hl hK ht hb0 hb1 hw
    obtain rfl : l = 0 := by simpa using hl
    clear hl
    rcases t with _ | ⟨b, h, k, c⟩
    · exact (hw rfl).elim
    clear hw
    have hsl := sl_lt 0 blk.toNat
    obtain ⟨i, hi⟩ : ∃ i, sl 0 blk.toNat = i := ⟨_, rfl⟩
    rw [hi] at hsl
    have Hi := Lib.hid hi
    clear hi
    have hgn := hK.out (Nat.le_refl _)
    have hp : (PT.node b h k c).ptr = some ⟨b, 0, none⟩ := rfl
    obtain ⟨hb, hh, hk⟩ := ht
    go_enter Tryd.func65, Tryd.ntmps65
    go_wp2_with (first
      | ((with_reducible refine gate_load (T := 122) ?_); refine wpList_load_row rfl 122 _ rfl b rfl 122 _ _ _ (hK.get hb) Tryd.underlying122 rfl (by rw [size_node, nodeCells_size]) ?_)
      | ((with_reducible refine gate_alloc (T := 122) ?_); refine wpList_alloc rfl rfl zero_node (cs := nodeZ) rfl ?_; intro W hn; have hc : W.heap[w.heap.size]? = some (.cells nodeZ 122 (0, 0)) := hn.here; have hB := hn.below (Below.refl _ _) (Nat.le_refl _); have hI := hn.inn hK; clear hn)
      | ((with_reducible refine gate_store (T := 122) ?_); refine wpList_storeAll rfl rfl rfl rfl (cs := nodeCells h k c) rfl hc (by rw [nodeCells_size, nodeCells_size]) (by rw [size_node, nodeCells_size]) (nodeCells_one _ _ _) ?_; intro W3 hu; replace hc : W3.heap[w.heap.size]? = some (.cells (nodeCells h k c) 122 (0, 0)) := hu.here; replace hB := hu.below hB (Nat.le_refl _); replace hI := hu.inn hI hgn; clear hu)
      | (go_at_call 71; refine (slot_at _ _ i (by simpa using Hi.out) (by omega) (by omega) hb0 hb1 _).mono ?_; rintro e w' ⟨rfl, rfl⟩)
      | ((with_reducible refine gate_store (T := 3) ?_); refine wpList_storeCell rfl rfl rfl (v := .int .i64 0) rfl hc (by rw [nodeCells_size]; omega) (by kernel_rfl) rfl rfl ?_; intro W5 hu; replace hc := hu.here; rw [nodeCells_setChunk _ _ _ _ hsl] at hc; replace hB := hu.below hB (Nat.le_refl _); replace hI := hu.inn hI hgn; clear hu))
    have c0 := (cell_of_row W5 w.heap.size 0 _ _ _ hc).trans (nodeCells_has _ _ _)
    have f0 := frozen_of_row W5 w.heap.size 0 _ _ hc
    go_region
    have hu := Upd.drew (Upd.setCell (i := 0) (Value.int IntKind.u16 (bits BinOp.andNot IntKind.u16 (h : Int) (IntKind.u16.wrap (2 ^ i)))) hc)
    revert hu
    generalize (W5.setCell { block := w.heap.size, off := 0 } (Value.int IntKind.u16 (bits BinOp.andNot IntKind.u16 (h : Int) (IntKind.u16.wrap (2 ^ i))))).drew = W6
    intro hu
    clear c0 f0
    have hc3 := hu.here
    rw [clr_bits h i hh hsl, nodeCells_setHas] at hc3
    clear hc
    replace hB := hu.below hB (Nat.le_refl _)
    replace hI := hu.inn hI hgn
    clear hu
    have c6 := (cell_of_row W6 w.heap.size 0 _ _ _ hc3).trans (nodeCells_has _ _ _)
    by_cases hz : unbit h i = 0
    all_goals have hzb : (((unbit h i : Nat) : Int) == 0) = decide (unbit h i = 0) := by rw [Bool.eq_iff_iff]; simp
    all_goals first | rw [decide_eq_true hz] at hzb | rw [decide_eq_false hz] at hzb
    · go_wp2_with fail
      go_ret
      exact ⟨_, _, rfl, hI, Fz.Le.refl _ _, hB, .nil, rfl, trivial, _, Nat.le_refl _, by rw [Hi.out]; exact (if_pos hz).symm⟩
    · go_wp2_with fail
      go_ret
      obtain ⟨r1, r2, r3⟩ := mk_node (K := K) hI (Fz.Le.refl _ _) hgn (Nat.le_refl _) hc3 (unbit_lt h i) hk
      exact ⟨_, _, rfl, r1, r2, hB, _, rfl, r3, _, Nat.le_refl _, by rw [Hi.out]; exact (if_neg hz).symm⟩
  | succ L ih =>
    rintro hL2 l blk K t w hl hK ht hb0 hb1 hw
    have hl1 : l - 1 = L := by omega
    have hlt : 0 < l := by omega
    have hle : l ≤ 2 := by omega
    have hlb : (l == 0) = false := by rw [beq_eq_false_iff_ne]; omega
    have hll : l.toNat = L + 1 := by omega
    have Hl1 := Lib.hid hl1
    have Hll := Lib.hid hll
    clear hl hl1 hll
    have IH := Lib.hid ih
    clear ih
    rcases t with _ | ⟨b, h, k, c⟩
    · exact (hw.1 rfl).elim
    have HW := Lib.hid hw.2
    clear hw
    have hsl := sl_lt (L + 1) blk.toNat
    obtain ⟨i, hi⟩ : ∃ i, sl (L + 1) blk.toNat = i := ⟨_, rfl⟩
    rw [hi] at hsl
    have Hi := Lib.hid hi
    clear hi
    have hgn := hK.out (Nat.le_refl _)
    have hp : (PT.node b h k c).ptr = some ⟨b, 0, none⟩ := rfl
    obtain ⟨hb, hh, hk⟩ := ht
    go_enter Tryd.func65, Tryd.ntmps65
    go_wp2_with (first
      | ((with_reducible refine gate_load (T := 122) ?_); refine wpList_load_row rfl 122 _ rfl b rfl 122 _ _ _ (hK.get hb) Tryd.underlying122 rfl (by rw [size_node, nodeCells_size]) ?_)
      | ((with_reducible refine gate_alloc (T := 122) ?_); refine wpList_alloc rfl rfl zero_node (cs := nodeZ) rfl ?_; intro W hn; have hc : W.heap[w.heap.size]? = some (.cells nodeZ 122 (0, 0)) := hn.here; have hB := hn.below (Below.refl _ _) (Nat.le_refl _); have hI := hn.inn hK; clear hn)
      | ((with_reducible refine gate_store (T := 122) ?_); refine wpList_storeAll rfl rfl rfl rfl (cs := nodeCells h k c) rfl hc (by rw [nodeCells_size, nodeCells_size]) (by rw [size_node, nodeCells_size]) (nodeCells_one _ _ _) ?_; intro W3 hu; replace hc : W3.heap[w.heap.size]? = some (.cells (nodeCells h k c) 122 (0, 0)) := hu.here; replace hB := hu.below hB (Nat.le_refl _); replace hI := hu.inn hI hgn; clear hu; have c1 := (cell_of_row W3 w.heap.size (1 + i) _ _ _ hc).trans (nodeCells_kid _ _ _ i hsl))
      | (go_at_call 71; refine (slot_at _ _ i (by rw [Hll.out]; exact Hi.out) (by omega) (by omega) hb0 hb1 _).mono ?_; rintro e w' ⟨rfl, rfl⟩)
      | fail)
    have hs1 : w.heap.size < W3.heap.size := lt_of_at hc
    refine (IH.out (by omega) _ _ K _ _ Hl1.out hI (hk i) hb0 hb1 (by have := HW.out; rw [Hi.out] at this; exact this)).mono ?_
    rintro e W4 ⟨v, K', rfl, hI', hle', hB', t', rfl, ht', hs'⟩
    replace hc := below_at hB' hc hs1
    replace hB := hB.trans (hB'.mono (Nat.le_of_lt hs1))
    have hgn' : K' w.heap.size = none := (hle' _ hs1).trans hgn
    have hkk : ∀ j, Tr 122 K' (k j) := fun j => (hk j).le hle' hI (Nat.le_refl _)
    clear hB'
    have hlk := hle'.mono (Nat.le_of_lt hs1)
    rcases t' with _ | ⟨b', h', k', c'⟩
    · have hp' : PT.nil.ptr = none := rfl
      go_wp2_with (first
        | ((with_reducible refine gate_store (T := 58) ?_); refine wpList_storeCell rfl rfl rfl (v := .pointer PT.nil.ptr) rfl hc (by rw [nodeCells_size]; omega) (by kernel_rfl) rfl rfl ?_; intro W5 hu; replace hc := hu.here; rw [nodeCells_setKid _ _ _ _ hsl] at hc; replace hB := hu.below hB (Nat.le_refl _); replace hI' := hu.inn hI' hgn'; clear hu; have c5 := (cell_of_row W5 w.heap.size (1 + i) _ _ _ hc).trans (nodeCells_kid _ _ _ i hsl); rw [upd_self] at c5)
        | fail)
      clear c5
      have c0 := (cell_of_row W5 w.heap.size 0 _ _ _ hc).trans (nodeCells_has _ _ _)
      have f0 := frozen_of_row W5 w.heap.size 0 _ _ hc
      go_region
      have hu := Upd.drew (Upd.setCell (i := 0) (Value.int IntKind.u16 (bits BinOp.andNot IntKind.u16 (h : Int) (IntKind.u16.wrap (2 ^ i)))) hc)
      revert hu
      generalize (W5.setCell { block := w.heap.size, off := 0 } (Value.int IntKind.u16 (bits BinOp.andNot IntKind.u16 (h : Int) (IntKind.u16.wrap (2 ^ i))))).drew = W6
      intro hu
      clear c0 f0
      have hc3 := hu.here
      rw [clr_bits h i hh hsl, nodeCells_setHas] at hc3
      clear hc
      replace hB := hu.below hB (Nat.le_refl _)
      replace hI' := hu.inn hI' hgn'
      clear hu
      have c6 := (cell_of_row W6 w.heap.size 0 _ _ _ hc3).trans (nodeCells_has _ _ _)
      by_cases hz : unbit h i = 0
      all_goals have hzb : (((unbit h i : Nat) : Int) == 0) = decide (unbit h i = 0) := by rw [Bool.eq_iff_iff]; simp
      all_goals first | rw [decide_eq_true hz] at hzb | rw [decide_eq_false hz] at hzb
      · go_wp2_with fail
        go_ret
        refine ⟨_, _, rfl, hI', hlk, hB, .nil, rfl, trivial, _, _, Nat.le_refl _, PT.Clr.mono hs1 (by rw [Hi.out]; exact hs'), ?_⟩
        rw [Hi.out]
        simp only [PT.isNil, Bool.true_eq_false, if_false]
        exact (if_pos hz).symm
      · go_wp2_with fail
        go_ret
        obtain ⟨r1, r2, r3⟩ := mk_node (K := K) hI' hlk hgn' (Nat.le_refl _) hc3 (unbit_lt h i) (fun j => by
          by_cases e : j = i
          · subst e; rw [upd_self]; trivial
          · rw [upd_other _ _ e]; exact hkk j)
        refine ⟨_, _, rfl, r1, r2, hB, _, rfl, r3, _, _, Nat.le_refl _, PT.Clr.mono hs1 (by rw [Hi.out]; exact hs'), ?_⟩
        rw [Hi.out]
        simp only [PT.isNil, Bool.true_eq_false, if_false]
        exact (if_neg hz).symm
    · have hp' : (PT.node b' h' k' c').ptr = some ⟨b', 0, none⟩ := rfl
      go_wp2_with (first
        | ((with_reducible refine gate_store (T := 58) ?_); refine wpList_storeCell rfl rfl rfl (v := .pointer (PT.node b' h' k' c').ptr) rfl hc (by rw [nodeCells_size]; omega) (by kernel_rfl) rfl rfl ?_; intro W5 hu; replace hc := hu.here; rw [nodeCells_setKid _ _ _ _ hsl] at hc; replace hB := hu.below hB (Nat.le_refl _); replace hI' := hu.inn hI' hgn'; clear hu; have c5 := (cell_of_row W5 w.heap.size (1 + i) _ _ _ hc).trans (nodeCells_kid _ _ _ i hsl); rw [upd_self] at c5)
        | fail)
      go_ret
      obtain ⟨r1, r2, r3⟩ := mk_node (K := K) hI' hlk hgn' (Nat.le_refl _) hc hh (fun j => by
        by_cases e : j = i
        · subst e; rw [upd_self]; exact ht'
        · rw [upd_other _ _ e]; exact hkk j)
      refine ⟨_, _, rfl, r1, r2, hB, _, rfl, r3, _, _, Nat.le_refl _, PT.Clr.mono hs1 (by rw [Hi.out]; exact hs'), ?_⟩
      rw [Hi.out]
      simp only [PT.isNil, if_true]
      rfl
end Go.Proofs.YtdaagmhkhfcmdaaDoor
/- What Tree.Set and Tree.Clear do. -/
namespace Go.Proofs.YtdaagmhkhfcmdaaDoor
open Go Go.RowKit
set_option maxHeartbeats 400000

/-- A tree as Go has it: its root and its length. -/
def treeV (t : PT) (n : Int) : Value := .agg #[.pointer t.ptr, .int .i64 n]

/-- (t', n') is what Set makes of (t, n). -/
def SetT (base : Nat) (t : PT) (n blk ch : Int) (t' : PT) (n' : Int) : Prop :=
  if ¬ (0 ≤ blk ∧ blk < 4096) ∨ t.look blk = (ch, true) then t' = t ∧ n' = n
  else t'.isNil = false ∧ PT.Set 2 base t blk.toNat ch t' ∧ n' = if (t.look blk).2 then n else n + 1

/-- (t', n') is what Clear makes of (t, n). -/
def ClrT (base : Nat) (t : PT) (n blk : Int) (t' : PT) (n' : Int) : Prop :=
  if (t.look blk).2 then PT.Clr 2 base t blk.toNat t' ∧ n' = n - 1 else t' = t ∧ n' = n

theorem zero_Tree (w : World) : (zeroValue 60).run Tryd.prog w = .ok (.agg #[.pointer none, .int .i64 0]) w := by kernel_rfl
theorem size_Tree : (Tryd.prog.info? 60).map (·.size) = some 2 := by kernel_rfl

theorem get_at (K : Fz) (t : PT) (n blk : Int) (r : Int × Bool) (w : World) (hr : t.look blk = r) (hK : K.In w) (ht : Tr 122 K t) :
    Calls Tryd.prog 56 #[.agg #[.pointer t.ptr, .int .i64 n], .int .i64 blk] w fun e w' =>
      e = .returned (.tuple #[.int .i64 r.1, .bool r.2]) ∧ Below w.heap.size w w' := by
  subst hr; exact get_ok K t n blk w hK ht

theorem ret_cell2 {fn : Func} {R : Ending → World → Prop} {P : Program} {tmps : Array Value} {w : World} {p : Tmp} {T t : TypeId} {g : Nat} {cs : Array Value} {d : TypeDesc}
    (h : fn.results = #[.cell p T]) (hp : tmps.getD p undef = .pointer (some ⟨g, 0, none⟩)) (hg : w.heap[g]? = some (.cells cs t (0, 0)))
    (hu : P.underlying T = some d) (hd : (match d with | .struct _ | .array _ _ => true | _ => false) = true) (hi : (P.info? T).map (·.size) = some cs.size)
    (hR : R (.returned (.agg cs)) w) : bodyPost P fn R .ret { tmps := tmps, defers := [] } w :=
  bodyPost_ret (results_cell_row h tmps w g t cs (0, 0) d hp hg hu hd hi) rfl hR

set_option maxRecDepth 100000 in
theorem Set_ok (K : Fz) (t : PT) (n blk ch : Int) (w : World) (hK : K.In w) (ht : Tr 122 K t) (hn0 : -1000000 ≤ n) (hn1 : n ≤ 1000000) :
    Calls Tryd.prog 41 #[treeV t n, .int .i64 blk, .int .i64 ch] w
      (Ret K w fun K' v => ∃ t' n', v = treeV t' n' ∧ Tr 122 K' t' ∧ SetT w.heap.size t n blk ch t' n') := by
  unfold treeV
  obtain ⟨x, hx⟩ : ∃ x, t.look blk = x := ⟨_, rfl⟩
  obtain ⟨old, is⟩ := x
  have Hx := Lib.hid hx
  clear hx
  have s := St.start hK
  by_cases hv : 0 ≤ blk ∧ blk < 4096
  · obtain ⟨h0, h1⟩ := hv
    have hB0 : decide (0 ≤ blk ∧ blk < 4096) = true := by simp [h0, h1]
    by_cases hsame : is = true ∧ old = ch
    · obtain ⟨rfl, rfl⟩ := hsame
      go_enter Tryd.func41, Tryd.ntmps41
      go_wp2_with (first
        | ((with_reducible refine gate_box (T := 60) ?_); refine wpList_boxG rfl rfl rfl (cs := #[.pointer t.ptr, .int .i64 n]) rfl ?_; intro g1 W1 e hn; have o1 := Own.made s e hn; replace s := s.new hn; clear e hn)
        | ((with_reducible refine gate_alloc (T := 60) ?_); refine wpList_allocG rfl rfl zero_Tree (cs := #[.pointer none, .int .i64 0]) rfl ?_; intro g2 W2 e hn; have n1_2 := Lib.hid (o1.ne e); have o2 := Own.made s e hn; replace s := s.new hn; replace o1 := o1.new hn; clear e hn)
        | ((with_reducible refine gate_load (T := 60) (x := .tmp 3) ?_); refine wpList_load_row rfl 60 _ rfl _ rfl 60 _ _ _ o1.at_ Tryd.underlying60 rfl (by rw [size_Tree]; rfl) ?_)
        | (go_at_call 56; refine (get_at _ _ _ _ (_, _) _ Hx.out s.inn ht).mono ?_; rintro e W ⟨rfl, hb⟩; replace o1 := o1.quiet hb; replace o2 := o2.quiet hb; replace s := s.quiet hb; clear hb)
        | (go_at_call 63; refine (valid_ok _ _).mono ?_; rintro e w' ⟨rfl, rfl⟩)
        | ((with_reducible refine gate_load (T := 3) (x := .tmp 29) ?_); refine wpList_loadCell rfl rfl rfl Tryd.underlying3 rfl o1.at_ rfl ?_)
        | ((with_reducible refine gate_load (T := 58) (x := .tmp 33) ?_); refine wpList_loadCell rfl rfl rfl Tryd.underlying58 rfl o1.at_ rfl ?_)
        | ((with_reducible refine gate_store (T := 60) (x := .tmp 6) ?_); refine wpList_storeAll rfl rfl rfl rfl (cs := #[.pointer t.ptr, .int .i64 n]) rfl o2.at_ rfl (by rw [size_Tree]; rfl) (by simp [Value.oneCell']) ?_; intro W hu; replace s := s.upd o2 hu; replace o1 := o1.other hu n1_2.out; replace o2 := o2.upd hu; clear hu)
        | fail)
      refine ret_cell2 rfl rfl o2.at_ Tryd.underlying60 rfl (by rw [size_Tree]; rfl) ?_
      exact s.ret ⟨t, n, rfl, ht, by unfold SetT; rw [if_pos (.inr Hx.out)]; exact ⟨rfl, rfl⟩⟩
    · have hnot : ¬ (¬ (0 ≤ blk ∧ blk < 4096) ∨ t.look blk = (ch, true)) := by
        rw [Hx.out]
        rintro (h | h)
        · exact h ⟨h0, h1⟩
        · injection h with e1 e2; exact hsame ⟨e2, e1⟩
      have Hnot := Lib.hid hnot
      clear hnot
      cases is with
      | false =>
        clear hsame
        go_enter Tryd.func41, Tryd.ntmps41
        go_wp2_with (first
          | ((with_reducible refine gate_box (T := 60) ?_); refine wpList_boxG rfl rfl rfl (cs := #[.pointer t.ptr, .int .i64 n]) rfl ?_; intro g1 W1 e hn; have o1 := Own.made s e hn; replace s := s.new hn; clear e hn)
          | ((with_reducible refine gate_alloc (T := 60) ?_); refine wpList_allocG rfl rfl zero_Tree (cs := #[.pointer none, .int .i64 0]) rfl ?_; intro g2 W2 e hn; have n1_2 := Lib.hid (o1.ne e); have o2 := Own.made s e hn; replace s := s.new hn; replace o1 := o1.new hn; clear e hn)
          | ((with_reducible refine gate_load (T := 60) (x := .tmp 3) ?_); refine wpList_load_row rfl 60 _ rfl _ rfl 60 _ _ _ o1.at_ Tryd.underlying60 rfl (by rw [size_Tree]; rfl) ?_)
          | (go_at_call 56; refine (get_at _ _ _ _ (_, _) _ Hx.out s.inn ht).mono ?_; rintro e W ⟨rfl, hb⟩; replace o1 := o1.quiet hb; replace o2 := o2.quiet hb; replace s := s.quiet hb; clear hb)
          | (go_at_call 63; refine (valid_ok _ _).mono ?_; rintro e w' ⟨rfl, rfl⟩)
          | ((with_reducible refine gate_load (T := 3) (x := .tmp 29) ?_); refine wpList_loadCell rfl rfl rfl Tryd.underlying3 rfl o1.at_ rfl ?_)
          | ((with_reducible refine gate_load (T := 58) (x := .tmp 33) ?_); refine wpList_loadCell rfl rfl rfl Tryd.underlying58 rfl o1.at_ rfl ?_)
          | ((with_reducible refine gate_store (T := 3) (x := .tmp 32) ?_); refine wpList_storeCell rfl rfl rfl (v := .int .i64 (n + 1)) rfl o1.at_ (by simp) (by kernel_rfl) rfl rfl ?_; intro W hu; replace s := s.upd o1 hu; replace o2 := o2.other hu (Ne.symm n1_2.out); replace o1 := o1.upd hu; clear hu)
          | (go_at_call 64; have s1 := Lib.hid s.size; refine (set_ok 2 (by omega) _ _ _ K t _ rfl s.inn ht h0 h1).mono ?_; rintro e W ⟨v, K', rfl, hi, hl, hb, t', rfl, ht', hnil, hset⟩; replace o1 := o1.call hl hb; replace o2 := o2.call hl hb; replace s := s.call hi hl hb; clear hi hl hb)
          | ((with_reducible refine gate_store (T := 58) (x := .tmp 38) ?_); refine wpList_storeCell rfl rfl rfl (v := .pointer t'.ptr) rfl o1.at_ (by simp) (by kernel_rfl) rfl rfl ?_; intro W hu; replace s := s.upd o1 hu; replace o2 := o2.other hu (Ne.symm n1_2.out); replace o1 := o1.upd hu; clear hu)
          | ((with_reducible refine gate_load (T := 60) (x := .tmp 3) ?_); refine wpList_load_row rfl 60 _ rfl _ rfl 60 _ _ _ o1.at_ Tryd.underlying60 rfl (by rw [size_Tree]; rfl) ?_)
          | ((with_reducible refine gate_store (T := 60) (x := .tmp 6) (y := .tmp 39) ?_); refine wpList_storeAll rfl rfl rfl rfl (cs := #[.pointer t'.ptr, .int .i64 (n + 1)]) rfl o2.at_ rfl (by rw [size_Tree]; rfl) (by simp [Value.oneCell']) ?_; intro W hu; replace s := s.upd o2 hu; replace o1 := o1.other hu n1_2.out; replace o2 := o2.upd hu; clear hu)
          | fail)
        refine ret_cell2 rfl rfl o2.at_ Tryd.underlying60 rfl (by rw [size_Tree]; rfl) ?_
        refine s.ret ⟨t', n + 1, rfl, ht', ?_⟩
        unfold SetT
        rw [if_neg Hnot.out, Hx.out]
        exact ⟨hnil, hset.mono s1.out, rfl⟩
      | true =>
        have hne : (old == ch) = false := by rw [beq_eq_false_iff_ne]; exact fun h => hsame ⟨rfl, h⟩
        clear hsame
        go_enter Tryd.func41, Tryd.ntmps41
        go_wp2_with (first
          | ((with_reducible refine gate_box (T := 60) ?_); refine wpList_boxG rfl rfl rfl (cs := #[.pointer t.ptr, .int .i64 n]) rfl ?_; intro g1 W1 e hn; have o1 := Own.made s e hn; replace s := s.new hn; clear e hn)
          | ((with_reducible refine gate_alloc (T := 60) ?_); refine wpList_allocG rfl rfl zero_Tree (cs := #[.pointer none, .int .i64 0]) rfl ?_; intro g2 W2 e hn; have n1_2 := Lib.hid (o1.ne e); have o2 := Own.made s e hn; replace s := s.new hn; replace o1 := o1.new hn; clear e hn)
          | ((with_reducible refine gate_load (T := 60) (x := .tmp 3) ?_); refine wpList_load_row rfl 60 _ rfl _ rfl 60 _ _ _ o1.at_ Tryd.underlying60 rfl (by rw [size_Tree]; rfl) ?_)
          | (go_at_call 56; refine (get_at _ _ _ _ (_, _) _ Hx.out s.inn ht).mono ?_; rintro e W ⟨rfl, hb⟩; replace o1 := o1.quiet hb; replace o2 := o2.quiet hb; replace s := s.quiet hb; clear hb)
          | (go_at_call 63; refine (valid_ok _ _).mono ?_; rintro e w' ⟨rfl, rfl⟩)
          | ((with_reducible refine gate_load (T := 3) (x := .tmp 29) ?_); refine wpList_loadCell rfl rfl rfl Tryd.underlying3 rfl o1.at_ rfl ?_)
          | ((with_reducible refine gate_load (T := 58) (x := .tmp 33) ?_); refine wpList_loadCell rfl rfl rfl Tryd.underlying58 rfl o1.at_ rfl ?_)
          | (go_at_call 64; have s1 := Lib.hid s.size; refine (set_ok 2 (by omega) _ _ _ K t _ rfl s.inn ht h0 h1).mono ?_; rintro e W ⟨v, K', rfl, hi, hl, hb, t', rfl, ht', hnil, hset⟩; replace o1 := o1.call hl hb; replace o2 := o2.call hl hb; replace s := s.call hi hl hb; clear hi hl hb)
          | ((with_reducible refine gate_store (T := 58) (x := .tmp 38) ?_); refine wpList_storeCell rfl rfl rfl (v := .pointer t'.ptr) rfl o1.at_ (by simp) (by kernel_rfl) rfl rfl ?_; intro W hu; replace s := s.upd o1 hu; replace o2 := o2.other hu (Ne.symm n1_2.out); replace o1 := o1.upd hu; clear hu)
          | ((with_reducible refine gate_load (T := 60) (x := .tmp 3) ?_); refine wpList_load_row rfl 60 _ rfl _ rfl 60 _ _ _ o1.at_ Tryd.underlying60 rfl (by rw [size_Tree]; rfl) ?_)
          | ((with_reducible refine gate_store (T := 60) (x := .tmp 6) (y := .tmp 39) ?_); refine wpList_storeAll rfl rfl rfl rfl (cs := #[.pointer t'.ptr, .int .i64 n]) rfl o2.at_ rfl (by rw [size_Tree]; rfl) (by simp [Value.oneCell']) ?_; intro W hu; replace s := s.upd o2 hu; replace o1 := o1.other hu n1_2.out; replace o2 := o2.upd hu; clear hu)
          | fail)
        refine ret_cell2 rfl rfl o2.at_ Tryd.underlying60 rfl (by rw [size_Tree]; rfl) ?_
        refine s.ret ⟨t', n, rfl, ht', ?_⟩
        unfold SetT
        rw [if_neg Hnot.out, Hx.out]
        exact ⟨hnil, hset.mono s1.out, rfl⟩
  · have hB0 : decide (0 ≤ blk ∧ blk < 4096) = false := by simp; omega
    go_enter Tryd.func41, Tryd.ntmps41
    go_wp2_with (first
      | ((with_reducible refine gate_box (T := 60) ?_); refine wpList_boxG rfl rfl rfl (cs := #[.pointer t.ptr, .int .i64 n]) rfl ?_; intro g1 W1 e hn; have o1 := Own.made s e hn; replace s := s.new hn; clear e hn)
      | ((with_reducible refine gate_alloc (T := 60) ?_); refine wpList_allocG rfl rfl zero_Tree (cs := #[.pointer none, .int .i64 0]) rfl ?_; intro g2 W2 e hn; have n1_2 := Lib.hid (o1.ne e); have o2 := Own.made s e hn; replace s := s.new hn; replace o1 := o1.new hn; clear e hn)
      | ((with_reducible refine gate_load (T := 60) (x := .tmp 3) ?_); refine wpList_load_row rfl 60 _ rfl _ rfl 60 _ _ _ o1.at_ Tryd.underlying60 rfl (by rw [size_Tree]; rfl) ?_)
      | (go_at_call 56; refine (get_at _ _ _ _ (_, _) _ Hx.out s.inn ht).mono ?_; rintro e W ⟨rfl, hb⟩; replace o1 := o1.quiet hb; replace o2 := o2.quiet hb; replace s := s.quiet hb; clear hb)
      | (go_at_call 63; refine (valid_ok _ _).mono ?_; rintro e w' ⟨rfl, rfl⟩)
      | ((with_reducible refine gate_load (T := 3) (x := .tmp 29) ?_); refine wpList_loadCell rfl rfl rfl Tryd.underlying3 rfl o1.at_ rfl ?_)
      | ((with_reducible refine gate_load (T := 58) (x := .tmp 33) ?_); refine wpList_loadCell rfl rfl rfl Tryd.underlying58 rfl o1.at_ rfl ?_)
      | ((with_reducible refine gate_store (T := 60) (x := .tmp 6) ?_); refine wpList_storeAll rfl rfl rfl rfl (cs := #[.pointer t.ptr, .int .i64 n]) rfl o2.at_ rfl (by rw [size_Tree]; rfl) (by simp [Value.oneCell']) ?_; intro W hu; replace s := s.upd o2 hu; replace o1 := o1.other hu n1_2.out; replace o2 := o2.upd hu; clear hu)
      | fail)
    refine ret_cell2 rfl rfl o2.at_ Tryd.underlying60 rfl (by rw [size_Tree]; rfl) ?_
    exact s.ret ⟨t, n, rfl, ht, by unfold SetT; rw [if_pos (.inl hv)]; exact ⟨rfl, rfl⟩⟩
end Go.Proofs.YtdaagmhkhfcmdaaDoor
/- What Tree.Clear does. -/
namespace Go.Proofs.YtdaagmhkhfcmdaaDoor
open Go Go.RowKit
set_option maxHeartbeats 400000

theorem way_of_get (L : Nat) : ∀ (t : PT) (blk : Nat), (t.get L blk).2 = true → t.Way L blk := by
  induction L with
  | zero => intro t blk h; cases t with
    | nil => simp [PT.get] at h
    | node b h' k c => simp [PT.Way]
  | succ L ih => intro t blk h; cases t with
    | nil => simp [PT.get] at h
    | node b h' k c => exact ⟨by simp, ih _ _ h⟩

theorem Own.c0 {w : World} {K : Fz} {W : World} {g T : Nat} {x y : Value} (h : Own w K W g (.cells #[x, y] T (0, 0))) : W.cell? ⟨g, 0, none⟩ = some x := cell_of_row W g 0 _ _ _ h.at_
theorem Own.c1 {w : World} {K : Fz} {W : World} {g T : Nat} {x y : Value} (h : Own w K W g (.cells #[x, y] T (0, 0))) : W.cell? ⟨g, 1, none⟩ = some y := cell_of_row W g 1 _ _ _ h.at_
theorem Own.fr {w : World} {K : Fz} {W : World} {g T : Nat} {c : Array Value} (h : Own w K W g (.cells c T (0, 0))) (i : Nat) : W.frozen? ⟨g, i, none⟩ = false := frozen_of_row W g i _ _ h.at_

theorem cell_set2 {W : World} {g g' i j k : Nat} {u v : Value} (h : g ≠ g') : ((W.setCell ⟨g', i, none⟩ u).setCell ⟨g', j, none⟩ v).cell? ⟨g, k, none⟩ = W.cell? ⟨g, k, none⟩ :=
  World.cell?_of_block ((Below.heap_setCell _ _ _ g h).trans (Below.heap_setCell _ _ _ g h))

set_option maxRecDepth 100000 in
theorem Clear_ok (K : Fz) (t : PT) (n blk : Int) (w : World) (hK : K.In w) (ht : Tr 122 K t) (hn0 : -1000000 ≤ n) (hn1 : n ≤ 1000000) :
    Calls Tryd.prog 43 #[treeV t n, .int .i64 blk] w
      (Ret K w fun K' v => ∃ t' n', v = treeV t' n' ∧ Tr 122 K' t' ∧ ClrT w.heap.size t n blk t' n') := by
  unfold treeV
  obtain ⟨x, hx⟩ : ∃ x, t.look blk = x := ⟨_, rfl⟩
  obtain ⟨old, is⟩ := x
  have Hx := Lib.hid hx
  clear hx
  have s := St.start hK
  cases is with
  | false =>
    go_enter Tryd.func43, Tryd.ntmps43
    go_wp2_with (first
      | ((with_reducible refine gate_box (T := 60) ?_); refine wpList_boxG rfl rfl rfl (cs := #[.pointer t.ptr, .int .i64 n]) rfl ?_; intro g1 W1 e hn; have o1 := Own.made s e hn; replace s := s.new hn; clear e hn)
      | ((with_reducible refine gate_alloc (T := 60) ?_); refine wpList_allocG rfl rfl zero_Tree (cs := #[.pointer none, .int .i64 0]) rfl ?_; intro g2 W2 e hn; have n1_2 := Lib.hid (o1.ne e); have o2 := Own.made s e hn; replace s := s.new hn; replace o1 := o1.new hn; clear e hn)
      | ((with_reducible refine gate_load (T := 60) (x := .tmp 2) ?_); refine wpList_load_row rfl 60 _ rfl _ rfl 60 _ _ _ o1.at_ Tryd.underlying60 rfl (by rw [size_Tree]; rfl) ?_)
      | (go_at_call 56; refine (get_at _ _ _ _ (_, _) _ Hx.out s.inn ht).mono ?_; rintro e W ⟨rfl, hb⟩; replace o1 := o1.quiet hb; replace o2 := o2.quiet hb; replace s := s.quiet hb; clear hb)
      | ((with_reducible refine gate_store (T := 60) (x := .tmp 4) ?_); refine wpList_storeAll rfl rfl rfl rfl (cs := #[.pointer t.ptr, .int .i64 n]) rfl o2.at_ rfl (by rw [size_Tree]; rfl) (by simp [Value.oneCell']) ?_; intro W hu; replace s := s.upd o2 hu; replace o1 := o1.other hu n1_2.out; replace o2 := o2.upd hu; clear hu)
      | fail)
    refine ret_cell2 rfl rfl o2.at_ Tryd.underlying60 rfl (by rw [size_Tree]; rfl) ?_
    refine s.ret ⟨t, n, rfl, ht, ?_⟩
    unfold ClrT
    rw [Hx.out]
    exact ⟨rfl, rfl⟩
  | true =>
    have hv : 0 ≤ blk ∧ blk < 4096 := by
      have := Hx.out
      unfold PT.look at this
      split at this
      · assumption
      · cases this
    have hw : t.Way 2 blk.toNat := by
      refine way_of_get 2 t _ ?_
      have := Hx.out
      unfold PT.look at this
      rw [if_pos hv] at this
      rw [this]
    obtain ⟨h0, h1⟩ := hv
    have HW := Lib.hid hw
    clear hw
    go_enter Tryd.func43, Tryd.ntmps43
    go_wp2_with (first
      | ((with_reducible refine gate_box (T := 60) ?_); refine wpList_boxG rfl rfl rfl (cs := #[.pointer t.ptr, .int .i64 n]) rfl ?_; intro g1 W1 e hn; have o1 := Own.made s e hn; replace s := s.new hn; clear e hn)
      | ((with_reducible refine gate_alloc (T := 60) ?_); refine wpList_allocG rfl rfl zero_Tree (cs := #[.pointer none, .int .i64 0]) rfl ?_; intro g2 W2 e hn; have n1_2 := Lib.hid (o1.ne e); have o2 := Own.made s e hn; replace s := s.new hn; replace o1 := o1.new hn; clear e hn)
      | ((with_reducible refine gate_load (T := 60) (x := .tmp 2) ?_); refine wpList_load_row rfl 60 _ rfl _ rfl 60 _ _ _ o1.at_ Tryd.underlying60 rfl (by rw [size_Tree]; rfl) ?_)
      | (go_at_call 56; refine (get_at _ _ _ _ (_, _) _ Hx.out s.inn ht).mono ?_; rintro e W ⟨rfl, hb⟩; replace o1 := o1.quiet hb; replace o2 := o2.quiet hb; replace s := s.quiet hb; clear hb)
      | fail)
    have e0 := o1.c0
    have e1 := o1.c1
    have e2 := o2.c0
    have e3 := o2.c1
    have e4 := o2.fr 0
    have e5 := o2.fr 1
    have s1 := Lib.hid s.size
    go_region_held3 (fun W' => W'.cell? ⟨g1, 0, none⟩ = some (.pointer t.ptr) ∧ W'.cell? ⟨g1, 1, none⟩ = some (.int .i64 n)) (first | exact ⟨by assumption, by assumption⟩ | exact ⟨(cell_set2 n1_2.out).trans (by assumption), (cell_set2 n1_2.out).trans (by assumption)⟩) ((go_at_call 65; refine (clear_ok 2 (by omega) _ _ K t _ rfl s.drew.inn ht h0 h1 HW.out).mono ?_; rintro e W ⟨v, K', rfl, hi, hl, hb, t', rfl, ht', hclr⟩; replace o1 := o1.drew.call hl hb; replace o2 := o2.drew.call hl hb; replace s := s.drew.call hi hl hb; clear hi hl hb e0 e1 e2 e3 e4 e5; have e0 := o1.c0; have e1 := o1.c1; have e2 := o2.c0; have e3 := o2.c1; have e4 := o2.fr 0; have e5 := o2.fr 1))
    clear e0 e1 e2 e3 e4 e5
    have hwr : IntKind.i64.wrap (n - 1) = n - 1 := IntWalk.i64_in _ (by omega)
    rw [hwr]
    have hu := Upd.setCell (i := 0) (.pointer t'.ptr) o2.at_
    have hu2 := Upd.setCell (i := 1) (.int .i64 (n - 1)) hu.here
    replace s := (s.upd o2 hu).upd (o2.upd hu) hu2
    replace o2 := (o2.upd hu).upd hu2
    revert s o2
    clear hu hu2
    generalize (W.setCell { block := g2, off := 0 } (Value.pointer t'.ptr)).setCell { block := g2, off := 1 } (Value.int IntKind.i64 (n - 1)) = W3
    intro s o2
    go_wp2_with fail
    refine ret_cell2 rfl rfl o2.at_ Tryd.underlying60 rfl (by rw [size_Tree]; rfl) ?_
    refine s.ret ⟨t', n - 1, rfl, ht', ?_⟩
    unfold ClrT
    rw [Hx.out]
    exact ⟨hclr.mono s1.out, rfl⟩
end Go.Proofs.YtdaagmhkhfcmdaaDoor
