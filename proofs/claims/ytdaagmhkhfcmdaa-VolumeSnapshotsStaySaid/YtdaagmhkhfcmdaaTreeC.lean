/- What node.clear does. -/
import Derived.Test.YtdaagmhkhfcmdaaTreeB
namespace Go.Proofs.Ytdaagmhkhfcmdaa
open Go Go.RowKit
set_option maxHeartbeats 400000

theorem unbit_lt (h i : Nat) : unbit h i < 65536 := Nat.lt_of_le_of_lt (Nat.le_trans Nat.and_le_right (Nat.sub_le _ _)) (by decide)
theorem clr_bits (h i : Nat) (hh : h < 65536) (hi : i < 16) : bits BinOp.andNot IntKind.u16 (h : Int) (IntKind.u16.wrap (2 ^ i)) = ((unbit h i : Nat) : Int) := by
  have h2 := pow_lt i hi
  have e : IntKind.u16.wrap (2 ^ i) = ((2 ^ i : Nat) : Int) := by
    have e1 : ((2 : Int) ^ i) = ((2 ^ i : Nat) : Int) := by simp
    rw [e1, IntKind.wrap_u16]
    generalize (2 ^ i : Nat) = n at h2
    omega
  rw [e, u16_andNot_nat _ _ hh h2]
  rfl

set_option maxRecDepth 100000 in
theorem clear_ok (L : Nat) : L ≤ 2 → ∀ (l blk : Int) (K : Fz) (t : PT) (w : World), l = L → K.In w → Tr 153 K t → 0 ≤ blk → blk < 4096 → PT.Way L t blk.toNat →
    Calls Try.prog 79 #[.pointer t.ptr, .int .i64 l, .int .i64 blk] w
      (Ret K w fun K' v => ∃ t', v = .pointer t'.ptr ∧ Tr 153 K' t' ∧ PT.Clr L w.heap.size t blk.toNat t') := by
  induction L with
  | zero =>
    rintro hL2 l blk K t w hl hK ht hb0 hb1 hw
    obtain rfl : l = 0 := by simpa using hl
    clear hl
    rcases t with _ | ⟨b, h, k, c⟩
    · exact (hw rfl).elim
    clear hw
    have hsl := sl_lt 0 blk.toNat
    obtain ⟨i, hi⟩ : ∃ i, sl 0 blk.toNat = i := ⟨_, rfl⟩
    rw [hi] at hsl
    have Hi := Lib.hid hi
    clear hi
    have hgn := hK.out (Nat.le_refl _)
    have hp : (PT.node b h k c).ptr = some ⟨b, 0, none⟩ := rfl
    obtain ⟨hb, hh, hk⟩ := ht
    go_enter Try.func79, Try.ntmps79
    go_wp2_with (first
      | ((with_reducible refine gate_load (T := 153) ?_); refine wpList_load_row rfl 153 _ rfl b rfl 153 _ _ _ (hK.get hb) Try.underlying153 rfl (by rw [size_node, nodeCells_size]) ?_)
      | ((with_reducible refine gate_alloc (T := 153) ?_); refine wpList_alloc rfl rfl zero_node (cs := nodeZ) rfl ?_; intro W hn; have hc : W.heap[w.heap.size]? = some (.cells nodeZ 153 (0, 0)) := hn.here; have hB := hn.below (Below.refl _ _) (Nat.le_refl _); have hI := hn.inn hK; clear hn)
      | ((with_reducible refine gate_store (T := 153) ?_); refine wpList_storeAll rfl rfl rfl rfl (cs := nodeCells h k c) rfl hc (by rw [nodeCells_size, nodeCells_size]) (by rw [size_node, nodeCells_size]) (nodeCells_one _ _ _) ?_; intro W3 hu; replace hc : W3.heap[w.heap.size]? = some (.cells (nodeCells h k c) 153 (0, 0)) := hu.here; replace hB := hu.below hB (Nat.le_refl _); replace hI := hu.inn hI hgn; clear hu)
      | (go_at_call 99; refine (slot_at _ _ i (by simpa using Hi.out) (by omega) (by omega) hb0 hb1 _).mono ?_; rintro e w' ⟨rfl, rfl⟩)
      | ((with_reducible refine gate_store (T := 3) ?_); refine wpList_storeCell rfl rfl rfl (v := .int .i64 0) rfl hc (by rw [nodeCells_size]; omega) (by kernel_rfl) rfl rfl ?_; intro W5 hu; replace hc := hu.here; rw [nodeCells_setChunk _ _ _ _ hsl] at hc; replace hB := hu.below hB (Nat.le_refl _); replace hI := hu.inn hI hgn; clear hu))
    have c0 := (cell_of_row W5 w.heap.size 0 _ _ _ hc).trans (nodeCells_has _ _ _)
    have f0 := frozen_of_row W5 w.heap.size 0 _ _ hc
    go_region
    have hu := Upd.drew (Upd.setCell (i := 0) (Value.int IntKind.u16 (bits BinOp.andNot IntKind.u16 (h : Int) (IntKind.u16.wrap (2 ^ i)))) hc)
    revert hu
    generalize (W5.setCell { block := w.heap.size, off := 0 } (Value.int IntKind.u16 (bits BinOp.andNot IntKind.u16 (h : Int) (IntKind.u16.wrap (2 ^ i))))).drew = W6
    intro hu
    clear c0 f0
    have hc3 := hu.here
    rw [clr_bits h i hh hsl, nodeCells_setHas] at hc3
    clear hc
    replace hB := hu.below hB (Nat.le_refl _)
    replace hI := hu.inn hI hgn
    clear hu
    have c6 := (cell_of_row W6 w.heap.size 0 _ _ _ hc3).trans (nodeCells_has _ _ _)
    by_cases hz : unbit h i = 0
    all_goals have hzb : (((unbit h i : Nat) : Int) == 0) = decide (unbit h i = 0) := by rw [Bool.eq_iff_iff]; simp
    all_goals first | rw [decide_eq_true hz] at hzb | rw [decide_eq_false hz] at hzb
    · go_wp2_with fail
      go_ret
      exact ⟨_, _, rfl, hI, Fz.Le.refl _ _, hB, .nil, rfl, trivial, _, Nat.le_refl _, by rw [Hi.out]; exact (if_pos hz).symm⟩
    · go_wp2_with fail
      go_ret
      obtain ⟨r1, r2, r3⟩ := mk_node (K := K) hI (Fz.Le.refl _ _) hgn (Nat.le_refl _) hc3 (unbit_lt h i) hk
      exact ⟨_, _, rfl, r1, r2, hB, _, rfl, r3, _, Nat.le_refl _, by rw [Hi.out]; exact (if_neg hz).symm⟩
  | succ L ih =>
    rintro hL2 l blk K t w hl hK ht hb0 hb1 hw
    have hl1 : l - 1 = L := by omega
    have hlt : 0 < l := by omega
    have hle : l ≤ 2 := by omega
    have hlb : (l == 0) = false := by rw [beq_eq_false_iff_ne]; omega
    have hll : l.toNat = L + 1 := by omega
    have Hl1 := Lib.hid hl1
    have Hll := Lib.hid hll
    clear hl hl1 hll
    have IH := Lib.hid ih
    clear ih
    rcases t with _ | ⟨b, h, k, c⟩
    · exact (hw.1 rfl).elim
    have HW := Lib.hid hw.2
    clear hw
    have hsl := sl_lt (L + 1) blk.toNat
    obtain ⟨i, hi⟩ : ∃ i, sl (L + 1) blk.toNat = i := ⟨_, rfl⟩
    rw [hi] at hsl
    have Hi := Lib.hid hi
    clear hi
    have hgn := hK.out (Nat.le_refl _)
    have hp : (PT.node b h k c).ptr = some ⟨b, 0, none⟩ := rfl
    obtain ⟨hb, hh, hk⟩ := ht
    go_enter Try.func79, Try.ntmps79
    go_wp2_with (first
      | ((with_reducible refine gate_load (T := 153) ?_); refine wpList_load_row rfl 153 _ rfl b rfl 153 _ _ _ (hK.get hb) Try.underlying153 rfl (by rw [size_node, nodeCells_size]) ?_)
      | ((with_reducible refine gate_alloc (T := 153) ?_); refine wpList_alloc rfl rfl zero_node (cs := nodeZ) rfl ?_; intro W hn; have hc : W.heap[w.heap.size]? = some (.cells nodeZ 153 (0, 0)) := hn.here; have hB := hn.below (Below.refl _ _) (Nat.le_refl _); have hI := hn.inn hK; clear hn)
      | ((with_reducible refine gate_store (T := 153) ?_); refine wpList_storeAll rfl rfl rfl rfl (cs := nodeCells h k c) rfl hc (by rw [nodeCells_size, nodeCells_size]) (by rw [size_node, nodeCells_size]) (nodeCells_one _ _ _) ?_; intro W3 hu; replace hc : W3.heap[w.heap.size]? = some (.cells (nodeCells h k c) 153 (0, 0)) := hu.here; replace hB := hu.below hB (Nat.le_refl _); replace hI := hu.inn hI hgn; clear hu; have c1 := (cell_of_row W3 w.heap.size (1 + i) _ _ _ hc).trans (nodeCells_kid _ _ _ i hsl))
      | (go_at_call 99; refine (slot_at _ _ i (by rw [Hll.out]; exact Hi.out) (by omega) (by omega) hb0 hb1 _).mono ?_; rintro e w' ⟨rfl, rfl⟩)
      | fail)
    have hs1 : w.heap.size < W3.heap.size := lt_of_at hc
    refine (IH.out (by omega) _ _ K _ _ Hl1.out hI (hk i) hb0 hb1 (by have := HW.out; rw [Hi.out] at this; exact this)).mono ?_
    rintro e W4 ⟨v, K', rfl, hI', hle', hB', t', rfl, ht', hs'⟩
    replace hc := below_at hB' hc hs1
    replace hB := hB.trans (hB'.mono (Nat.le_of_lt hs1))
    have hgn' : K' w.heap.size = none := (hle' _ hs1).trans hgn
    have hkk : ∀ j, Tr 153 K' (k j) := fun j => (hk j).le hle' hI (Nat.le_refl _)
    clear hB'
    have hlk := hle'.mono (Nat.le_of_lt hs1)
    rcases t' with _ | ⟨b', h', k', c'⟩
    · have hp' : PT.nil.ptr = none := rfl
      go_wp2_with (first
        | ((with_reducible refine gate_store (T := 84) ?_); refine wpList_storeCell rfl rfl rfl (v := .pointer PT.nil.ptr) rfl hc (by rw [nodeCells_size]; omega) (by kernel_rfl) rfl rfl ?_; intro W5 hu; replace hc := hu.here; rw [nodeCells_setKid _ _ _ _ hsl] at hc; replace hB := hu.below hB (Nat.le_refl _); replace hI' := hu.inn hI' hgn'; clear hu; have c5 := (cell_of_row W5 w.heap.size (1 + i) _ _ _ hc).trans (nodeCells_kid _ _ _ i hsl); rw [upd_self] at c5)
        | fail)
      clear c5
      have c0 := (cell_of_row W5 w.heap.size 0 _ _ _ hc).trans (nodeCells_has _ _ _)
      have f0 := frozen_of_row W5 w.heap.size 0 _ _ hc
      go_region
      have hu := Upd.drew (Upd.setCell (i := 0) (Value.int IntKind.u16 (bits BinOp.andNot IntKind.u16 (h : Int) (IntKind.u16.wrap (2 ^ i)))) hc)
      revert hu
      generalize (W5.setCell { block := w.heap.size, off := 0 } (Value.int IntKind.u16 (bits BinOp.andNot IntKind.u16 (h : Int) (IntKind.u16.wrap (2 ^ i))))).drew = W6
      intro hu
      clear c0 f0
      have hc3 := hu.here
      rw [clr_bits h i hh hsl, nodeCells_setHas] at hc3
      clear hc
      replace hB := hu.below hB (Nat.le_refl _)
      replace hI' := hu.inn hI' hgn'
      clear hu
      have c6 := (cell_of_row W6 w.heap.size 0 _ _ _ hc3).trans (nodeCells_has _ _ _)
      by_cases hz : unbit h i = 0
      all_goals have hzb : (((unbit h i : Nat) : Int) == 0) = decide (unbit h i = 0) := by rw [Bool.eq_iff_iff]; simp
      all_goals first | rw [decide_eq_true hz] at hzb | rw [decide_eq_false hz] at hzb
      · go_wp2_with fail
        go_ret
        refine ⟨_, _, rfl, hI', hlk, hB, .nil, rfl, trivial, _, _, Nat.le_refl _, PT.Clr.mono hs1 (by rw [Hi.out]; exact hs'), ?_⟩
        rw [Hi.out]
        simp only [PT.isNil, Bool.true_eq_false, if_false]
        exact (if_pos hz).symm
      · go_wp2_with fail
        go_ret
        obtain ⟨r1, r2, r3⟩ := mk_node (K := K) hI' hlk hgn' (Nat.le_refl _) hc3 (unbit_lt h i) (fun j => by
          by_cases e : j = i
          · subst e; rw [upd_self]; trivial
          · rw [upd_other _ _ e]; exact hkk j)
        refine ⟨_, _, rfl, r1, r2, hB, _, rfl, r3, _, _, Nat.le_refl _, PT.Clr.mono hs1 (by rw [Hi.out]; exact hs'), ?_⟩
        rw [Hi.out]
        simp only [PT.isNil, Bool.true_eq_false, if_false]
        exact (if_neg hz).symm
    · have hp' : (PT.node b' h' k' c').ptr = some ⟨b', 0, none⟩ := rfl
      go_wp2_with (first
        | ((with_reducible refine gate_store (T := 84) ?_); refine wpList_storeCell rfl rfl rfl (v := .pointer (PT.node b' h' k' c').ptr) rfl hc (by rw [nodeCells_size]; omega) (by kernel_rfl) rfl rfl ?_; intro W5 hu; replace hc := hu.here; rw [nodeCells_setKid _ _ _ _ hsl] at hc; replace hB := hu.below hB (Nat.le_refl _); replace hI' := hu.inn hI' hgn'; clear hu; have c5 := (cell_of_row W5 w.heap.size (1 + i) _ _ _ hc).trans (nodeCells_kid _ _ _ i hsl); rw [upd_self] at c5)
        | fail)
      go_ret
      obtain ⟨r1, r2, r3⟩ := mk_node (K := K) hI' hlk hgn' (Nat.le_refl _) hc hh (fun j => by
        by_cases e : j = i
        · subst e; rw [upd_self]; exact ht'
        · rw [upd_other _ _ e]; exact hkk j)
      refine ⟨_, _, rfl, r1, r2, hB, _, rfl, r3, _, _, Nat.le_refl _, PT.Clr.mono hs1 (by rw [Hi.out]; exact hs'), ?_⟩
      rw [Hi.out]
      simp only [PT.isNil, if_true]
      rfl
end Go.Proofs.Ytdaagmhkhfcmdaa
