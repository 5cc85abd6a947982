/- What node.set does. -/
import Derived.Test.YtdaagmhkhfcmdaaTreeA
import Derived.Test.YtdaagmhkhfcmdaaOps
namespace Go.Proofs.Ytdaagmhkhfcmdaa
open Go Go.RowKit
set_option maxHeartbeats 400000

abbrev nodeZ : Array Value := nodeCells 0 (fun _ => .nil) (fun _ => 0)
theorem build_node (w : World) : (Instr.build 153 #[]).run Try.prog w = .ok (.agg nodeZ) w := by rw [nodeZ, nodeCells_zero]; kernel_rfl
theorem zero_node (w : World) : (zeroValue 153).run Try.prog w = .ok (.agg nodeZ) w := by rw [nodeZ, nodeCells_zero]; kernel_rfl
theorem size_node : (Try.prog.info? 153).map (·.size) = some 33 := by kernel_rfl

theorem pow_lt (i : Nat) (hi : i < 16) : 2 ^ i < 65536 := Nat.lt_of_lt_of_le (Nat.pow_lt_pow_right (by omega) hi) (by decide)
theorem or_lt (h i : Nat) (hh : h < 65536) (hi : i < 16) : h ||| 2 ^ i < 65536 := Nat.or_lt_two_pow (n := 16) hh (pow_lt i hi)

theorem set_bits (h i : Nat) (hh : h < 65536) (hi : i < 16) : bits BinOp.or IntKind.u16 (h : Int) (IntKind.u16.wrap (2 ^ i)) = ((h ||| 2 ^ i : Nat) : Int) := by
  have h2 := pow_lt i hi
  have e : IntKind.u16.wrap (2 ^ i) = ((2 ^ i : Nat) : Int) := by
    have e1 : ((2 : Int) ^ i) = ((2 ^ i : Nat) : Int) := by simp
    rw [e1, IntKind.wrap_u16]
    generalize (2 ^ i : Nat) = n at h2
    omega
  rw [e, u16_or_nat _ _ hh h2]

theorem mk_node {T : Nat} {K Kc : Fz} {w W' : World} {g h : Nat} {k : Nat → PT} {c : Nat → Int} (hI : Kc.In W') (hL : K.Le w.heap.size Kc) (hgn : Kc g = none) (hg : w.heap.size ≤ g)
    (hc : W'.heap[g]? = some (.cells (nodeCells h k c) T (0, 0))) (hh : h < 65536) (hk : ∀ i, Tr T Kc (k i)) :
    (Kc.add g (.cells (nodeCells h k c) T (0, 0))).In W' ∧ K.Le w.heap.size (Kc.add g (.cells (nodeCells h k c) T (0, 0))) ∧ Tr T (Kc.add g (.cells (nodeCells h k c) T (0, 0))) (.node g h k c) :=
  ⟨hI.add hc, hL.add _ _ hg, Fz.add_self _ _ _, hh, fun i => (hk i).add hgn⟩

theorem nil_kids {T : Nat} {K : Fz} (i : Nat) : Tr T K ((fun _ => PT.nil) i) := trivial

set_option maxRecDepth 100000 in
theorem set_ok (L : Nat) : L ≤ 2 → ∀ (l blk ch : Int) (K : Fz) (t : PT) (w : World), l = L → K.In w → Tr 153 K t → 0 ≤ blk → blk < 4096 →
    Calls Try.prog 78 #[.pointer t.ptr, .int .i64 l, .int .i64 blk, .int .i64 ch] w
      (Ret K w fun K' v => ∃ t', v = .pointer t'.ptr ∧ Tr 153 K' t' ∧ t'.isNil = false ∧ PT.Set L w.heap.size t blk.toNat ch t') := by
  induction L with
  | zero =>
    rintro hL2 l blk ch K t w hl hK ht hb0 hb1
    obtain rfl : l = 0 := by simpa using hl
    clear hl
    have hsl := sl_lt 0 blk.toNat
    obtain ⟨i, hi⟩ : ∃ i, sl 0 blk.toNat = i := ⟨_, rfl⟩
    rw [hi] at hsl
    have Hi := Lib.hid hi
    clear hi
    have hgn := hK.out (Nat.le_refl _)
    rcases t with _ | ⟨b, h, k, c⟩
    · -- no node
      have hp : PT.nil.ptr = none := rfl
      go_enter Try.func78, Try.ntmps78
      go_wp2_with (first
        | ((with_reducible refine gate_build (T := 153) (x := #[]) ?_); refine wpList_build0 rfl rfl build_node ?_)
        | ((with_reducible refine gate_alloc (T := 153) ?_); refine wpList_alloc rfl rfl zero_node (cs := nodeZ) rfl ?_; intro W hn; have hc : W.heap[w.heap.size]? = some (.cells nodeZ 153 (0, 0)) := hn.here; have hB := hn.below (Below.refl _ _) (Nat.le_refl _); have hI := hn.inn hK; clear hn)
        | ((with_reducible refine gate_store (T := 153) ?_); refine wpList_storeAll rfl rfl rfl rfl (cs := nodeZ) rfl hc rfl (by rw [size_node, nodeCells_size]) (nodeCells_one _ _ _) ?_; intro W3 hu; replace hc : W3.heap[w.heap.size]? = some (.cells nodeZ 153 (0, 0)) := hu.here; replace hB := hu.below hB (Nat.le_refl _); replace hI := hu.inn hI hgn; clear hu)
        | (go_at_call 99; refine (slot_at _ _ i (by simpa using Hi.out) (by omega) (by omega) hb0 hb1 _).mono ?_; rintro e w' ⟨rfl, rfl⟩))
      have c0 := (cell_of_row W3 w.heap.size 0 _ _ _ hc).trans (nodeCells_has _ _ _)
      have f0 := frozen_of_row W3 w.heap.size 0 _ _ hc
      go_region
      have hu := Upd.drew (Upd.setCell (i := 0) (Value.int IntKind.u16 (bits BinOp.or IntKind.u16 0 (IntKind.u16.wrap (2 ^ i)))) hc)
      revert hu
      generalize (W3.setCell { block := w.heap.size, off := 0 } (Value.int IntKind.u16 (bits BinOp.or IntKind.u16 0 (IntKind.u16.wrap (2 ^ i))))).drew = W4
      intro hu
      clear c0 f0
      have hc3 := hu.here
      have hbits : bits BinOp.or IntKind.u16 0 (IntKind.u16.wrap (2 ^ i)) = ((0 ||| 2 ^ i : Nat) : Int) := set_bits 0 i (by omega) hsl
      rw [hbits, nodeCells_setHas] at hc3
      clear hc hbits
      replace hB := hu.below hB (Nat.le_refl _)
      replace hI := hu.inn hI hgn
      clear hu
      go_wp2_with (first
        | ((with_reducible refine gate_store (T := 3) ?_); refine wpList_storeCell rfl rfl rfl (v := .int .i64 ch) rfl hc3 (by rw [nodeCells_size]; omega) (by kernel_rfl) rfl rfl ?_; intro W5 hu; replace hc3 := hu.here; replace hB := hu.below hB (Nat.le_refl _); replace hI := hu.inn hI hgn; clear hu)
        | fail)
      go_ret
      rw [nodeCells_setChunk _ _ _ _ hsl] at hc3
      obtain ⟨r1, r2, r3⟩ := mk_node (K := K) hI (Fz.Le.refl _ _) hgn (Nat.le_refl _) hc3 (or_lt 0 i (by omega) hsl) (nil_kids)
      exact ⟨_, _, rfl, r1, r2, hB, _, rfl, r3, rfl, _, Nat.le_refl _, by rw [Hi.out]; rfl⟩
    · -- a node
      have hp : (PT.node b h k c).ptr = some ⟨b, 0, none⟩ := rfl
      obtain ⟨hb, hh, hk⟩ := ht
      go_enter Try.func78, Try.ntmps78
      go_wp2_with (first
        | ((with_reducible refine gate_build (T := 153) (x := #[]) ?_); refine wpList_build0 rfl rfl build_node ?_)
        | ((with_reducible refine gate_alloc (T := 153) ?_); refine wpList_alloc rfl rfl zero_node (cs := nodeZ) rfl ?_; intro W hn; have hc : W.heap[w.heap.size]? = some (.cells nodeZ 153 (0, 0)) := hn.here; have hB := hn.below (Below.refl _ _) (Nat.le_refl _); have hI := hn.inn hK; clear hn)
        | ((with_reducible refine gate_load (T := 153) ?_); refine wpList_load_row rfl 153 _ rfl b rfl 153 _ _ _ (hI.get hb) Try.underlying153 rfl (by rw [size_node, nodeCells_size]) ?_)
        | ((with_reducible refine gate_store (T := 153) (x := .tmp 9) (y := .tmp 11) ?_); refine wpList_storeAll rfl rfl rfl rfl (cs := nodeZ) rfl hc rfl (by rw [size_node, nodeCells_size]) (nodeCells_one _ _ _) ?_; intro W2 hu; replace hc : W2.heap[w.heap.size]? = some (.cells nodeZ 153 (0, 0)) := hu.here; replace hB := hu.below hB (Nat.le_refl _); replace hI := hu.inn hI hgn; clear hu)
        | ((with_reducible refine gate_store (T := 153) (x := .tmp 9) (y := .tmp 16) ?_); refine wpList_storeAll rfl rfl rfl rfl (cs := nodeCells h k c) rfl hc (by rw [nodeCells_size, nodeCells_size]) (by rw [size_node, nodeCells_size]) (nodeCells_one _ _ _) ?_; intro W3 hu; replace hc : W3.heap[w.heap.size]? = some (.cells (nodeCells h k c) 153 (0, 0)) := hu.here; replace hB := hu.below hB (Nat.le_refl _); replace hI := hu.inn hI hgn; clear hu)
        | (go_at_call 99; refine (slot_at _ _ i (by simpa using Hi.out) (by omega) (by omega) hb0 hb1 _).mono ?_; rintro e w' ⟨rfl, rfl⟩))
      have c0 := (cell_of_row W3 w.heap.size 0 _ _ _ hc).trans (nodeCells_has _ _ _)
      have f0 := frozen_of_row W3 w.heap.size 0 _ _ hc
      go_region
      have hu := Upd.drew (Upd.setCell (i := 0) (Value.int IntKind.u16 (bits BinOp.or IntKind.u16 (h : Int) (IntKind.u16.wrap (2 ^ i)))) hc)
      revert hu
      generalize (W3.setCell { block := w.heap.size, off := 0 } (Value.int IntKind.u16 (bits BinOp.or IntKind.u16 (h : Int) (IntKind.u16.wrap (2 ^ i))))).drew = W4
      intro hu
      clear c0 f0
      have hc3 := hu.here
      have hbits : bits BinOp.or IntKind.u16 (h : Int) (IntKind.u16.wrap (2 ^ i)) = ((h ||| 2 ^ i : Nat) : Int) := set_bits h i (by omega) hsl
      rw [hbits, nodeCells_setHas] at hc3
      clear hc hbits
      replace hB := hu.below hB (Nat.le_refl _)
      replace hI := hu.inn hI hgn
      clear hu
      go_wp2_with (first
        | ((with_reducible refine gate_store (T := 3) ?_); refine wpList_storeCell rfl rfl rfl (v := .int .i64 ch) rfl hc3 (by rw [nodeCells_size]; omega) (by kernel_rfl) rfl rfl ?_; intro W5 hu; replace hc3 := hu.here; replace hB := hu.below hB (Nat.le_refl _); replace hI := hu.inn hI hgn; clear hu)
        | fail)
      go_ret
      rw [nodeCells_setChunk _ _ _ _ hsl] at hc3
      obtain ⟨r1, r2, r3⟩ := mk_node (K := K) hI (Fz.Le.refl _ _) hgn (Nat.le_refl _) hc3 (or_lt h i (by omega) hsl) (hk)
      exact ⟨_, _, rfl, r1, r2, hB, _, rfl, r3, rfl, _, Nat.le_refl _, by rw [Hi.out]; rfl⟩
  | succ L ih =>
    rintro hL2 l blk ch K t w hl hK ht hb0 hb1
    have hl1 : l - 1 = L := by omega
    have hlt : 0 < l := by omega
    have hle : l ≤ 2 := by omega
    have hlb : (l == 0) = false := by rw [beq_eq_false_iff_ne]; omega
    have hll : l.toNat = L + 1 := by omega
    have Hl1 := Lib.hid hl1
    have Hll := Lib.hid hll
    clear hl hl1 hll
    have hsl := sl_lt (L + 1) blk.toNat
    obtain ⟨i, hi⟩ : ∃ i, sl (L + 1) blk.toNat = i := ⟨_, rfl⟩
    rw [hi] at hsl
    have Hi := Lib.hid hi
    clear hi
    have hgn := hK.out (Nat.le_refl _)
    have IH := Lib.hid ih
    clear ih
    rcases t with _ | ⟨b, h, k, c⟩
    · -- no node
      have hp : PT.nil.ptr = none := rfl
      go_enter Try.func78, Try.ntmps78
      go_wp2_with (first
        | ((with_reducible refine gate_build (T := 153) (x := #[]) ?_); refine wpList_build0 rfl rfl build_node ?_)
        | ((with_reducible refine gate_alloc (T := 153) ?_); refine wpList_alloc rfl rfl zero_node (cs := nodeZ) rfl ?_; intro W hn; have hc : W.heap[w.heap.size]? = some (.cells nodeZ 153 (0, 0)) := hn.here; have hB := hn.below (Below.refl _ _) (Nat.le_refl _); have hI := hn.inn hK; clear hn)
        | ((with_reducible refine gate_store (T := 153) ?_); refine wpList_storeAll rfl rfl rfl rfl (cs := nodeZ) rfl hc rfl (by rw [size_node, nodeCells_size]) (nodeCells_one _ _ _) ?_; intro W3 hu; replace hc : W3.heap[w.heap.size]? = some (.cells nodeZ 153 (0, 0)) := hu.here; replace hB := hu.below hB (Nat.le_refl _); replace hI := hu.inn hI hgn; clear hu)
        | (go_at_call 99; refine (slot_at _ _ i (by rw [Hll.out]; exact Hi.out) (by omega) (by omega) hb0 hb1 _).mono ?_; rintro e w' ⟨rfl, rfl⟩))
      have c0 := (cell_of_row W3 w.heap.size 0 _ _ _ hc).trans (nodeCells_has _ _ _)
      have f0 := frozen_of_row W3 w.heap.size 0 _ _ hc
      go_region
      have hu := Upd.drew (Upd.setCell (i := 0) (Value.int IntKind.u16 (bits BinOp.or IntKind.u16 0 (IntKind.u16.wrap (2 ^ i)))) hc)
      revert hu
      generalize (W3.setCell { block := w.heap.size, off := 0 } (Value.int IntKind.u16 (bits BinOp.or IntKind.u16 0 (IntKind.u16.wrap (2 ^ i))))).drew = W4
      intro hu
      clear c0 f0
      have hc3 := hu.here
      have hbits : bits BinOp.or IntKind.u16 0 (IntKind.u16.wrap (2 ^ i)) = ((0 ||| 2 ^ i : Nat) : Int) := set_bits 0 i (by omega) hsl
      rw [hbits, nodeCells_setHas] at hc3
      clear hc hbits
      replace hB := hu.below hB (Nat.le_refl _)
      replace hI := hu.inn hI hgn
      clear hu
      have c1 := (cell_of_row W4 w.heap.size (1 + i) _ _ _ hc3).trans (nodeCells_kid _ _ _ i hsl)
      go_wp2_with fail
      clear c1
      refine (IH.out (by omega) _ _ _ K _ _ Hl1.out hI (nil_kids i) hb0 hb1).mono ?_
      rintro e W5 ⟨v, K', rfl, hI', hle', hB', t', rfl, ht', hn', hs'⟩
      have hs1 : w.heap.size < W4.heap.size := lt_of_at hc3
      have hc4 := below_at hB' hc3 hs1
      replace hB := hB.trans (hB'.mono (Nat.le_of_lt hs1))
      have hgn' : K' w.heap.size = none := (hle' _ hs1).trans hgn
      clear hB'
      go_wp2_with (first
        | ((with_reducible refine gate_store (T := 84) ?_); refine wpList_storeCell rfl rfl rfl (v := .pointer t'.ptr) rfl hc4 (by rw [nodeCells_size]; omega) (by kernel_rfl) rfl rfl ?_; intro W6 hu; replace hc4 := hu.here; replace hB := hu.below hB (Nat.le_refl _); replace hI' := hu.inn hI' hgn'; clear hu)
        | fail)
      go_ret
      rw [nodeCells_setKid _ _ _ _ hsl] at hc4
      obtain ⟨r1, r2, r3⟩ := mk_node (K := K) hI' (hle'.mono (Nat.le_of_lt hs1)) hgn' (Nat.le_refl _) hc4 (or_lt 0 i (by omega) hsl) (fun j => by
        by_cases e : j = i
        · subst e; rw [upd_self]; exact ht'
        · rw [upd_other _ _ e]; exact nil_kids j)
      refine ⟨_, _, rfl, r1, r2, hB, _, rfl, r3, rfl, _, t', Nat.le_refl _, ?_, by rw [Hi.out]; rfl⟩
      rw [Hi.out]
      exact PT.Set.mono hs1 hs'
    · -- a node
      have hp : (PT.node b h k c).ptr = some ⟨b, 0, none⟩ := rfl
      obtain ⟨hb, hh, hk⟩ := ht
      go_enter Try.func78, Try.ntmps78
      go_wp2_with (first
        | ((with_reducible refine gate_build (T := 153) (x := #[]) ?_); refine wpList_build0 rfl rfl build_node ?_)
        | ((with_reducible refine gate_alloc (T := 153) ?_); refine wpList_alloc rfl rfl zero_node (cs := nodeZ) rfl ?_; intro W hn; have hc : W.heap[w.heap.size]? = some (.cells nodeZ 153 (0, 0)) := hn.here; have hB := hn.below (Below.refl _ _) (Nat.le_refl _); have hI := hn.inn hK; clear hn)
        | ((with_reducible refine gate_load (T := 153) ?_); refine wpList_load_row rfl 153 _ rfl b rfl 153 _ _ _ (hI.get hb) Try.underlying153 rfl (by rw [size_node, nodeCells_size]) ?_)
        | ((with_reducible refine gate_store (T := 153) (x := .tmp 9) (y := .tmp 11) ?_); refine wpList_storeAll rfl rfl rfl rfl (cs := nodeZ) rfl hc rfl (by rw [size_node, nodeCells_size]) (nodeCells_one _ _ _) ?_; intro W2 hu; replace hc : W2.heap[w.heap.size]? = some (.cells nodeZ 153 (0, 0)) := hu.here; replace hB := hu.below hB (Nat.le_refl _); replace hI := hu.inn hI hgn; clear hu)
        | ((with_reducible refine gate_store (T := 153) (x := .tmp 9) (y := .tmp 16) ?_); refine wpList_storeAll rfl rfl rfl rfl (cs := nodeCells h k c) rfl hc (by rw [nodeCells_size, nodeCells_size]) (by rw [size_node, nodeCells_size]) (nodeCells_one _ _ _) ?_; intro W3 hu; replace hc : W3.heap[w.heap.size]? = some (.cells (nodeCells h k c) 153 (0, 0)) := hu.here; replace hB := hu.below hB (Nat.le_refl _); replace hI := hu.inn hI hgn; clear hu)
        | (go_at_call 99; refine (slot_at _ _ i (by rw [Hll.out]; exact Hi.out) (by omega) (by omega) hb0 hb1 _).mono ?_; rintro e w' ⟨rfl, rfl⟩))
      have c0 := (cell_of_row W3 w.heap.size 0 _ _ _ hc).trans (nodeCells_has _ _ _)
      have f0 := frozen_of_row W3 w.heap.size 0 _ _ hc
      go_region
      have hu := Upd.drew (Upd.setCell (i := 0) (Value.int IntKind.u16 (bits BinOp.or IntKind.u16 (h : Int) (IntKind.u16.wrap (2 ^ i)))) hc)
      revert hu
      generalize (W3.setCell { block := w.heap.size, off := 0 } (Value.int IntKind.u16 (bits BinOp.or IntKind.u16 (h : Int) (IntKind.u16.wrap (2 ^ i))))).drew = W4
      intro hu
      clear c0 f0
      have hc3 := hu.here
      have hbits : bits BinOp.or IntKind.u16 (h : Int) (IntKind.u16.wrap (2 ^ i)) = ((h ||| 2 ^ i : Nat) : Int) := set_bits h i (by omega) hsl
      rw [hbits, nodeCells_setHas] at hc3
      clear hc hbits
      replace hB := hu.below hB (Nat.le_refl _)
      replace hI := hu.inn hI hgn
      clear hu
      have c1 := (cell_of_row W4 w.heap.size (1 + i) _ _ _ hc3).trans (nodeCells_kid _ _ _ i hsl)
      go_wp2_with fail
      clear c1
      refine (IH.out (by omega) _ _ _ K _ _ Hl1.out hI (hk i) hb0 hb1).mono ?_
      rintro e W5 ⟨v, K', rfl, hI', hle', hB', t', rfl, ht', hn', hs'⟩
      have hs1 : w.heap.size < W4.heap.size := lt_of_at hc3
      have hc4 := below_at hB' hc3 hs1
      replace hB := hB.trans (hB'.mono (Nat.le_of_lt hs1))
      have hgn' : K' w.heap.size = none := (hle' _ hs1).trans hgn
      clear hB'
      go_wp2_with (first
        | ((with_reducible refine gate_store (T := 84) ?_); refine wpList_storeCell rfl rfl rfl (v := .pointer t'.ptr) rfl hc4 (by rw [nodeCells_size]; omega) (by kernel_rfl) rfl rfl ?_; intro W6 hu; replace hc4 := hu.here; replace hB := hu.below hB (Nat.le_refl _); replace hI' := hu.inn hI' hgn'; clear hu)
        | fail)
      go_ret
      rw [nodeCells_setKid _ _ _ _ hsl] at hc4
      obtain ⟨r1, r2, r3⟩ := mk_node (K := K) hI' (hle'.mono (Nat.le_of_lt hs1)) hgn' (Nat.le_refl _) hc4 (or_lt h i (by omega) hsl) (fun j => by
        by_cases e : j = i
        · subst e; rw [upd_self]; exact ht'
        · rw [upd_other _ _ e]; exact (hk j).le hle' hI (Nat.le_refl _))
      refine ⟨_, _, rfl, r1, r2, hB, _, rfl, r3, rfl, _, t', Nat.le_refl _, ?_, by rw [Hi.out]; rfl⟩
      rw [Hi.out]
      exact PT.Set.mono hs1 hs'
end Go.Proofs.Ytdaagmhkhfcmdaa
