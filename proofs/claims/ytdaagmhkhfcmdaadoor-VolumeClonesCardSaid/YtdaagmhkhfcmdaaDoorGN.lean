/- The lowest bit, and what TrailingZeros16 answers. -/
import Derived.Test.YtdaagmhkhfcmdaaDoorGB
import Derived.LaidEqlPtr
import Derived.Deep.RegionHeld3
import Derived.Deep.CutBlock
import Derived.Test.YtdaagmhkhfcmdaaDoorDrawn
import Derived.Test.YtdaagmhkhfcmdaaDoorGC
namespace Go.Proofs.YtdaagmhkhfcmdaaDoor
open Go Go.RowKit
set_option maxHeartbeats 400000

theorem low_bit (k : Nat) : ∀ x : Nat, x < 2 ^ k → x ≠ 0 → ∃ i, i < k ∧ x &&& (2 ^ k - x) = 2 ^ i ∧ x.testBit i = true ∧ ∀ j, j < i → x.testBit j = false := by
  induction k with
  | zero => intro x h h0; simp at h; omega
  | succ k ih =>
    intro x h h0
    rcases Nat.mod_two_eq_zero_or_one x with hx | hx
    · obtain ⟨a, rfl⟩ : ∃ a, x = 2 * a := ⟨x / 2, by omega⟩
      have h2 : a < 2 ^ k := by rw [Nat.pow_succ] at h; omega
      obtain ⟨i, hi, h3, h4, h5⟩ := ih a h2 (by omega)
      refine ⟨i + 1, by omega, ?_, ?_, ?_⟩
      · have e : 2 ^ (k + 1) - 2 * a = 2 * (2 ^ k - a) := by rw [Nat.pow_succ]; omega
        rw [e, Nat.pow_succ, ← h3]
        apply Nat.eq_of_testBit_eq
        intro j
        cases j with
        | zero => simp [Nat.testBit_zero]
        | succ j =>
          have e1 : 2 * a / 2 = a := by omega
          have e2 : 2 * (2 ^ k - a) / 2 = 2 ^ k - a := by omega
          have e3 : (a &&& 2 ^ k - a) * 2 / 2 = (a &&& 2 ^ k - a) := by omega
          rw [Nat.testBit_and, Nat.testBit_succ, Nat.testBit_succ, Nat.testBit_succ, e1, e2, e3, Nat.testBit_and]
      · simpa [Nat.testBit_succ] using h4
      · intro j hj
        cases j with
        | zero => simp [Nat.testBit_zero]
        | succ j => simpa [Nat.testBit_succ] using h5 j (by omega)
    · obtain ⟨a, rfl⟩ : ∃ a, x = 2 * a + 1 := ⟨x / 2, by omega⟩
      have h2 : a < 2 ^ k := by rw [Nat.pow_succ] at h; omega
      refine ⟨0, by omega, ?_, by simp [Nat.testBit_zero], fun j hj => by omega⟩
      have e : 2 ^ (k + 1) - (2 * a + 1) = 2 * (2 ^ k - (a + 1)) + 1 := by rw [Nat.pow_succ]; omega
      rw [e]
      apply Nat.eq_of_testBit_eq
      intro j
      cases j with
      | zero => simp [Nat.testBit_zero]
      | succ j =>
        have e1 : (2 * a + 1) / 2 = a := by omega
        have e2 : (2 * (2 ^ k - (a + 1)) + 1) / 2 = 2 ^ k - (a + 1) := by omega
        rw [Nat.testBit_and, Nat.testBit_succ, Nat.testBit_succ, e1, e2, Nat.testBit_two_pow_sub_succ h2]
        cases a.testBit j <;> simp [Nat.testBit_succ]

def tzTab : List Nat := [0, 1, 28, 2, 29, 14, 24, 3, 30, 22, 20, 15, 25, 17, 4, 8, 31, 27, 13, 23, 21, 19, 16, 7, 26, 12, 18, 6, 11, 5, 10, 9]
theorem tz_tab (i : Nat) (hi : i < 16) : (2 ^ i * 125613361 % 4294967296) / 134217728 < 32 ∧ tzTab[(2 ^ i * 125613361 % 4294967296) / 134217728]? = some i := by
  have : ∀ i, i < 16 → (2 ^ i * 125613361 % 4294967296) / 134217728 < 32 ∧ tzTab[(2 ^ i * 125613361 % 4294967296) / 134217728]? = some i := by decide
  exact this i hi

theorem pow_lt16 (i : Nat) (hi : i < 16) : 2 ^ i < 65536 := Nat.lt_of_lt_of_le (Nat.pow_lt_pow_right (by omega) hi) (by decide)

/-- The table of the library lies frozen. -/
def Tab (K : Fz) : Prop := ∃ T fr, K 0 = some (.cells (tzTab.map fun n : Nat => Value.int .u8 (n : Nat)).toArray T fr)

/-- The answer is the lowest bit. -/
def LowBit (x : Nat) (w : World) (e : Ending) (w' : World) : Prop := ∃ i : Nat, e = .returned (.int .i64 i) ∧ i < 16 ∧ x.testBit i = true ∧ (∀ j, j < i → x.testBit j = false) ∧ w = w'

theorem tz16_ok (K : Fz) (x : Nat) (w : World) (hK : K.In w) (ht : Tab K) (hx : x < 65536) (h0 : x ≠ 0) :
    Calls Tryd.prog 77 #[.int .u16 x] w (LowBit x w) := by
  obtain ⟨i, hi, h1, h2, h3⟩ := low_bit 16 x hx h0
  obtain ⟨T, fr, hk⟩ := ht
  obtain ⟨t1, t2⟩ := tz_tab i hi
  have hw : IntKind.u16.wrap (-(x : Int)) = ((65536 - x : Nat) : Int) := by rw [IntKind.wrap_u16]; omega
  have hcell : w.cell? ⟨0, (bits BinOp.and IntKind.u16 (x : Int) (IntKind.u16.wrap (-(x : Int))) % 4294967296 * 125613361 % 4294967296 / 134217728).toNat, none⟩ = some (.int .u8 (i : Nat)) := by
    rw [hw, u16_and_nat _ _ hx (by omega), hK.cell hk]
    have e0 : x &&& 65536 - x = 2 ^ i := h1
    rw [e0]
    have hp := pow_lt16 i hi
    have e : (((2 ^ i : Nat) : Int) % 4294967296 * 125613361 % 4294967296 / 134217728).toNat = (2 ^ i * 125613361 % 4294967296) / 134217728 := by
      generalize (2 ^ i : Nat) = n at hp
      have e1 : ((n : Nat) : Int) % 4294967296 = ((n : Nat) : Int) := by clear e0; omega
      have e2 : ((n : Nat) : Int) * 125613361 % 4294967296 / 134217728 = ((n * 125613361 % 4294967296 / 134217728 : Nat) : Int) := by simp
      rw [e1, e2, Int.toNat_natCast]
    rw [e]
    simp only [List.getElem?_toArray, List.getElem?_map, t2, Option.map_some]
  clear hw t1 t2 hk
  have hx0 : ((x : Int) == 0) = false := by rw [beq_eq_false_iff_ne]; omega
  have h4 := Lib.hid h2
  have h5 := Lib.hid h3
  clear h2 h3
  go_enter Tryd.func77, Tryd.ntmps77
  go_wp2
  go_ret
  exact ⟨i, rfl, hi, h4.out, h5.out, rfl⟩
end Go.Proofs.YtdaagmhkhfcmdaaDoor
/- The blocks that two trees do not map alike: plain data. -/
namespace Go.Proofs.YtdaagmhkhfcmdaaDoor
open Go Go.RowKit

def diffs : Nat → PT → PT → Nat → List Nat
  | 0, a, b, first => if a.ptr = b.ptr then [] else
      (List.range 16).flatMap fun i => if (a.has ||| b.has).testBit i then (if (a.has ^^^ b.has).testBit i || a.chunk i != b.chunk i then [first + i] else []) else []
  | L + 1, a, b, first => if a.ptr = b.ptr then [] else
      (List.range 16).flatMap fun i => if (a.has ||| b.has).testBit i then diffs L (a.kid i) (b.kid i) (first + i * 16 ^ (L + 1)) else []

def diffPart : Nat → PT → PT → Nat → Nat → List Nat
  | 0, a, b, first, i => if (a.has ^^^ b.has).testBit i || a.chunk i != b.chunk i then [first + i] else []
  | L + 1, a, b, first, i => diffs L (a.kid i) (b.kid i) (first + i * 16 ^ (L + 1))
def diffTo (L : Nat) (a b : PT) (first n : Nat) : List Nat := (List.range n).flatMap fun i => if (a.has ||| b.has).testBit i then diffPart L a b first i else []

theorem diffs_eq (L : Nat) (a b : PT) (first : Nat) (h : a.ptr ≠ b.ptr) : diffs L a b first = diffTo L a b first 16 := by
  cases L <;> simp [diffs, diffTo, diffPart, h]
theorem diffs_same (L : Nat) (a b : PT) (first : Nat) (h : a.ptr = b.ptr) : diffs L a b first = [] := by
  cases L <;> simp [diffs, h]
theorem diffTo_succ (L : Nat) (a b : PT) (first n : Nat) : diffTo L a b first (n + 1) = diffTo L a b first n ++ if (a.has ||| b.has).testBit n then diffPart L a b first n else [] := by
  simp [diffTo, List.range_succ]
theorem diffTo_skip (L : Nat) (a b : PT) (first n : Nat) : ∀ m, n ≤ m → (∀ j, n ≤ j → j < m → (a.has ||| b.has).testBit j = false) → diffTo L a b first m = diffTo L a b first n := by
  intro m
  induction m with
  | zero =>
    intro h _
    obtain rfl : n = 0 := by omega
    rfl
  | succ m ih =>
    intro h hj
    by_cases e : n = m + 1
    · rw [e]
    · rw [diffTo_succ, hj m (by omega) (by omega)]
      simpa using ih (by omega) (fun j h1 h2 => hj j h1 (by omega))
theorem diffTo_prefix (L : Nat) (a b : PT) (first n m : Nat) (h : n ≤ m) : ∃ r, diffTo L a b first m = diffTo L a b first n ++ r := by
  induction m with
  | zero =>
    obtain rfl : n = 0 := by omega
    exact ⟨[], by simp⟩
  | succ m ih =>
    by_cases e : n = m + 1
    · exact ⟨[], by rw [e]; simp⟩
    · obtain ⟨r, hr⟩ := ih (by omega)
      exact ⟨_, by rw [diffTo_succ, hr, List.append_assoc]⟩

/-- The bits of h from n on. -/
def Left (h n x : Nat) : Prop := ∀ j, x.testBit j = (decide (n ≤ j) && h.testBit j)
theorem Left.start (h : Nat) : Left h 0 h := fun j => by simp
theorem clear_low (i : Nat) : ∀ x : Nat, x.testBit i = true → (∀ j, j < i → x.testBit j = false) → ∀ j, (x &&& (x - 1)).testBit j = (x.testBit j && decide (j ≠ i)) := by
  induction i with
  | zero =>
    intro x h0 _ j
    obtain ⟨a, rfl⟩ : ∃ a, x = 2 * a + 1 := ⟨x / 2, by simp [Nat.testBit_zero] at h0; omega⟩
    rw [Nat.testBit_and, show 2 * a + 1 - 1 = 2 * a by omega]
    cases j with
    | zero => simp [Nat.testBit_zero]
    | succ j =>
      have e1 : (2 * a + 1) / 2 = a := by omega
      have e2 : 2 * a / 2 = a := by omega
      rw [Nat.testBit_succ, Nat.testBit_succ, e1, e2]; simp
  | succ i ih =>
    intro x h1 h2 j
    have hx := h2 0 (by omega)
    obtain ⟨a, rfl⟩ : ∃ a, x = 2 * a := ⟨x / 2, by simp [Nat.testBit_zero] at hx; omega⟩
    have e1 : 2 * a / 2 = a := by omega
    have ha : a ≠ 0 := by rintro rfl; simp at h1
    rw [show 2 * a - 1 = 2 * (a - 1) + 1 by omega, Nat.testBit_and]
    have e2 : (2 * (a - 1) + 1) / 2 = a - 1 := by omega
    rw [Nat.testBit_succ, e1] at h1
    cases j with
    | zero => simp [Nat.testBit_zero]
    | succ j =>
      have := ih a h1 (fun j hj => by have := h2 (j + 1) (by omega); rwa [Nat.testBit_succ, e1] at this) j
      rw [Nat.testBit_and] at this
      rw [Nat.testBit_succ, Nat.testBit_succ, e1, e2, this]
      simp
theorem Left.next {h n x i : Nat} (hl : Left h n x) (h1 : x.testBit i = true) (h2 : ∀ j, j < i → x.testBit j = false) : Left h (i + 1) (x &&& (x - 1)) ∧ n ≤ i ∧ h.testBit i = true ∧ ∀ j, n ≤ j → j < i → h.testBit j = false := by
  have hi := hl i
  rw [h1] at hi
  have hi' : n ≤ i ∧ h.testBit i = true := by simpa using hi.symm
  refine ⟨fun j => ?_, hi'.1, hi'.2, fun j hj hji => ?_⟩
  · rw [clear_low i x h1 h2 j, hl j]
    by_cases hji : j < i
    · have := hl j
      rw [h2 j hji] at this
      simp only [← this]
      simp [show ¬ (i + 1 ≤ j) by omega]
    · by_cases e : j = i
      · subst e
        simp [show ¬ (j + 1 ≤ j) by omega]
      · simp [show n ≤ j by omega, show i + 1 ≤ j by omega, e]
  · have := hl j
    rw [h2 j hji] at this
    simpa [hj] using this.symm
theorem Left.lt {h n x : Nat} (hl : Left h n x) (hh : h < 65536) : x < 65536 := by
  refine Nat.lt_pow_two_of_testBit (n := 16) x fun i hi => ?_
  rw [hl i, Nat.testBit_lt_two_pow (Nat.lt_of_lt_of_le hh (Nat.pow_le_pow_right (n := 2) (by omega) hi))]
  simp
theorem Left.zero {h n : Nat} (hl : Left h n 0) : ∀ j, n ≤ j → h.testBit j = false := fun j hj => by
  have := hl j
  simpa [hj] using this.symm
end Go.Proofs.YtdaagmhkhfcmdaaDoor
/- What differ does. -/
namespace Go.Proofs.YtdaagmhkhfcmdaaDoor
open Go Go.RowKit
set_option maxHeartbeats 400000

theorem Tab.ext {K K' : Fz} (h : Ext K K') (ht : Tab K) : Tab K' := by obtain ⟨T, fr, hk⟩ := ht; exact ⟨T, fr, h _ _ hk⟩

theorem wrap64_small (x : Int) (h0 : -1000000 ≤ x) (h1 : x ≤ 1000000) : wrap64 x = x := by unfold wrap64; omega
theorem wrap_at (first i L : Nat) (h : first + i * 16 ^ L < 4096) : wrap64 ((first : Int) + wrap64 ((i : Int) * 2 ^ (4 * (L : Int)).toNat)) = ((first + i * 16 ^ L : Nat) : Int) := by
  have e4 : (4 * (L : Int)).toNat = 4 * L := by omega
  have e : ((i : Int) * 2 ^ (4 * L)) = ((i * 16 ^ L : Nat) : Int) := by rw [show (16 : Nat) ^ L = 2 ^ (4 * L) by rw [Nat.pow_mul]]; simp
  rw [e4, e]
  generalize i * 16 ^ L = p at h
  rw [wrap64_small (p : Int) (by omega) (by omega), wrap64_small _ (by omega) (by omega)]
  simp
theorem at_lt {first i L : Nat} (hi : i < 16) (hf : first + 16 ^ (L + 1) ≤ 4096) : first + i * 16 ^ L < 4096 := by
  have h1 : i * 16 ^ L < 16 * 16 ^ L := Nat.mul_lt_mul_of_pos_right hi (Nat.pow_pos (by omega))
  rw [Nat.pow_succ, Nat.mul_comm] at hf
  omega

/-- How differ ends. -/
def DiffEnd (J : List Nat → Fz → World → Prop) (Jx : World → Prop) (K : Fz) (pre : List Nat) (e : Ending) (W : World) : Prop :=
  (e = .returned (.bool true) ∧ ∃ K', Ext K K' ∧ J pre K' W) ∨ (e = .returned (.bool false) ∧ Jx W)

theorem DiffEnd.bool {J : List Nat → Fz → World → Prop} {Jx : World → Prop} {K : Fz} {pre : List Nat} {e : Ending} {W : World} (h : DiffEnd J Jx K pre e W) :
    ∃ t : Bool, e = .returned (.bool t) ∧ Hid (DiffEnd J Jx K pre (.returned (.bool t)) W) := by
  rcases h with ⟨rfl, h⟩ | ⟨rfl, h⟩
  · exact ⟨true, rfl, .inl ⟨rfl, h⟩⟩
  · exact ⟨false, rfl, .inr ⟨rfl, h⟩⟩

def encN (x : Nat) : Array Value := #[.int .i64 (x : Nat)]

theorem follows_mixed : Tryd.prog.follows .mixedOrders = true := by kernel_rfl

theorem run_eql_nil_nil_ptr (w : World) : (binOp .eql 58 (.pointer none) (.pointer none)).run Tryd.prog w = .ok (.bool true) w := by
  have := run_eql_pointer_nil (P := Tryd.prog) w 58 none (by kernel_rfl)
  simpa using this

theorem run_eql_nil_some (w : World) (q : Addr) : (binOp .eql 58 (.pointer none) (.pointer (some q))).run Tryd.prog w = .ok (.bool false) w := by kernel_rfl

theorem node_or {T : Nat} {K : Fz} {a : PT} (_ : True) (ha : Tr T K a) : (a.ptr = none ∧ nodeCells a.has a.kid a.chunk = nodeZ) ∨ ∃ ba, a.ptr = some ⟨ba, 0, none⟩ ∧ K ba = some (.cells (nodeCells a.has a.kid a.chunk) T (0, 0)) := by
  cases a with
  | nil => exact .inl ⟨rfl, rfl⟩
  | node b h k c => exact .inr ⟨b, rfl, ha.1⟩
theorem T0 : True := trivial

section
variable {l : Nat} {xs : List Nat} {J : List Nat → Fz → World → Prop} {Jx : World → Prop}
variable (hIn : ∀ pre K W, J pre K W → K.In W)
variable (hgrow : ∀ pre K W K' W', J pre K W → Below W.heap.size W W' → K'.In W' → K.Le W.heap.size K' → J pre K' W')
variable (hY : ∀ pre x rest K W, pre ++ x :: rest = xs → J pre K W → YieldAt Fence.wide 0 Tryd.prog l (encN x) W fun e W' =>
      (e = .returned (.bool true) ∧ ∃ K', Ext K K' ∧ J (pre ++ [x]) K' W') ∨ (e = .returned (.bool false) ∧ Jx W'))
include hIn hgrow hY

omit hY in
theorem none_made {pre : List Nat} {K : Fz} {W W1 : World} {g : Nat} (hJ : J pre K W) (e : g = W.heap.size) (hn : New W (.cells nodeZ 122 (0, 0)) W1) :
    ∃ K1, Ext K K1 ∧ J pre K1 W1 ∧ K1 g = some (.cells nodeZ 122 (0, 0)) := by
  subst e
  have hi := hIn _ _ _ hJ
  have hb : Below W.heap.size W W1 := hn.below (Below.refl _ _) (Nat.le_refl _)
  refine ⟨K.add W.heap.size (.cells nodeZ 122 (0, 0)), ?_, hgrow _ _ _ _ _ hJ hb ((hn.inn hi).add hn.here) ((Fz.Le.refl _ _).add _ _ (Nat.le_refl _)), Fz.add_self _ _ _⟩
  intro b o hk
  rw [Fz.add_other _ _ (by have := hi.lt hk; omega)]
  exact hk

/-- What is said of differ at a level. -/
def DiffSaid (P : Program) (xs : List Nat) (l : Nat) (J : List Nat → Fz → World → Prop) (Jx : World → Prop) (L : Nat) : Prop :=
  ∀ (a b : PT) (lv : Int) (first : Nat) (pre post : List Nat) (K : Fz) (W : World), lv = L → Tr 122 K a → Tr 122 K b → Tab K → J pre K W →
    pre ++ diffs L a b first ++ post = xs → first + 16 ^ (L + 1) ≤ 4096 →
    Calls P 70 #[.pointer a.ptr, .pointer b.ptr, .int .i64 lv, .int .i64 (first : Nat), .func (.yield l) #[] #[]] W (DiffEnd J Jx K (pre ++ diffs L a b first))

set_option maxRecDepth 100000 in
set_option maxHeartbeats 20000000 in
theorem differ_step (L : Nat) (hL : L ≤ 2) (IH : ∀ M, L = M + 1 → DiffSaid Tryd.prog xs l J Jx M) : DiffSaid Tryd.prog xs l J Jx L := by
  intro a b lv first pre post K W hlv ha hb ht hJ hx hf
  have hK := hIn _ _ _ hJ
  have IH' := Lib.hid IH
  have Hlv := Lib.hid hlv
  have Hx := Lib.hid hx
  have hlv0 : 0 ≤ lv := by omega
  have hlv2 : lv ≤ 2 := by omega
  obtain ⟨j, hj, hz⟩ := Option.map_eq_some_iff.1 size_node
  have hsz : j.size ≠ 0 := by rw [hz]; decide
  clear hz IH hlv hx
  by_cases heq : a.ptr = b.ptr
  · rw [diffs_same L a b first heq] at Hx ⊢
    have hee : (binOp .eql 58 (.pointer a.ptr) (.pointer b.ptr)).run Tryd.prog W = .ok (.bool true) W := by
      rw [← heq]
      cases hp : a.ptr with
      | none => exact run_eql_nil_nil_ptr W
      | some q => exact run_eql_ptr_same W q Tryd.underlying58 hj
    have Heq := Lib.hid heq
    clear heq
    go_enter Tryd.func70, Tryd.ntmps70
    go_wp2_with fail
    go_ret
    exact .inl ⟨rfl, K, Ext.refl K, by simpa using hJ⟩
  · rw [diffs_eq L a b first heq] at Hx ⊢
    rcases node_or T0 ha with ⟨pa, na⟩ | ⟨ba, pa, na⟩ <;> rcases node_or T0 hb with ⟨pb, nb⟩ | ⟨bb, pb, nb⟩
    · exact (heq (pa.trans pb.symm)).elim
    all_goals
      have Hne := Lib.hid heq
      clear heq
    case' neg.inl.inr =>
      have hee := run_eql_nil_some W ⟨bb, 0, none⟩
      go_enter Tryd.func70, Tryd.ntmps70
      go_wp2_with (first
        | ((with_reducible refine gate_alloc (T := 122) ?_); refine wpList_allocG rfl rfl zero_node (cs := nodeZ) rfl ?_; intro ba W1 e hn; obtain ⟨K1, hE, hJ1, na1⟩ := none_made hIn hgrow hJ e hn; clear e hn)
        | fail)
      clear hee
      rw [← na] at na1
      have nb1 := hE _ _ nb
    case' neg.inr.inl =>
      go_enter Tryd.func70, Tryd.ntmps70
      go_wp2_with (first
        | ((with_reducible refine gate_alloc (T := 122) ?_); refine wpList_allocG rfl rfl zero_node (cs := nodeZ) rfl ?_; intro bb W1 e hn; obtain ⟨K1, hE, hJ1, nb1⟩ := none_made hIn hgrow hJ e hn; clear e hn)
        | fail)
      rw [← nb] at nb1
      have na1 := hE _ _ na
    case' neg.inr.inr =>
      have hee : (binOp .eql 58 (.pointer (some ⟨ba, 0, none⟩)) (.pointer (some ⟨bb, 0, none⟩))).run Tryd.prog W = .ok (.bool false) W :=
        run_eql_ptr_other W Tryd.underlying58 hj hsz (fun e => Hne.out (pa.trans ((congrArg some e).trans pb.symm))) (hK.get na) (hK.get nb)
      go_enter Tryd.func70, Tryd.ntmps70
      go_wp2_with (first
        | ((with_reducible refine gate_alloc (T := 122) ?_); refine wpList_allocG rfl rfl zero_node (cs := nodeZ) rfl ?_; intro g W1 e hn; obtain ⟨K1, hE, hJ1, ng⟩ := none_made hIn hgrow hJ e hn; clear e hn)
        | fail)
      clear hee ng
      have nb1 := hE _ _ nb
      have na1 := hE _ _ na
    all_goals
      clear hj hsz hK
      have c0a := ((hIn _ _ _ hJ1).cell na1 0).trans (nodeCells_has _ _ _)
      have c0b := ((hIn _ _ _ hJ1).cell nb1 0).trans (nodeCells_has _ _ _)
      have hor := u16_or_nat _ _ ha.has hb.has
      have hhh : a.has ||| b.has < 65536 := Nat.or_lt_two_pow (n := 16) ha.has hb.has
      go_quiet (fail)
      clear hor c0a c0b
      go_wp2_with fail
      have hJ2 := hgrow _ _ _ _ _ hJ1 ((Below.refl W1.heap.size W1).drewN' nq) ((hIn _ _ _ hJ1).drewN nq) (Fz.Le.refl _ _)
      clear hJ1
      have Hhh := Lib.hid hhh
      clear hhh
      go_loopw [12, 13, 14] (fun x _ _ wr => ∃ (n m : Nat) (K2 : Fz), n ≤ 16 ∧ x = .int .u16 m ∧ Hid (Left (a.has ||| b.has) n m) ∧ Hid (J (pre ++ diffTo L a b first n) K2 wr) ∧ Hid (Ext K1 K2)) (fun x _ _ _ => (intOf x).toNat)
      case' atStart => exact ⟨0, _, K1, by omega, rfl, Left.start _, (by simpa [diffTo] using hJ2 : J (pre ++ diffTo L a b first 0) K1 _), Ext.refl _⟩
      case' round =>
        clear hJ2
        obtain ⟨n, m, K2, hn, rfl, hl, hj2, he2⟩ := hrel
        have hm := hl.out.lt Hhh.out
        by_cases hm0 : m = 0
        · subst hm0
          go_wp2_with fail
          go_ret
          refine .inl ⟨rfl, K2, hE.trans he2.out, ?_⟩
          rw [diffTo_skip L a b first n 16 hn (fun j h1 _ => hl.out.zero j h1)]
          exact hj2.out
        · have hbne : ((m : Int) != 0) = true := by rw [bne_iff_ne]; omega
          have hK2 := hIn _ _ _ hj2.out
          have hT2 := Lib.hid (Tab.ext (hE.trans he2.out) ht)
          have na2 := he2.out _ _ na1
          have nb2 := he2.out _ _ nb1
          have ha2 := Lib.hid (ha.ext (hE.trans he2.out))
          have hb2' := Lib.hid (hb.ext (hE.trans he2.out))
          have hmm : bits BinOp.and IntKind.u16 (m : Int) (IntKind.u16.wrap ((m : Int) - 1)) = ((m &&& (m - 1) : Nat) : Int) := by
            have e : IntKind.u16.wrap ((m : Int) - 1) = ((m - 1 : Nat) : Int) := by rw [IntKind.wrap_u16]; omega
            rw [e, u16_and_nat _ _ hm (by omega)]
          have hmm2 : bits BinOp.and IntKind.u16 (m : Int) ((m : Int) - 1) = ((m &&& (m - 1) : Nat) : Int) := by
            rw [show ((m : Int) - 1) = ((m - 1 : Nat) : Int) by omega, u16_and_nat _ _ hm (by omega)]
          have hmlt : m &&& (m - 1) < m := Nat.lt_of_le_of_lt Nat.and_le_right (by omega)
          by_cases hL0 : L = 0
          · have hlt : ¬ 0 < lv := by have := Hlv.out; omega
            obtain ⟨q, hq⟩ : ∃ q : Nat → Nat, ∀ i, q i = first + i * 16 ^ L := ⟨_, fun _ => rfl⟩
            have e14 : ∀ i : Nat, i < 16 → wrap64 ((first : Int) + wrap64 ((i : Int) * 2 ^ (4 * lv).toNat)) = (q i : Int) := by
              intro i hi
              rw [hq i, Hlv.out]
              exact wrap_at first i L (at_lt hi hf)
            have Hq := Lib.hid hq
            have E14 := Lib.hid e14
            clear hq e14
            go_wp2_with (first
              | (go_at_call 77; refine (tz16_ok K2 m _ hK2 hT2.out hm hm0).mono ?_; rintro e W' ⟨i, rfl, hi16, hb1, hb2, rfl⟩; replace hb1 := Lib.hid hb1; replace hb2 := Lib.hid hb2; have e14 := E14.out i hi16)
              | fail)
            clear e14
            have hxor := u16_xor_nat _ _ ha.has hb.has
            have hbx := bit_ne (a.has ^^^ b.has) i (Nat.xor_lt_two_pow (n := 16) ha.has hb.has)
            have c0a := (hK2.cell na2 0).trans (nodeCells_has _ _ _)
            have c0b := (hK2.cell nb2 0).trans (nodeCells_has _ _ _)
            have c2a := (hK2.cell na2 (17 + i)).trans (nodeCells_chunk _ _ _ i hi16)
            have c2b := (hK2.cell nb2 (17 + i)).trans (nodeCells_chunk _ _ _ i hi16)
            by_cases hbit : (a.has ^^^ b.has).testBit i = true
            · have hpart : diffPart L a b first i = [q i] := by subst hL0; simp [diffPart, hbit, Hq.out]
              have Hpart := Lib.hid hpart
              clear hpart
              rw [hbit] at hbx
              go_quiet (fail)
              clear hxor hbx c0a c0b c2a c2b
              have hj3 := hgrow _ _ _ _ _ hj2.out ((Below.refl wr.heap.size wr).drewN' nq) (hK2.drewN nq) (Fz.Le.refl _ _)
              obtain ⟨nx, ni, nb', nn⟩ := Left.next hl.out hb1.out hb2.out
              have hstep : diffTo L a b first (i + 1) = diffTo L a b first n ++ [q i] := by
                rw [diffTo_succ, if_pos nb', Hpart.out, diffTo_skip L a b first n i ni nn]
              obtain ⟨fnn, tmps, assign, body, hy, hR⟩ : YieldAt Fence.wide 0 Tryd.prog l (encN (q i)) (wr.drewN nq) fun e W' =>
                  (e = .returned (.bool true) ∧ ∃ K', Ext K2 K' ∧ J (pre ++ diffTo L a b first n ++ [q i]) K' W') ∨ (e = .returned (.bool false) ∧ Jx W') := by
                obtain ⟨r, hr⟩ := diffTo_prefix L a b first (i + 1) 16 (by omega)
                refine hY _ (q i) (r ++ post) K2 _ ?_ hj3
                rw [← Hx.out, hr, hstep]
                simp
              dsimp only [encN] at hy
              have Hstep := Lib.hid hstep
              have Nx := Lib.hid nx
              clear hstep nx nb' nn hj3
              go_upto_region 17 with (fail)
              rw [E14.out i hi16]
              refine (wpIn_wide (n := 0)).1 ?_
              gi_wp2_with (first | (refine ⟨rfl, ?_⟩; refine hR.mono ?_; clear hR; rintro e W' (⟨rfl, K3, hs3, hj4⟩ | ⟨rfl, hx4⟩)))
              · have Hj4 := Lib.hid hj4
                have Hs3 := Lib.hid hs3
                clear hj4 hs3 hy
                go_wp2_with fail
                go_roundw
                case rel => exact ⟨i + 1, m &&& (m - 1), K3, by omega, rfl, Nx.out, (by rw [Hstep.out, ← List.append_assoc]; exact Hj4.out : J (pre ++ diffTo L a b first (i + 1)) K3 _), he2.out.trans Hs3.out⟩
                case measure => simp [intOf]; exact hmlt
              · clear hy
                go_wp2_with fail
                go_ret
                exact .inr ⟨rfl, hx4⟩
            · rw [Bool.not_eq_true] at hbit
              rw [hbit] at hbx
              by_cases hch : a.chunk i = b.chunk i
              · have hpart : diffPart L a b first i = [] := by subst hL0; simp [diffPart, hbit, hch]
                have Hpart := Lib.hid hpart
                clear hpart
                have hcb : (a.chunk i != b.chunk i) = false := by simp [hch]
                have Hch := Lib.hid hch
                clear hch
                go_quiet (fail)
                clear hxor hbx c0a c0b c2a c2b hcb
                have hj3 := Lib.hid (hgrow _ _ _ _ _ hj2.out ((Below.refl wr.heap.size wr).drewN' nq) (hK2.drewN nq) (Fz.Le.refl _ _))
                obtain ⟨nx, ni, nb', nn⟩ := Left.next hl.out hb1.out hb2.out
                have hstep : diffTo L a b first (i + 1) = diffTo L a b first n := by
                  rw [diffTo_succ, if_pos nb', Hpart.out, diffTo_skip L a b first n i ni nn, List.append_nil]
                have Hstep := Lib.hid hstep
                have Nx := Lib.hid nx
                clear hstep nx nb' nn
                go_wp2_with fail
                go_roundw
                case rel => exact ⟨i + 1, m &&& (m - 1), K2, by omega, rfl, Nx.out, (by rw [Hstep.out]; exact hj3.out : J (pre ++ diffTo L a b first (i + 1)) K2 _), he2⟩
                case measure => simp [intOf]; exact hmlt
              · have hpart : diffPart L a b first i = [q i] := by subst hL0; simp [diffPart, hbit, hch, Hq.out]
                have Hpart := Lib.hid hpart
                clear hpart
                have hcb : (a.chunk i != b.chunk i) = true := by rw [bne_iff_ne]; exact hch
                clear hch
                go_quiet (fail)
                clear hxor hbx c0a c0b c2a c2b
                have hj3 := hgrow _ _ _ _ _ hj2.out ((Below.refl wr.heap.size wr).drewN' nq) (hK2.drewN nq) (Fz.Le.refl _ _)
                obtain ⟨nx, ni, nb', nn⟩ := Left.next hl.out hb1.out hb2.out
                have hstep : diffTo L a b first (i + 1) = diffTo L a b first n ++ [q i] := by
                  rw [diffTo_succ, if_pos nb', Hpart.out, diffTo_skip L a b first n i ni nn]
                obtain ⟨fnn, tmps, assign, body, hy, hR⟩ : YieldAt Fence.wide 0 Tryd.prog l (encN (q i)) (wr.drewN nq) fun e W' =>
                    (e = .returned (.bool true) ∧ ∃ K', Ext K2 K' ∧ J (pre ++ diffTo L a b first n ++ [q i]) K' W') ∨ (e = .returned (.bool false) ∧ Jx W') := by
                  obtain ⟨r, hr⟩ := diffTo_prefix L a b first (i + 1) 16 (by omega)
                  refine hY _ (q i) (r ++ post) K2 _ ?_ hj3
                  rw [← Hx.out, hr, hstep]
                  simp
                dsimp only [encN] at hy
                have Hstep := Lib.hid hstep
                have Nx := Lib.hid nx
                clear hstep nx nb' nn hj3
                go_upto_region 17 with (fail)
                rw [E14.out i hi16]
                refine (wpIn_wide (n := 0)).1 ?_
                gi_wp2_with (first | (refine ⟨rfl, ?_⟩; refine hR.mono ?_; clear hR; rintro e W' (⟨rfl, K3, hs3, hj4⟩ | ⟨rfl, hx4⟩)))
                · have Hj4 := Lib.hid hj4
                  have Hs3 := Lib.hid hs3
                  clear hj4 hs3 hy
                  go_wp2_with fail
                  go_roundw
                  case rel => exact ⟨i + 1, m &&& (m - 1), K3, by omega, rfl, Nx.out, (by rw [Hstep.out, ← List.append_assoc]; exact Hj4.out : J (pre ++ diffTo L a b first (i + 1)) K3 _), he2.out.trans Hs3.out⟩
                  case measure => simp [intOf]; exact hmlt
                · clear hy
                  go_wp2_with fail
                  go_ret
                  exact .inr ⟨rfl, hx4⟩
          · obtain ⟨M, rfl⟩ : ∃ M, L = M + 1 := ⟨L - 1, by omega⟩
            have hlt : 0 < lv := by have := Hlv.out; omega
            obtain ⟨q, hq⟩ : ∃ q : Nat → Nat, ∀ i, q i = first + i * 16 ^ (M + 1) := ⟨_, fun _ => rfl⟩
            have e14 : ∀ i : Nat, i < 16 → wrap64 ((first : Int) + wrap64 ((i : Int) * 2 ^ (4 * lv).toNat)) = (q i : Int) := by
              intro i hi
              rw [hq i, Hlv.out]
              exact wrap_at first i (M + 1) (at_lt hi hf)
            have Hq := Lib.hid hq
            have E14 := Lib.hid e14
            have Hf := Lib.hid hf
            clear hq e14 hf
            go_wp2_with (first
              | (go_at_call 77; refine (tz16_ok K2 m _ hK2 hT2.out hm hm0).mono ?_; rintro e W' ⟨i, rfl, hi16, hb1, hb2, rfl⟩; replace hb1 := Lib.hid hb1; replace hb2 := Lib.hid hb2)
              | fail)
            rw [E14.out i hi16]
            have c1a := (hK2.cell na2 (1 + i)).trans (nodeCells_kid _ _ _ i hi16)
            have c1b := (hK2.cell nb2 (1 + i)).trans (nodeCells_kid _ _ _ i hi16)
            have hj3 := Lib.hid (hgrow _ _ _ _ _ hj2.out ((Below.refl wr.heap.size wr).drew) hK2.drew (Fz.Le.refl _ _))
            obtain ⟨nx, ni, nb', nn⟩ := Left.next hl.out hb1.out hb2.out
            have hstep : diffTo (M + 1) a b first (i + 1) = diffTo (M + 1) a b first n ++ diffs M (a.kid i) (b.kid i) (q i) := by
              rw [diffTo_succ, if_pos nb', diffTo_skip (M + 1) a b first n i ni nn, Hq.out]
              rfl
            obtain ⟨r, hr⟩ := diffTo_prefix (M + 1) a b first (i + 1) 16 (by omega)
            have hxs : pre ++ diffTo (M + 1) a b first n ++ diffs M (a.kid i) (b.kid i) (q i) ++ (r ++ post) = xs := by
              rw [← Hx.out, hr, hstep]
              simp
            have hbd : q i + 16 ^ (M + 1) ≤ 4096 := by
              rw [Hq.out]
              have h1 : (i + 1) * 16 ^ (M + 1) ≤ 16 * 16 ^ (M + 1) := Nat.mul_le_mul_right _ (by omega)
              have h2 := Hf.out
              rw [Nat.pow_succ 16 (M + 1), Nat.mul_comm] at h2
              rw [Nat.add_mul] at h1
              omega
            have hlm : lv - 1 = M := by have := Hlv.out; omega
            have Hstep := Lib.hid hstep
            have Hxs := Lib.hid hxs
            have Hbd := Lib.hid hbd
            have Hlm := Lib.hid hlm
            have Nx := Lib.hid nx
            clear hstep hxs hbd hlm nx nb' nn hr
            go_region_with (first | (go_at_call 70; refine (IH'.out M rfl (a.kid i) (b.kid i) _ (q i) (pre ++ diffTo (M + 1) a b first n) (r ++ post) K2 _ Hlm.out (ha2.out.kid i) (hb2'.out.kid i) hT2.out (by exact hj3.out) Hxs.out Hbd.out).mono ?_; intro e W' hd; obtain ⟨tt, rfl, hd⟩ := hd.bool))
            all_goals
              clear c1a c1b
              cases tt
            all_goals
              go_wp2_with fail
              first
              | (go_ret
                 rcases hd with ⟨h, _⟩ | ⟨_, h⟩
                 · cases h
                 · exact .inr ⟨rfl, h⟩)
              | (rcases hd with ⟨h, K3, hs3, hj4⟩ | ⟨h, _⟩
                 · go_roundw
                   case rel => exact ⟨i + 1, m &&& (m - 1), K3, by omega, rfl, Nx.out, (by rw [Hstep.out, ← List.append_assoc]; exact hj4 : J (pre ++ diffTo (M + 1) a b first (i + 1)) K3 _), he2.out.trans hs3⟩
                   case measure => simp [intOf]; exact hmlt
                 · cases h)

theorem differ_ok : ∀ L, L ≤ 2 → DiffSaid Tryd.prog xs l J Jx L
  | 0, h => differ_step hIn hgrow hY 0 h (fun M e => by omega)
  | L + 1, h => differ_step hIn hgrow hY (L + 1) h (fun M e => by
      obtain rfl : M = L := by omega
      exact differ_ok M (by omega))
end
end Go.Proofs.YtdaagmhkhfcmdaaDoor
/- What changes and its closure do. -/
namespace Go.Proofs.YtdaagmhkhfcmdaaDoor
open Go Go.RowKit
set_option maxHeartbeats 400000

theorem treeV_cells (t : PT) (n : Int) : (treeV t n).cells = #[.pointer t.ptr, .int .i64 n] := rfl

set_option maxRecDepth 100000 in
theorem changes_ok (a b : PT) (na nb : Int) (K : Fz) (w : World) (hK : K.In w) :
    Calls Tryd.prog 55 #[treeV a na, treeV b nb] w (Ret K w fun K' v => ∃ ga gb, v = .func (.func 69) #[] #[.pointer (some ⟨ga, 0, none⟩), .pointer (some ⟨gb, 0, none⟩)] ∧
      K' ga = some (.cells #[.pointer a.ptr, .int .i64 na] 60 (0, 0)) ∧ K' gb = some (.cells #[.pointer b.ptr, .int .i64 nb] 60 (0, 0)) ∧ Ext K K') := by
  have s := St.start hK
  go_enter Tryd.func55, Tryd.ntmps55
  go_wp2_with (first
    | ((with_reducible refine gate_box (T := 60) (x := .tmp 0) ?_); refine wpList_boxG rfl rfl rfl (cs := #[.pointer a.ptr, .int .i64 na]) rfl ?_; intro g1 W1 e hn; have o1 := Own.made s e hn; replace s := s.new hn; clear e hn)
    | ((with_reducible refine gate_box (T := 60) (x := .tmp 1) ?_); refine wpList_boxG rfl rfl rfl (cs := #[.pointer b.ptr, .int .i64 nb]) rfl ?_; intro g2 W2 e hn; have n1_2 := o1.ne e; have o2 := Own.made s e hn; replace s := s.new hn; replace o1 := o1.new hn; clear e hn)
    | fail)
  go_ret
  have s1 := s.freeze o1
  have o2' := o2.freeze (o' := .cells #[.pointer a.ptr, .int .i64 na] 60 (0, 0)) (Ne.symm n1_2)
  have s2 := s1.freeze o2'
  refine s2.ret ⟨g1, g2, rfl, ?_, Fz.add_self _ _ _, ?_⟩
  · rw [Fz.add_other _ _ n1_2]; exact Fz.add_self _ _ _
  · exact Ext.of_le hK s2.le

set_option maxRecDepth 100000 in
theorem changes1_ok (a b : PT) (na nb : Int) (K : Fz) (ga gb : Nat) (ha : Tr 122 K a) (hb : Tr 122 K b) (ht : Tab K)
    (hga : K ga = some (.cells #[.pointer a.ptr, .int .i64 na] 60 (0, 0))) (hgb : K gb = some (.cells #[.pointer b.ptr, .int .i64 nb] 60 (0, 0))) :
    Iter Tryd.prog 69 #[.pointer (some ⟨ga, 0, none⟩), .pointer (some ⟨gb, 0, none⟩)] encN (diffs 2 a b 0) K := by
  intro l J Jx K1 W hE hIn hgrow hY hJ
  refine callsIn_wide.2 ?_
  have hi := hIn _ _ _ hJ
  have ca := hi.get (hE _ _ hga)
  have cb := hi.get (hE _ _ hgb)
  have hd := Lib.hid (differ_ok hIn hgrow hY 2 (by omega) a b 2 0 [] [] K1 W rfl (ha.ext hE) (hb.ext hE) (ht.ext hE) hJ (by simp) (by decide))
  go_enter Tryd.func69, Tryd.ntmps69
  go_wp2_with (first
    | ((with_reducible refine gate_load (x := .tmp 4) ?_); refine wpList_loadCell rfl rfl rfl Tryd.underlying58 rfl ca rfl ?_)
    | ((with_reducible refine gate_load (x := .tmp 6) ?_); refine wpList_loadCell rfl rfl rfl Tryd.underlying58 rfl cb rfl ?_)
    | (go_at_call 70; refine hd.out.mono ?_; rintro e W2 hend; obtain ⟨t, rfl, hh⟩ := hend.bool; clear hend)
    | fail)
  go_end0
  refine ⟨⟨_, rfl⟩, ?_⟩
  rcases hh with ⟨_, h⟩ | ⟨_, h⟩
  · exact .inl h
  · exact .inr h
end Go.Proofs.YtdaagmhkhfcmdaaDoor
/- What Diff does. -/
namespace Go.Proofs.YtdaagmhkhfcmdaaDoor
open Go Go.RowKit
set_option maxHeartbeats 400000

def encI (x : Nat) : List Value := [.int .i64 (x : Nat)]
theorem info_int : (Tryd.prog.info? 3).map (fun i => (i.zero, i.size, i.bytes)) = some (some (.int .i64 0), 1, 8) := by kernel_rfl
theorem zero_ints (w : World) : (zeroValue 36).run Tryd.prog w = .ok (.slice none 0 0) w := by kernel_rfl

/-- What a round of Diff keeps. -/
def DiffI (K0 : Fz) (w : World) (g : Nat) (pre : List Nat) (K : Fz) (W : World) : Prop :=
  St K0 w K W ∧ ∃ v, Own w K W g (.cells #[v] 36 (0, 0)) ∧ Row w K W 3 1 v pre.length (pre.flatMap encI) ∧ v.ownBlock ≠ some g ∧ ∃ a n c, v = .slice a n c

set_option maxRecDepth 100000 in
theorem Diff_ok (a b : PT) (na nb : Int) (K : Fz) (w : World) (hK : K.In w) (ha : Tr 122 K a) (hb : Tr 122 K b) (ht : Tab K) (hxs : (diffs 2 a b 0).length ≤ 100000) :
    Calls Tryd.prog 29 #[treeV a na, treeV b nb] w (Ret K w fun K' v => SlK K' 1 encI v (diffs 2 a b 0) ∧ Ext K K') := by
  have s := St.start hK
  refine callsIn_wide.1 (callsIn_of_wp_marks (n := 0) Tryd.func29 rfl trivial ?_)
  simp only [Tryd.ntmps29, List.size_toArray, List.length_cons, List.length_nil, Nat.reduceAdd, Nat.reduceSub, Array.replicate_succ, Array.replicate_zero, List.push_toArray, List.append_toArray, List.nil_append, List.cons_append]
  refine wpIn_seq (wpIn_wide.2 ?_)
  go_wp2_with (first
    | ((with_reducible refine gate_box (T := 60) (x := .tmp 0) ?_); refine wpList_boxG rfl rfl rfl (cs := #[.pointer a.ptr, .int .i64 na]) rfl ?_; intro g1 W1 e hn; have o1 := Own.made s e hn; replace s := s.new hn; clear e hn)
    | ((with_reducible refine gate_box (T := 60) (x := .tmp 1) ?_); refine wpList_boxG rfl rfl rfl (cs := #[.pointer b.ptr, .int .i64 nb]) rfl ?_; intro g2 W2 e hn; have n1_2 := o1.ne e; have o2 := Own.made s e hn; replace s := s.new hn; replace o1 := o1.new hn; clear e hn)
    | fail)
  refine wpIn_seq (wpIn_wide.2 ?_)
  go_wp2_with (first
    | ((with_reducible refine gate_alloc (T := 36) ?_); refine wpList_allocG rfl rfl zero_ints (cs := #[.slice none 0 0]) rfl ?_; intro g5 W3 e hn; have o5 := Own.made s e hn; replace s := s.new hn; replace o1 := o1.new hn; replace o2 := o2.new hn; clear e hn)
    | fail)
  refine wpIn_seq (wpIn_seq (wpIn_wide.2 ?_))
  go_wp2_with (first
    | ((with_reducible refine gate_load (T := 60) (x := .tmp 2) ?_); refine wpList_load_row rfl 60 _ rfl _ rfl 60 _ _ _ o1.at_ Tryd.underlying60 rfl (by rw [size_Tree]; rfl) ?_)
    | ((with_reducible refine gate_load (T := 60) (x := .tmp 3) ?_); refine wpList_load_row rfl 60 _ rfl _ rfl 60 _ _ _ o2.at_ Tryd.underlying60 rfl (by rw [size_Tree]; rfl) ?_)
    | (go_at_call 55; refine (changes_ok a b na nb K _ s.inn).mono ?_; rintro e W4 ⟨v, K', rfl, hi, hl, hb', ga, gb, rfl, hga, hgb, hE⟩; replace o5 := o5.call hl hb'; replace s := s.call hi hl hb'; clear o1 o2)
    | fail)
  have hit := changes1_ok a b na nb K' ga gb (ha.ext hE) (hb.ext hE) (ht.ext hE) hga hgb
  have hsz := s.size
  refine wpIn_block ?_
  refine range_ok (gf := 69) (lb := #[.pointer (some ⟨ga, 0, none⟩), .pointer (some ⟨gb, 0, none⟩)]) (K := K') rfl (by intro args w; rfl) hit (fun x => rfl)
    (DiffI K w g5) (fun _ _ _ => False) (fun pre K1 W1 h => h.1.inn) ?_ (fun _ _ _ h => h.elim) (fun _ _ _ _ _ h => h.elim) ?_
    (fun x => { tmps := #[treeV a na, treeV b nb, .pointer (some ⟨g1, 0, none⟩), .pointer (some ⟨g2, 0, none⟩), .slice none 0 0, .pointer (some ⟨g5, 0, none⟩), .int .i64 (x : Nat), treeV a na, treeV b nb, .func (.func 69) #[] #[.pointer (some ⟨ga, 0, none⟩), .pointer (some ⟨gb, 0, none⟩)], .int .i64 (x : Nat), undef, undef, undef, undef, undef], defers := [] }) ?_ ?_ ?_ ?_
  · rintro pre K1 W K2 W' ⟨s, v, o, r, hne, hv⟩ he
    exact ⟨s.ex he hsz, v, o.ex he, r.ex he, hne, hv⟩
  · exact ⟨s, _, o5, Row.nil _ _ _ _ _, by rintro ⟨⟩, _, _, _, rfl⟩
  · intro l x W N hN
    refine region_round (by rintro ⟨_, _, h⟩; exact h) rfl ?_
    simp only [encN, List.size_toArray, List.length_cons, List.length_nil]
    go_wp2
    exact hN
  · rintro l D r pre x rest K1 W hx hE1 ⟨s, v, o, rw, hne, va, vn, vc, rfl⟩ hl hD hlD hl0 hD0
    have hlen : pre.length + 1 ≤ 100000 := by have h := congrArg List.length hx; simp at h; omega
    have hlg := o.ne_of hl (not_plain_loop _)
    have hDg := o.ne_of hD (not_plain_def _)
    have hlr := rw.ne_of hl (not_plain_loop _)
    have hDr := rw.ne_of hD (not_plain_def _)
    refine wpIn_block (region_round (by rintro ⟨_, _, h⟩; exact h) rfl ?_)
    go_wp2_with (first
      | ((with_reducible refine gate_load (T := 36) (x := .tmp 5) ?_); refine wpList_loadCell rfl rfl rfl Tryd.underlying36 rfl o.at_ rfl ?_)
      | ((with_reducible refine gate_buildSlice (T := 36) ?_); refine wpList_buildSlice1 rfl rfl rfl (cs := #[.int .i64 (x : Nat)]) Tryd.underlying36 info_int (by decide) (by decide) (by kernel_rfl) ?_; intro gn W5 e hn; have hnew := hn.here; rw [← e] at hnew; replace s := s.new hn; replace o := o.new hn; replace rw := rw.new hn; replace hl := hn.at hl; replace hD := hn.at hD; clear hn e)
      | ((with_reducible refine gate_append ?_); refine wpList_appendRow rfl rfl Tryd.underlying36 info_int rfl (by decide) rfl s rw rfl (news := [.int .i64 (x : Nat)]) rfl (by simp) (cells_here hnew) (by simp [Value.oneCell']) (by omega) (by decide) ?_; intro v2 W6 r2 gr; have hne2 := o.apart gr hne; replace s := s.grown rw gr; replace o := o.grown gr hne; replace hl := gr.at hl hlr; replace hD := gr.at hD hDr; obtain ⟨a2, n2, c2, rfl⟩ := r2.form; clear gr rw hnew)
      | ((with_reducible refine gate_store (T := 36) ?_); refine wpList_storeAll rfl rfl rfl rfl (cs := #[.slice a2 n2 c2]) rfl o.at_ rfl (by kernel_rfl) (by simp [Value.oneCell']) ?_; intro W7 hu; replace s := s.upd o hu; replace r2 := r2.upd hu hne2; replace o := o.upd hu; replace hl := hu.at hl hlg; replace hD := hu.at hD hDg; clear hu)
      | fail)
    refine ⟨⟨K1, Ext.refl _, s, _, o, ?_, hne2, _, _, _, rfl⟩, hl, hD⟩
    simpa [List.flatMap_append, encI] using r2
  · rintro D K1 W hD hE2 ⟨s, v, o, rw, hne, va, vn, vc, rfl⟩ hd
    simp only [Exit.inBlock, Exit.then]
    refine wpIn_seq (wpIn_wide.2 ?_)
    go_wp2_with (first
      | ((with_reducible refine gate_load (T := 36) (x := .tmp 5) ?_); refine wpList_loadCell rfl rfl rfl Tryd.underlying36 rfl o.at_ rfl ?_)
      | fail)
    refine wpIn_ret ?_
    refine ⟨by simp, .inl ⟨_, _, rfl, run_takeDeferred hd, ?_⟩⟩
    refine ⟨_, results_tmp rfl _ _ _, ?_⟩
    obtain ⟨K3, s3, hE3, hS, hK3⟩ := rw.fix s (enc := encI) (fun _ => rfl) rfl rfl
    have he := Ex.of_put (B := W4.heap.size) (o' := .deferred none) s3.inn hD hd (not_plain_def _)
    have s4 := s3.ex he hsz
    exact s4.ret ⟨hS, hE.trans (hE2.trans hE3)⟩
  · intro D c K1 W _ h
    exact h.elim
end Go.Proofs.YtdaagmhkhfcmdaaDoor
