/- What walk yields. -/
import Derived.Deep.CutBlock
import Derived.Test.YtdaagmhkhfcmdaaDoorGB
import Derived.Test.YtdaagmhkhfcmdaaDoorGC
import Derived.Test.YtdaagmhkhfcmdaaDoorGD
namespace Go.Proofs.YtdaagmhkhfcmdaaDoor
open Go Go.RowKit
set_option maxHeartbeats 400000
set_option linter.unusedSectionVars false

/-- What a walk yields of the blocks from f to u. -/
def walkPart : Nat → PT → Int → Int → Int → Nat → List (Int × Int)
  | 0, t, first, _, _, i => [(first + (i : Nat), t.chunk i)]
  | L + 1, t, first, f, u, i => (List.range 16).flatMap fun j =>
      if (t.kid i).has.testBit j && !(decide (first + ((i * 16 ^ (L + 1) : Nat) : Int) + ((j * 16 ^ L : Nat) : Int) + ((16 ^ L : Nat) : Int) ≤ f) || decide (u ≤ first + ((i * 16 ^ (L + 1) : Nat) : Int) + ((j * 16 ^ L : Nat) : Int)))
        then walkPart L (t.kid i) (first + ((i * 16 ^ (L + 1) : Nat) : Int)) f u j else []
def walkIf (L : Nat) (t : PT) (first f u : Int) (i : Nat) : List (Int × Int) :=
  if t.has.testBit i && !(decide (first + ((i * 16 ^ L : Nat) : Int) + ((16 ^ L : Nat) : Int) ≤ f) || decide (u ≤ first + ((i * 16 ^ L : Nat) : Int))) then walkPart L t first f u i else []
def walkTo (L : Nat) (t : PT) (first f u : Int) (n : Nat) : List (Int × Int) := (List.range n).flatMap (walkIf L t first f u)
theorem walkTo_succ (L : Nat) (t : PT) (first f u : Int) (n : Nat) : walkTo L t first f u (n + 1) = walkTo L t first f u n ++ walkIf L t first f u n := by
  unfold walkTo; rw [List.range_succ, List.flatMap_append]; simp
theorem walkPart_succ (L : Nat) (t : PT) (first f u : Int) (i : Nat) : walkPart (L + 1) t first f u i = walkTo L (t.kid i) (first + ((i * 16 ^ (L + 1) : Nat) : Int)) f u 16 := rfl
theorem walkTo_nil (L : Nat) (first f u : Int) (n : Nat) : walkTo L .nil first f u n = [] := by
  unfold walkTo
  rw [List.flatMap_eq_nil_iff]
  intro i _
  simp [walkIf, PT.has]
theorem walkTo_prefix (L : Nat) (t : PT) (first f u : Int) (i n : Nat) (h : i ≤ n) : ∃ r, walkTo L t first f u n = walkTo L t first f u i ++ r := by
  induction n with
  | zero => exact ⟨[], by obtain rfl : i = 0 := by omega
                          rw [List.append_nil]⟩
  | succ n ih =>
    by_cases e : i = n + 1
    · subst e; exact ⟨[], by simp⟩
    · obtain ⟨r, hr⟩ := ih (by omega)
      exact ⟨r ++ walkIf L t first f u n, by rw [walkTo_succ, hr, List.append_assoc]⟩

def encP (x : Int × Int) : Array Value := #[.int .i64 x.1, .int .i64 x.2]

/-- How walk ends. -/
def WalkEnd (J : List (Int × Int) → Fz → World → Prop) (Jx : World → Prop) (K : Fz) (pre : List (Int × Int)) (e : Ending) (W : World) : Prop :=
  (e = .returned (.bool true) ∧ ∃ K', Ext K K' ∧ J pre K' W) ∨ (e = .returned (.bool false) ∧ Jx W)
theorem WalkEnd.bool {J : List (Int × Int) → Fz → World → Prop} {Jx : World → Prop} {K : Fz} {pre : List (Int × Int)} {e : Ending} {W : World} (h : WalkEnd J Jx K pre e W) :
    ∃ t : Bool, e = .returned (.bool t) ∧ Hid (WalkEnd J Jx K pre (.returned (.bool t)) W) := by
  rcases h with ⟨rfl, h⟩ | ⟨rfl, h⟩
  · exact ⟨true, rfl, .inl ⟨rfl, h⟩⟩
  · exact ⟨false, rfl, .inr ⟨rfl, h⟩⟩
theorem bit_eq (h i : Nat) (hh : h < 65536) : (bits BinOp.and IntKind.u16 ((h : Int) / 2 ^ i) 1 == 0) = !h.testBit i := by
  have := bit_ne h i hh
  rw [← this]; simp only [bne, Bool.not_not]

theorem pow_small {L : Nat} (hL : L ≤ 2) : 1 ≤ 16 ^ L ∧ 16 ^ L ≤ 256 := by
  rcases (show L = 0 ∨ L = 1 ∨ L = 2 by omega) with rfl | rfl | rfl <;> decide
theorem walk_at {first n L : Nat} (hn : n < 16) (hf : first + 16 ^ (L + 1) ≤ 4096) : first + n * 16 ^ L < 4096 := by
  have h1 : n * 16 ^ L < 16 * 16 ^ L := Nat.mul_lt_mul_of_pos_right hn (Nat.pow_pos (by omega))
  rw [Nat.pow_succ, Nat.mul_comm] at hf
  omega
theorem pow_lv {lv : Int} {L : Nat} (h : lv = L) (hL : L ≤ 2) : wrap64 (2 ^ (4 * lv).toNat) = ((16 ^ L : Nat) : Int) := by
  subst h
  have e4 : (4 * (L : Int)).toNat = 4 * L := by omega
  have e : ((2 : Int) ^ (4 * L)) = ((16 ^ L : Nat) : Int) := by rw [show (16 : Nat) ^ L = 2 ^ (4 * L) by rw [Nat.pow_mul]]; simp
  rw [e4, e]
  have := pow_small hL
  generalize 16 ^ L = p at *
  unfold wrap64
  omega
theorem walk_wrap {lv : Int} {first n L q : Nat} (h : lv = L) (hL : L ≤ 2) (hn : n < 16) (hf : first + 16 ^ (L + 1) ≤ 4096) (hq : q = first + n * 16 ^ L) :
    wrap64 ((first : Int) + wrap64 ((n : Int) * wrap64 (2 ^ (4 * lv).toNat))) = (q : Nat) := by
  rw [pow_lv h hL, ← Int.natCast_mul]
  have := walk_at hn hf
  generalize n * 16 ^ L = p at *
  unfold wrap64
  omega
theorem walk_wrap2 {lv : Int} {L q : Nat} (h : lv = L) (hL : L ≤ 2) (hq : q < 4096) : wrap64 ((q : Nat) + wrap64 (2 ^ (4 * lv).toNat)) = ((q + 16 ^ L : Nat) : Int) := by
  rw [pow_lv h hL]
  have := pow_small hL
  generalize 16 ^ L = p at *
  unfold wrap64
  omega

section
variable {l : Nat} {f u : Int} {xs : List (Int × Int)} {J : List (Int × Int) → Fz → World → Prop} {Jx : World → Prop}
variable (hIn : ∀ pre K W, J pre K W → K.In W)
variable (hgrow : ∀ pre K W K' W', J pre K W → Below W.heap.size W W' → K'.In W' → K.Le W.heap.size K' → J pre K' W')
variable (hY : ∀ pre x rest K W, pre ++ x :: rest = xs → J pre K W → YieldAt Fence.wide 0 Tryd.prog l (encP x) W fun e W' =>
      (e = .returned (.bool true) ∧ ∃ K', Ext K K' ∧ J (pre ++ [x]) K' W') ∨ (e = .returned (.bool false) ∧ Jx W'))
include hIn hgrow hY

/-- What is said of walk at a level. -/
def WalkSaid (P : Program) (f u : Int) (xs : List (Int × Int)) (l : Nat) (J : List (Int × Int) → Fz → World → Prop) (Jx : World → Prop) (L : Nat) : Prop :=
  ∀ (t : PT) (lv : Int) (first : Nat) (pre post : List (Int × Int)) (K : Fz) (W : World), lv = L → Tr 122 K t → J pre K W →
    pre ++ walkTo L t (first : Nat) f u 16 ++ post = xs → first + 16 ^ (L + 1) ≤ 4096 →
    Calls P 73 #[.pointer t.ptr, .int .i64 lv, .int .i64 (first : Nat), .int .i64 f, .int .i64 u, .func (.yield l) #[] #[]] W (WalkEnd J Jx K (pre ++ walkTo L t (first : Nat) f u 16))

set_option maxRecDepth 100000 in
set_option maxHeartbeats 4000000 in
theorem walk_step (L : Nat) (hL : L ≤ 2) (IH : ∀ M, L = M + 1 → WalkSaid Tryd.prog f u xs l J Jx M) : WalkSaid Tryd.prog f u xs l J Jx L := by
  intro t lv first pre post K W hlv ht hJ hx hf
  have hK := hIn _ _ _ hJ
  have IH' := Lib.hid IH
  have Hx := Lib.hid hx
  have hlv0 : 0 ≤ lv := by omega
  have hlv2 : lv ≤ 2 := by omega
  have Hlv := Lib.hid hlv
  clear IH hx hlv
  cases t with
  | nil =>
    have hp : PT.nil.ptr = none := rfl
    rw [walkTo_nil] at Hx ⊢
    go_enter Tryd.func73, Tryd.ntmps73
    go_wp2_with fail
    go_ret
    exact .inl ⟨rfl, K, Ext.refl K, by simpa using hJ⟩
  | node b h k c =>
    have hp : (PT.node b h k c).ptr = some ⟨b, 0, none⟩ := rfl
    have hkb := ht.1
    have c0 := ((hIn _ _ _ hJ).cell hkb 0).trans (nodeCells_has _ _ _)
    go_enter Tryd.func73, Tryd.ntmps73
    go_wp2_with fail
    go_loopw [21] (fun x wr => ∃ (n : Nat) (K2 : Fz), n ≤ 16 ∧ x = .int .i64 (n : Nat) ∧ Hid (J (pre ++ walkTo L (.node b h k c) (first : Nat) f u n) K2 wr) ∧ Hid (Ext K K2)) (fun x _ => 16 - (intOf x).toNat)
    case atStart => exact ⟨0, K, by omega, rfl, (by simpa [walkTo] using hJ : J (pre ++ walkTo L (.node b h k c) (first : Nat) f u 0) K _), Ext.refl _⟩
    case round =>
      clear hJ c0 hK
      obtain ⟨n, K2, hn, rfl, hj, he⟩ := hrel
      by_cases hlt : n < 16
      · have c0 := ((hIn _ _ _ hj.out).cell (he.out _ _ hkb) 0).trans (nodeCells_has _ _ _)
        have hbe := bit_eq h n ht.has
        obtain ⟨q, hq⟩ : ∃ q : Nat, q = first + n * 16 ^ L := ⟨_, rfl⟩
        have hq4 : q < 4096 := hq ▸ walk_at hlt hf
        have hz := pow_small hL
        have eat : wrap64 ((first : Int) + wrap64 ((n : Int) * wrap64 (2 ^ (4 * lv).toNat))) = (q : Nat) := walk_wrap Hlv.out hL hlt hf hq
        have esz : wrap64 ((q : Nat) + wrap64 (2 ^ (4 * lv).toNat)) = ((q + 16 ^ L : Nat) : Int) := walk_wrap2 Hlv.out hL hq4
        have hif : walkIf L (.node b h k c) (first : Nat) f u n = if h.testBit n && !(decide (((q + 16 ^ L : Nat) : Int) ≤ f) || decide (u ≤ (q : Nat))) then walkPart L (.node b h k c) (first : Nat) f u n else [] := by
          unfold walkIf
          rw [hq]
          simp only [PT.has, Int.natCast_add]
          rfl
        have hto := walkTo_succ L (.node b h k c) (first : Nat) f u n
        rw [hif] at hto
        obtain ⟨r, hr⟩ : ∃ r : Nat, q + 16 ^ L = r := ⟨_, rfl⟩
        rw [hr] at esz hto
        have Hto := Lib.hid hto
        have Hq := Lib.hid hq
        have Hf := Lib.hid hf
        clear hto hif hr hq hz hf
        by_cases hskip : h.testBit n = false ∨ ((r : Nat) : Int) ≤ f ∨ u ≤ (q : Nat)
        · have hnil : walkTo L (.node b h k c) (first : Nat) f u (n + 1) = walkTo L (.node b h k c) (first : Nat) f u n := by
            rw [Hto.out, if_neg, List.append_nil]
            rcases hskip with h1 | h1 | h1 <;> simp [h1]
          have Hnil := Lib.hid hnil
          clear hnil
          rcases hskip with hs | hs | hs
          · rw [hs] at hbe
            go_wp2_with fail
            go_roundw
            case rel => exact ⟨n + 1, K2, by omega, by go_num, by rw [Hnil.out]; exact hj, he⟩
            case measure => simp [intOf]; omega
          · have hd1 : decide (((r : Nat) : Int) ≤ f) = true := by simpa using hs
            cases hbit : h.testBit n
            all_goals
              rw [hbit] at hbe
              go_wp2_with fail
              go_roundw
              case rel => exact ⟨n + 1, K2, by omega, by go_num, by rw [Hnil.out]; exact hj, he⟩
              case measure => simp [intOf]; omega
          · have hd2 : decide (u ≤ ((q : Nat) : Int)) = true := by simpa using hs
            cases hbit : h.testBit n
            all_goals
              rw [hbit] at hbe
            · go_wp2_with fail
              go_roundw
              case rel => exact ⟨n + 1, K2, by omega, by go_num, by rw [Hnil.out]; exact hj, he⟩
              case measure => simp [intOf]; omega
            · by_cases hle : ((r : Nat) : Int) ≤ f
              · have hd1 : decide (((r : Nat) : Int) ≤ f) = true := by simpa using hle
                go_wp2_with fail
                go_roundw
                case rel => exact ⟨n + 1, K2, by omega, by go_num, by rw [Hnil.out]; exact hj, he⟩
                case measure => simp [intOf]; omega
              · have hd1 : decide (((r : Nat) : Int) ≤ f) = false := by simpa using hle
                go_wp2_with fail
                go_roundw
                case rel => exact ⟨n + 1, K2, by omega, by go_num, by rw [Hnil.out]; exact hj, he⟩
                case measure => simp [intOf]; omega
        · have hbit : h.testBit n = true := by
            cases e : h.testBit n with
            | true => rfl
            | false => exact (hskip (.inl e)).elim
          have h1 : ¬ ((r : Nat) : Int) ≤ f := fun e => hskip (.inr (.inl e))
          have h2 : ¬ u ≤ ((q : Nat) : Int) := fun e => hskip (.inr (.inr e))
          have hd1 : decide (((r : Nat) : Int) ≤ f) = false := by simp; omega
          have hd2 : decide (u ≤ ((q : Nat) : Int)) = false := by simp; omega
          have hstep : walkTo L (.node b h k c) (first : Nat) f u (n + 1) = walkTo L (.node b h k c) (first : Nat) f u n ++ walkPart L (.node b h k c) (first : Nat) f u n := by
            rw [Hto.out, if_pos]
            simp [hbit, hd1, hd2]
          rw [hbit] at hbe
          obtain ⟨rr, hrr⟩ := walkTo_prefix L (.node b h k c) (first : Nat) f u (n + 1) 16 (by omega)
          have Hstep := Lib.hid hstep
          have Hrr := Lib.hid hrr
          clear hskip hstep hrr h1 h2 hbit
          by_cases hL0 : L = 0
          · subst hL0
            have hl0 : lv = 0 := Hlv.out
            subst hl0
            have c2 := ((hIn _ _ _ hj.out).cell (he.out _ _ hkb) (17 + n)).trans (nodeCells_chunk _ _ _ n hlt)
            have hpart : walkPart 0 (.node b h k c) (first : Nat) f u n = [(((q : Nat) : Int), c n)] := by
              rw [Hq.out]; simp [walkPart, PT.chunk]
            obtain ⟨fnn, tmps, assign, body, hy, hR⟩ : YieldAt Fence.wide 0 Tryd.prog l (encP ((q : Nat), c n)) wr fun e W' =>
                (e = .returned (.bool true) ∧ ∃ K', Ext K2 K' ∧ J (pre ++ walkTo 0 (.node b h k c) (first : Nat) f u n ++ [(((q : Nat) : Int), c n)]) K' W') ∨ (e = .returned (.bool false) ∧ Jx W') := by
              refine hY _ ((q : Nat), c n) (rr ++ post) K2 _ ?_ hj.out
              rw [← Hx.out, Hrr.out, Hstep.out, hpart]
              simp
            dsimp only [encP] at hy
            have Hpart := Lib.hid hpart
            clear hpart
            have e2 : (2 : Int) ^ (4 * (0 : Int)).toNat = 1 := rfl
            rw [e2] at eat esz
            clear e2
            go_upto_region 9 with (fail)
            refine (wpIn_wide (n := 0)).1 ?_
            gi_wp2_with (first | (refine ⟨rfl, ?_⟩; refine hR.mono ?_; clear hR; rintro e W' (⟨rfl, K3, hs3, hj4⟩ | ⟨rfl, hx4⟩)))
            · have Hj4 := Lib.hid hj4
              have Hs3 := Lib.hid hs3
              clear hj4 hs3 hy
              refine ⟨trivial, ?_⟩
              gi_wp2_with fail
              go_wp2_with fail
              refine ⟨⟨_, _, _, _, _, _, _, _, _, _, _, _, _, _, _, _, _, _, _, _, _, _, _, _, _, _, _, _, _, _, _, _, _, _, _, _, _, _, _, _, _, _, _, _, _, _, _, _, _, _, _, _, _, _, _, _, _, _, _, _, _, _, _, _, _, _, ?rel, rfl⟩, ?measure⟩
              case rel => exact ⟨n + 1, K3, by omega, by go_num, (by rw [Hstep.out, Hpart.out, ← List.append_assoc]; exact Hj4.out : J (pre ++ walkTo 0 (.node b h k c) (first : Nat) f u (n + 1)) K3 _), he.out.trans Hs3.out⟩
              case measure => simp [intOf]; omega
            · exfalso; rename_i h1 h2; revert h1; simp [undef]
            · exfalso; rename_i h1 h2; revert h1; simp [undef]
            · clear hy
              refine ⟨trivial, ?_⟩
              gi_wp2_with fail
              go_wp2_with fail
              go_ret
              exact .inr ⟨rfl, hx4⟩
          · obtain ⟨M, rfl⟩ : ∃ M, L = M + 1 := ⟨L - 1, by omega⟩
            have hlt0 : 0 < lv := by have := Hlv.out; omega
            have hlm : lv - 1 = M := by have := Hlv.out; omega
            have c1 := ((hIn _ _ _ hj.out).cell (he.out _ _ hkb) (1 + n)).trans (nodeCells_kid _ _ _ n hlt)
            have hxs : pre ++ walkTo (M + 1) (.node b h k c) (first : Nat) f u n ++ walkTo M (k n) (q : Nat) f u 16 ++ (rr ++ post) = xs := by
              rw [← Hx.out, Hrr.out, Hstep.out, walkPart_succ, Hq.out]
              simp [PT.kid]
            have hbd : q + 16 ^ (M + 1) ≤ 4096 := by
              rw [Hq.out]
              have h1 : (n + 1) * 16 ^ (M + 1) ≤ 16 * 16 ^ (M + 1) := Nat.mul_le_mul_right _ (by omega)
              have h2 := Hf.out
              rw [Nat.pow_succ 16 (M + 1), Nat.mul_comm] at h2
              rw [Nat.add_mul] at h1
              omega
            have hpart : walkPart (M + 1) (.node b h k c) (first : Nat) f u n = walkTo M (k n) (q : Nat) f u 16 := by
              rw [walkPart_succ, Hq.out]; simp [PT.kid]
            have Hpart := Lib.hid hpart
            have Hxs := Lib.hid hxs
            have Hbd := Lib.hid hbd
            have Hlm := Lib.hid hlm
            have HT := Lib.hid ((ht.2.2 n).ext he.out)
            clear hpart hxs hbd hlm hL0
            go_wp2_with (first
              | (go_at_call 73; refine (IH'.out M rfl (k n) (lv - 1) q (pre ++ walkTo (M + 1) (.node b h k c) (first : Nat) f u n) (rr ++ post) K2 _ Hlm.out HT.out (by exact hj.out) Hxs.out Hbd.out).mono ?_; intro e W' hd; obtain ⟨tt, rfl, hd⟩ := hd.bool)
              | fail)
            all_goals
              cases tt
            all_goals first
              | (exfalso; rename_i hh; revert hh; decide)
              | (go_ret
                 rcases hd with ⟨h, _⟩ | ⟨_, h⟩
                 · cases h
                 · exact .inr ⟨rfl, h⟩)
              | (rcases hd with ⟨h, K3, hs3, hj4⟩ | ⟨h, _⟩
                 · refine ⟨⟨_, _, _, _, _, _, _, _, _, _, _, _, _, _, _, _, _, _, _, _, _, _, _, _, _, _, _, _, _, _, _, _, _, _, _, _, _, _, _, _, _, _, _, _, _, _, _, _, _, _, _, _, _, _, _, _, _, _, _, _, _, _, _, _, _, _, ?rel, rfl⟩, ?measure⟩
                   case rel => exact ⟨n + 1, K3, by omega, by go_num, (by rw [Hstep.out, Hpart.out, ← List.append_assoc]; exact hj4 : J (pre ++ walkTo (M + 1) (.node b _ k c) (first : Nat) f u (n + 1)) K3 _), he.out.trans hs3⟩
                   case measure => simp [intOf]; omega
                 · cases h)
      · obtain rfl : n = 16 := by omega
        go_wp2_with fail
        go_ret
        exact .inl ⟨rfl, K2, he.out, hj.out⟩

theorem walk_ok : ∀ L, L ≤ 2 → WalkSaid Tryd.prog f u xs l J Jx L
  | 0, h => walk_step hIn hgrow hY 0 h (fun M e => by omega)
  | L + 1, h => walk_step hIn hgrow hY (L + 1) h (fun M e => by
      obtain rfl : M = L := by omega
      exact walk_ok M (by omega))
end
end Go.Proofs.YtdaagmhkhfcmdaaDoor
/- What Range, All and the closure of Range do. -/
namespace Go.Proofs.YtdaagmhkhfcmdaaDoor
open Go Go.RowKit
set_option maxHeartbeats 400000

/-- The closure that Range returns. -/
def RangeV (t : PT) (n f u : Int) (K : Fz) (v : Value) : Prop := ∃ g1 g2 g3, v = .func (.func 72) #[] #[.pointer (some ⟨g1, 0, none⟩), .pointer (some ⟨g2, 0, none⟩), .pointer (some ⟨g3, 0, none⟩)] ∧
  K g1 = some (.cells #[.pointer t.ptr, .int .i64 n] 60 (0, 0)) ∧ K g2 = some (.cells #[.int .i64 f] 3 (0, 0)) ∧ K g3 = some (.cells #[.int .i64 u] 3 (0, 0))

set_option maxRecDepth 100000 in
theorem Range_ok (t : PT) (n f u : Int) (K : Fz) (w : World) (hK : K.In w) :
    Calls Tryd.prog 57 #[treeV t n, .int .i64 f, .int .i64 u] w (Ret K w fun K' v => RangeV t n f u K' v ∧ Ext K K') := by
  have s := St.start hK
  go_enter Tryd.func57, Tryd.ntmps57
  go_wp2_with (first
    | ((with_reducible refine gate_box (T := 60) (x := .tmp 0) ?_); refine wpList_boxG rfl rfl rfl (cs := #[.pointer t.ptr, .int .i64 n]) rfl ?_; intro g1 W1 e hn; have o1 := Own.made s e hn; replace s := s.new hn; clear e hn)
    | ((with_reducible refine gate_box (T := 3) (x := .tmp 1) ?_); refine wpList_boxG rfl rfl rfl (cs := #[.int .i64 f]) rfl ?_; intro g2 W2 e hn; have n1_2 := Lib.hid (o1.ne e); have o2 := Own.made s e hn; replace s := s.new hn; replace o1 := o1.new hn; clear e hn)
    | ((with_reducible refine gate_box (T := 3) (x := .tmp 2) ?_); refine wpList_boxG rfl rfl rfl (cs := #[.int .i64 u]) rfl ?_; intro g3 W3 e hn; have n1_3 := Lib.hid (o1.ne e); have n2_3 := Lib.hid (o2.ne e); have o3 := Own.made s e hn; replace s := s.new hn; replace o1 := o1.new hn; replace o2 := o2.new hn; clear e hn)
    | fail)
  go_ret
  have s1 := s.freeze o1
  have o2' := o2.freeze (o' := .cells #[.pointer t.ptr, .int .i64 n] 60 (0, 0)) n1_2.out.symm
  have s2 := s1.freeze o2'
  have o3' := (o3.freeze (o' := .cells #[.pointer t.ptr, .int .i64 n] 60 (0, 0)) n1_3.out.symm).freeze (o' := .cells #[.int .i64 f] 3 (0, 0)) n2_3.out.symm
  have s3 := s2.freeze o3'
  refine s3.ret ⟨⟨g1, g2, g3, rfl, ?_, ?_, Fz.add_self _ _ _⟩, Ext.of_le hK s3.le⟩
  · rw [Fz.add_other _ _ n1_3.out, Fz.add_other _ _ n1_2.out]; exact Fz.add_self _ _ _
  · rw [Fz.add_other _ _ n2_3.out]; exact Fz.add_self _ _ _

set_option maxRecDepth 100000 in
theorem All_ok (t : PT) (n : Int) (K : Fz) (w : World) (hK : K.In w) :
    Calls Tryd.prog 32 #[treeV t n] w (Ret K w fun K' v => RangeV t n 0 4096 K' v ∧ Ext K K') := by
  have s := St.start hK
  go_enter Tryd.func32, Tryd.ntmps32
  go_wp2_with (first
    | ((with_reducible refine gate_box (T := 60) (x := .tmp 0) ?_); refine wpList_boxG rfl rfl rfl (cs := #[.pointer t.ptr, .int .i64 n]) rfl ?_; intro g1 W1 e hn; have o1 := Own.made s e hn; replace s := s.new hn; clear e hn)
    | ((with_reducible refine gate_load (T := 60) ?_); refine wpList_load_row rfl 60 _ rfl _ rfl 60 _ _ _ o1.at_ Tryd.underlying60 rfl (by rw [size_Tree]; rfl) ?_)
    | (go_at_call 57; refine (Range_ok t n 0 4096 K _ s.inn).mono ?_; rintro e W4 ⟨v, K', rfl, hi, hl, hb, hx⟩; replace s := s.call hi hl hb; clear hi hl hb)
    | fail)
  go_ret
  exact s.ret hx

set_option maxRecDepth 100000 in
theorem Range1_ok (t : PT) (n f u : Int) (K : Fz) (g1 g2 g3 : Nat) (ht : Tr 122 K t)
    (h1 : K g1 = some (.cells #[.pointer t.ptr, .int .i64 n] 60 (0, 0))) (h2 : K g2 = some (.cells #[.int .i64 f] 3 (0, 0))) (h3 : K g3 = some (.cells #[.int .i64 u] 3 (0, 0))) :
    Iter Tryd.prog 72 #[.pointer (some ⟨g1, 0, none⟩), .pointer (some ⟨g2, 0, none⟩), .pointer (some ⟨g3, 0, none⟩)] encP (walkTo 2 t 0 f u 16) K := by
  intro l J Jx K1 W hE hIn hgrow hY hJ
  refine callsIn_wide.2 ?_
  have hi := hIn _ _ _ hJ
  have c1 := hi.get (hE _ _ h1)
  have c2 := hi.get (hE _ _ h2)
  have c3 := hi.get (hE _ _ h3)
  have hd := Lib.hid (walk_ok hIn hgrow hY 2 (by omega) t 2 0 [] [] K1 W rfl (ht.ext hE) hJ (show [] ++ walkTo 2 t ((0 : Nat) : Int) f u 16 ++ [] = walkTo 2 t 0 f u 16 by rw [List.append_nil]; rfl) (by decide))
  go_enter Tryd.func72, Tryd.ntmps72
  go_wp2_with (first
    | ((with_reducible refine gate_load (x := .tmp 5) ?_); refine wpList_loadCell rfl rfl rfl Tryd.underlying58 rfl c1 rfl ?_)
    | ((with_reducible refine gate_load (x := .tmp 2) ?_); refine wpList_loadCell rfl rfl rfl Tryd.underlying3 rfl c2 rfl ?_)
    | ((with_reducible refine gate_load (x := .tmp 3) ?_); refine wpList_loadCell rfl rfl rfl Tryd.underlying3 rfl c3 rfl ?_)
    | (go_at_call 73; refine hd.out.mono ?_; rintro e W2 hend; obtain ⟨t, rfl, hh⟩ := hend.bool; clear hend)
    | fail)
  go_end0
  refine ⟨⟨_, rfl⟩, ?_⟩
  rcases hh with ⟨_, h⟩ | ⟨_, h⟩
  · exact .inl h
  · exact .inr h
end Go.Proofs.YtdaagmhkhfcmdaaDoor
/- What a walk yields: no program in sight. -/
namespace Go.Proofs.YtdaagmhkhfcmdaaDoor
open Go

theorem or_off {a b : Bool} (h : (a || b) = false) : a = false ∧ b = false := by simpa using h
theorem pow_step (i M r : Nat) (hi : i < 16) (hr : r < M) : i * M + r < M * 16 := by
  calc i * M + r < i * M + M := by omega
    _ = (i + 1) * M := by rw [Nat.succ_mul]
    _ ≤ 16 * M := Nat.mul_le_mul_right _ (by omega)
    _ = M * 16 := Nat.mul_comm _ _

/-- What a walk yields of the blocks from f to u. -/
def walks : Nat → PT → Int → Int → Int → List (Int × Int)
  | 0, t, first, f, u => (List.range 16).flatMap fun i => if t.has.testBit i && !(decide (first + (i : Nat) + 1 ≤ f) || decide (u ≤ first + (i : Nat))) then [(first + (i : Nat), t.chunk i)] else []
  | L + 1, t, first, f, u => (List.range 16).flatMap fun i => if t.has.testBit i && !(decide (first + ((i * 16 ^ (L + 1) : Nat) : Int) + ((16 ^ (L + 1) : Nat) : Int) ≤ f) || decide (u ≤ first + ((i * 16 ^ (L + 1) : Nat) : Int))) then walks L (t.kid i) (first + ((i * 16 ^ (L + 1) : Nat) : Int)) f u else []

theorem walks_mem : ∀ (L : Nat) (t : PT) (first f u : Int), t.Wf L → ∀ x c, (x, c) ∈ walks L t first f u ↔ ∃ r : Nat, r < 16 ^ (L + 1) ∧ x = first + (r : Int) ∧ t.get L r = (c, true) ∧ f ≤ x ∧ x < u
  | 0, t, first, f, u, wt, x, c => by
    unfold walks
    simp only [List.mem_flatMap, List.mem_range]
    constructor
    · rintro ⟨i, hi, h⟩
      split at h
      · rename_i h2
        simp only [Bool.and_eq_true, Bool.not_eq_true', Bool.or_eq_false_iff, decide_eq_false_iff_not] at h2
        have hx : x = first + (i : Nat) ∧ c = t.chunk i := by simpa using h
        refine ⟨i, hi, hx.1, ?_, by omega, by omega⟩
        rw [get_low t hi, hx.2, h2.1]
      · simp at h
    · rintro ⟨i, hi, rfl, h, h1, h2⟩
      have hi : i < 16 := hi
      rw [get_low t hi] at h
      obtain ⟨e1, e2⟩ := Prod.mk.inj h
      refine ⟨i, hi, ?_⟩
      rw [if_pos]
      · simp [e1]
      · simp only [Bool.and_eq_true, Bool.not_eq_true', Bool.or_eq_false_iff, decide_eq_false_iff_not]
        exact ⟨e2, by omega, by omega⟩
  | L + 1, t, first, f, u, wt, x, c => by
    unfold walks
    simp only [List.mem_flatMap, List.mem_range]
    constructor
    · rintro ⟨i, hi, h⟩
      split at h
      · obtain ⟨r, hr, rfl, hg, h1, h2⟩ := (walks_mem L _ _ f u (wt.kid i) x c).1 h
        refine ⟨i * 16 ^ (L + 1) + r, ?_, by rw [Int.natCast_add]; omega, ?_, h1, h2⟩
        · rw [Nat.pow_succ 16 (L + 1)]; exact pow_step _ _ _ hi hr
        · rw [get_kid t hi hr]; exact hg
      · simp at h
    · rintro ⟨q, hq, rfl, hg, h1, h2⟩
      have hM : 0 < 16 ^ (L + 1) := Nat.pow_pos (by omega)
      have hi : q / 16 ^ (L + 1) < 16 := by
        rw [Nat.div_lt_iff_lt_mul hM, Nat.mul_comm, ← Nat.pow_succ]; exact hq
      have hr : q % 16 ^ (L + 1) < 16 ^ (L + 1) := Nat.mod_lt _ hM
      have e : q / 16 ^ (L + 1) * 16 ^ (L + 1) + q % 16 ^ (L + 1) = q := Nat.div_add_mod' _ _
      rw [← e, get_kid t hi hr] at hg
      have hbit : t.has.testBit (q / 16 ^ (L + 1)) = true := by
        cases hb : t.has.testBit (q / 16 ^ (L + 1)) with
        | true => rfl
        | false => rw [(wt.kid_nil hi).1 hb, get_nil] at hg; cases hg
      refine ⟨q / 16 ^ (L + 1), hi, ?_⟩
      have hx : first + (q : Int) = first + ((q / 16 ^ (L + 1) * 16 ^ (L + 1) : Nat) : Int) + ((q % 16 ^ (L + 1) : Nat) : Int) := by
        rw [Int.add_assoc, ← Int.natCast_add, e]
      rw [hx] at h1 h2 ⊢
      generalize q % 16 ^ (L + 1) = r at *
      generalize q / 16 ^ (L + 1) = i at *
      generalize he : 16 ^ (L + 1) = M at *
      rw [if_pos]
      · exact (walks_mem L _ _ f u (wt.kid i) _ c).2 ⟨r, by omega, rfl, hg, h1, h2⟩
      · rw [hbit]
        simp only [Bool.and_eq_true, Bool.not_eq_true', Bool.or_eq_false_iff, decide_eq_false_iff_not]
        exact ⟨trivial, by omega, by omega⟩

theorem flat_srt2 {f : Nat → Ents} {first : Int} {M : Nat} : ∀ n, (∀ i, i < n → Srt (f i)) → (∀ i, i < n → ∀ x ∈ f i, first + ((i * M : Nat) : Int) ≤ x.1 ∧ x.1 < first + ((i * M : Nat) : Int) + M) → Srt ((List.range n).flatMap f)
  | 0, _, _ => by simp [Srt]
  | n + 1, h1, h2 => by
    unfold Srt
    rw [List.range_succ, List.flatMap_append, List.pairwise_append]
    refine ⟨flat_srt2 n (fun i hi => h1 i (by omega)) (fun i hi => h2 i (by omega)), by simpa [Srt] using h1 n (by omega), ?_⟩
    intro x hx y hy
    obtain ⟨i, hi, hx⟩ := List.mem_flatMap.1 hx
    rw [List.mem_range] at hi
    have h3 := h2 i (by omega) x hx
    have h4 := h2 n (by omega) y (by simpa using hy)
    have h5 : (i + 1) * M ≤ n * M := Nat.mul_le_mul_right _ hi
    rw [Nat.succ_mul] at h5
    generalize i * M = a at *
    generalize n * M = b at *
    omega
theorem walks_srt : ∀ (L : Nat) (t : PT) (first f u : Int), t.Wf L → Srt (walks L t first f u)
  | 0, t, first, f, u, wt => by
    unfold walks
    refine flat_srt2 (first := first) (M := 1) 16 (fun i hi => ?_) (fun i hi x hx => ?_)
    · split <;> simp [Srt]
    · split at hx
      · obtain rfl := List.mem_singleton.1 hx
        simp only
        omega
      · simp at hx
  | L + 1, t, first, f, u, wt => by
    unfold walks
    refine flat_srt2 (first := first) (M := 16 ^ (L + 1)) 16 (fun i hi => ?_) (fun i hi x hx => ?_)
    · split
      · exact walks_srt L _ _ f u (wt.kid i)
      · simp [Srt]
    · split at hx
      · obtain ⟨r, hr, e, _⟩ := (walks_mem L _ _ f u (wt.kid i) x.1 x.2).1 hx
        rw [e]
        generalize 16 ^ (L + 1) = M at *
        generalize i * M = a at *
        omega
      · simp at hx

/-- What Range yields. -/
theorem Rep.walks {t : PT} {n : Int} {L : Ents} (h : Rep t n L) (f u : Int) : Go.Proofs.YtdaagmhkhfcmdaaDoor.walks 2 t 0 f u = L.filter (inR f u) := by
  refine sorted_ext Prod.fst _ _ (walks_srt 2 t 0 f u h.wf) (List.Pairwise.filter _ h.srt) fun x => ?_
  obtain ⟨x, c⟩ := x
  rw [walks_mem 2 t 0 f u h.wf, List.mem_filter, ← rget_mem h.srt, ← h.look]
  simp only [inR, Bool.and_eq_true, decide_eq_true_eq]
  constructor
  · rintro ⟨r, hr, rfl, hg, h1, h2⟩
    have hr : r < 4096 := hr
    refine ⟨?_, h1, h2⟩
    unfold PT.look
    rw [if_pos (by omega)]
    have : (0 + (r : Int)).toNat = r := by omega
    rw [this]; exact hg
  · rintro ⟨hl, h1, h2⟩
    unfold PT.look at hl
    by_cases hv : 0 ≤ x ∧ x < 4096
    · rw [if_pos hv] at hl
      exact ⟨x.toNat, by have : (16 : Nat) ^ (2 + 1) = 4096 := rfl; omega, by omega, hl, h1, h2⟩
    · rw [if_neg hv] at hl; cases hl
theorem walkPart_walks : ∀ (L : Nat) (t : PT) (first f u : Int), walkTo L t first f u 16 = walks L t first f u
  | 0, t, first, f, u => by
    unfold walkTo walks
    congr 1
    funext i
    unfold walkIf walkPart
    simp
  | L + 1, t, first, f, u => by
    unfold walkTo walks
    congr 1
    funext i
    unfold walkIf
    rw [walkPart_succ, walkPart_walks L]

end Go.Proofs.YtdaagmhkhfcmdaaDoor
