/- What walk yields. -/
import Derived.Deep.CutBlock
import Derived.Test.YtdaagmhkhfcmdaaTreeE
import Derived.Test.YtdaagmhkhfcmdaaRng
namespace Go.Proofs.Ytdaagmhkhfcmdaa
open Go Go.RowKit
set_option maxHeartbeats 400000
set_option linter.unusedSectionVars false

/-- What a walk yields of the blocks from f to u. -/
def walkPart : Nat → PT → Int → Int → Int → Nat → List (Int × Int)
  | 0, t, first, _, _, i => [(first + (i : Nat), t.chunk i)]
  | L + 1, t, first, f, u, i => (List.range 16).flatMap fun j =>
      if (t.kid i).has.testBit j && !(decide (first + ((i * 16 ^ (L + 1) : Nat) : Int) + ((j * 16 ^ L : Nat) : Int) + ((16 ^ L : Nat) : Int) ≤ f) || decide (u ≤ first + ((i * 16 ^ (L + 1) : Nat) : Int) + ((j * 16 ^ L : Nat) : Int)))
        then walkPart L (t.kid i) (first + ((i * 16 ^ (L + 1) : Nat) : Int)) f u j else []
def walkIf (L : Nat) (t : PT) (first f u : Int) (i : Nat) : List (Int × Int) :=
  if t.has.testBit i && !(decide (first + ((i * 16 ^ L : Nat) : Int) + ((16 ^ L : Nat) : Int) ≤ f) || decide (u ≤ first + ((i * 16 ^ L : Nat) : Int))) then walkPart L t first f u i else []
def walkTo (L : Nat) (t : PT) (first f u : Int) (n : Nat) : List (Int × Int) := (List.range n).flatMap (walkIf L t first f u)
theorem walkTo_succ (L : Nat) (t : PT) (first f u : Int) (n : Nat) : walkTo L t first f u (n + 1) = walkTo L t first f u n ++ walkIf L t first f u n := by
  unfold walkTo; rw [List.range_succ, List.flatMap_append]; simp
theorem walkPart_succ (L : Nat) (t : PT) (first f u : Int) (i : Nat) : walkPart (L + 1) t first f u i = walkTo L (t.kid i) (first + ((i * 16 ^ (L + 1) : Nat) : Int)) f u 16 := rfl
theorem walkTo_nil (L : Nat) (first f u : Int) (n : Nat) : walkTo L .nil first f u n = [] := by
  unfold walkTo
  rw [List.flatMap_eq_nil_iff]
  intro i _
  simp [walkIf, PT.has]
theorem walkTo_prefix (L : Nat) (t : PT) (first f u : Int) (i n : Nat) (h : i ≤ n) : ∃ r, walkTo L t first f u n = walkTo L t first f u i ++ r := by
  induction n with
  | zero => exact ⟨[], by obtain rfl : i = 0 := by omega
                          rw [List.append_nil]⟩
  | succ n ih =>
    by_cases e : i = n + 1
    · subst e; exact ⟨[], by simp⟩
    · obtain ⟨r, hr⟩ := ih (by omega)
      exact ⟨r ++ walkIf L t first f u n, by rw [walkTo_succ, hr, List.append_assoc]⟩

def encP (x : Int × Int) : Array Value := #[.int .i64 x.1, .int .i64 x.2]

/-- How walk ends. -/
def WalkEnd (J : List (Int × Int) → Fz → World → Prop) (Jx : World → Prop) (K : Fz) (pre : List (Int × Int)) (e : Ending) (W : World) : Prop :=
  (e = .returned (.bool true) ∧ ∃ K', Ext K K' ∧ J pre K' W) ∨ (e = .returned (.bool false) ∧ Jx W)
theorem WalkEnd.bool {J : List (Int × Int) → Fz → World → Prop} {Jx : World → Prop} {K : Fz} {pre : List (Int × Int)} {e : Ending} {W : World} (h : WalkEnd J Jx K pre e W) :
    ∃ t : Bool, e = .returned (.bool t) ∧ Hid (WalkEnd J Jx K pre (.returned (.bool t)) W) := by
  rcases h with ⟨rfl, h⟩ | ⟨rfl, h⟩
  · exact ⟨true, rfl, .inl ⟨rfl, h⟩⟩
  · exact ⟨false, rfl, .inr ⟨rfl, h⟩⟩
theorem bit_eq (h i : Nat) (hh : h < 65536) : (bits BinOp.and IntKind.u16 ((h : Int) / 2 ^ i) 1 == 0) = !h.testBit i := by
  have := bit_ne h i hh
  rw [← this]; simp only [bne, Bool.not_not]

theorem pow_small {L : Nat} (hL : L ≤ 2) : 1 ≤ 16 ^ L ∧ 16 ^ L ≤ 256 := by
  rcases (show L = 0 ∨ L = 1 ∨ L = 2 by omega) with rfl | rfl | rfl <;> decide
theorem walk_at {first n L : Nat} (hn : n < 16) (hf : first + 16 ^ (L + 1) ≤ 4096) : first + n * 16 ^ L < 4096 := by
  have h1 : n * 16 ^ L < 16 * 16 ^ L := Nat.mul_lt_mul_of_pos_right hn (Nat.pow_pos (by omega))
  rw [Nat.pow_succ, Nat.mul_comm] at hf
  omega
theorem pow_lv {lv : Int} {L : Nat} (h : lv = L) (hL : L ≤ 2) : wrap64 (2 ^ (4 * lv).toNat) = ((16 ^ L : Nat) : Int) := by
  subst h
  have e4 : (4 * (L : Int)).toNat = 4 * L := by omega
  have e : ((2 : Int) ^ (4 * L)) = ((16 ^ L : Nat) : Int) := by rw [show (16 : Nat) ^ L = 2 ^ (4 * L) by rw [Nat.pow_mul]]; simp
  rw [e4, e]
  have := pow_small hL
  generalize 16 ^ L = p at *
  unfold wrap64
  omega
theorem walk_wrap {lv : Int} {first n L q : Nat} (h : lv = L) (hL : L ≤ 2) (hn : n < 16) (hf : first + 16 ^ (L + 1) ≤ 4096) (hq : q = first + n * 16 ^ L) :
    wrap64 ((first : Int) + wrap64 ((n : Int) * wrap64 (2 ^ (4 * lv).toNat))) = (q : Nat) := by
  rw [pow_lv h hL, ← Int.natCast_mul]
  have := walk_at hn hf
  generalize n * 16 ^ L = p at *
  unfold wrap64
  omega
theorem walk_wrap2 {lv : Int} {L q : Nat} (h : lv = L) (hL : L ≤ 2) (hq : q < 4096) : wrap64 ((q : Nat) + wrap64 (2 ^ (4 * lv).toNat)) = ((q + 16 ^ L : Nat) : Int) := by
  rw [pow_lv h hL]
  have := pow_small hL
  generalize 16 ^ L = p at *
  unfold wrap64
  omega

section
variable {l : Nat} {f u : Int} {xs : List (Int × Int)} {J : List (Int × Int) → Fz → World → Prop} {Jx : World → Prop}
variable (hIn : ∀ pre K W, J pre K W → K.In W)
variable (hgrow : ∀ pre K W K' W', J pre K W → Below W.heap.size W W' → K'.In W' → K.Le W.heap.size K' → J pre K' W')
variable (hY : ∀ pre x rest K W, pre ++ x :: rest = xs → J pre K W → YieldAt Fence.wide 0 Try.prog l (encP x) W fun e W' =>
      (e = .returned (.bool true) ∧ ∃ K', Ext K K' ∧ J (pre ++ [x]) K' W') ∨ (e = .returned (.bool false) ∧ Jx W'))
include hIn hgrow hY

/-- What is said of walk at a level. -/
def WalkSaid (P : Program) (f u : Int) (xs : List (Int × Int)) (l : Nat) (J : List (Int × Int) → Fz → World → Prop) (Jx : World → Prop) (L : Nat) : Prop :=
  ∀ (t : PT) (lv : Int) (first : Nat) (pre post : List (Int × Int)) (K : Fz) (W : World), lv = L → Tr 153 K t → J pre K W →
    pre ++ walkTo L t (first : Nat) f u 16 ++ post = xs → first + 16 ^ (L + 1) ≤ 4096 →
    Calls P 101 #[.pointer t.ptr, .int .i64 lv, .int .i64 (first : Nat), .int .i64 f, .int .i64 u, .func (.yield l) #[] #[]] W (WalkEnd J Jx K (pre ++ walkTo L t (first : Nat) f u 16))

set_option maxRecDepth 100000 in
set_option maxHeartbeats 4000000 in
theorem walk_step (L : Nat) (hL : L ≤ 2) (IH : ∀ M, L = M + 1 → WalkSaid Try.prog f u xs l J Jx M) : WalkSaid Try.prog f u xs l J Jx L := by
  intro t lv first pre post K W hlv ht hJ hx hf
  have hK := hIn _ _ _ hJ
  have IH' := Lib.hid IH
  have Hx := Lib.hid hx
  have hlv0 : 0 ≤ lv := by omega
  have hlv2 : lv ≤ 2 := by omega
  have Hlv := Lib.hid hlv
  clear IH hx hlv
  cases t with
  | nil =>
    have hp : PT.nil.ptr = none := rfl
    rw [walkTo_nil] at Hx ⊢
    go_enter Try.func101, Try.ntmps101
    go_wp2_with fail
    go_ret
    exact .inl ⟨rfl, K, Ext.refl K, by simpa using hJ⟩
  | node b h k c =>
    have hp : (PT.node b h k c).ptr = some ⟨b, 0, none⟩ := rfl
    have hkb := ht.1
    have c0 := ((hIn _ _ _ hJ).cell hkb 0).trans (nodeCells_has _ _ _)
    go_enter Try.func101, Try.ntmps101
    go_wp2_with fail
    go_loopw [21] (fun x wr => ∃ (n : Nat) (K2 : Fz), n ≤ 16 ∧ x = .int .i64 (n : Nat) ∧ Hid (J (pre ++ walkTo L (.node b h k c) (first : Nat) f u n) K2 wr) ∧ Hid (Ext K K2)) (fun x _ => 16 - (intOf x).toNat)
    case atStart => exact ⟨0, K, by omega, rfl, (by simpa [walkTo] using hJ : J (pre ++ walkTo L (.node b h k c) (first : Nat) f u 0) K _), Ext.refl _⟩
    case round =>
      clear hJ c0 hK
      obtain ⟨n, K2, hn, rfl, hj, he⟩ := hrel
      by_cases hlt : n < 16
      · have c0 := ((hIn _ _ _ hj.out).cell (he.out _ _ hkb) 0).trans (nodeCells_has _ _ _)
        have hbe := bit_eq h n ht.has
        obtain ⟨q, hq⟩ : ∃ q : Nat, q = first + n * 16 ^ L := ⟨_, rfl⟩
        have hq4 : q < 4096 := hq ▸ walk_at hlt hf
        have hz := pow_small hL
        have eat : wrap64 ((first : Int) + wrap64 ((n : Int) * wrap64 (2 ^ (4 * lv).toNat))) = (q : Nat) := walk_wrap Hlv.out hL hlt hf hq
        have esz : wrap64 ((q : Nat) + wrap64 (2 ^ (4 * lv).toNat)) = ((q + 16 ^ L : Nat) : Int) := walk_wrap2 Hlv.out hL hq4
        have hif : walkIf L (.node b h k c) (first : Nat) f u n = if h.testBit n && !(decide (((q + 16 ^ L : Nat) : Int) ≤ f) || decide (u ≤ (q : Nat))) then walkPart L (.node b h k c) (first : Nat) f u n else [] := by
          unfold walkIf
          rw [hq]
          simp only [PT.has, Int.natCast_add]
          rfl
        have hto := walkTo_succ L (.node b h k c) (first : Nat) f u n
        rw [hif] at hto
        obtain ⟨r, hr⟩ : ∃ r : Nat, q + 16 ^ L = r := ⟨_, rfl⟩
        rw [hr] at esz hto
        have Hto := Lib.hid hto
        have Hq := Lib.hid hq
        have Hf := Lib.hid hf
        clear hto hif hr hq hz hf
        by_cases hskip : h.testBit n = false ∨ ((r : Nat) : Int) ≤ f ∨ u ≤ (q : Nat)
        · have hnil : walkTo L (.node b h k c) (first : Nat) f u (n + 1) = walkTo L (.node b h k c) (first : Nat) f u n := by
            rw [Hto.out, if_neg, List.append_nil]
            rcases hskip with h1 | h1 | h1 <;> simp [h1]
          have Hnil := Lib.hid hnil
          clear hnil
          rcases hskip with hs | hs | hs
          · rw [hs] at hbe
            go_wp2_with fail
            go_roundw
            case rel => exact ⟨n + 1, K2, by omega, by go_num, by rw [Hnil.out]; exact hj, he⟩
            case measure => simp [intOf]; omega
          · have hd1 : decide (((r : Nat) : Int) ≤ f) = true := by simpa using hs
            cases hbit : h.testBit n
            all_goals
              rw [hbit] at hbe
              go_wp2_with fail
              go_roundw
              case rel => exact ⟨n + 1, K2, by omega, by go_num, by rw [Hnil.out]; exact hj, he⟩
              case measure => simp [intOf]; omega
          · have hd2 : decide (u ≤ ((q : Nat) : Int)) = true := by simpa using hs
            cases hbit : h.testBit n
            all_goals
              rw [hbit] at hbe
            · go_wp2_with fail
              go_roundw
              case rel => exact ⟨n + 1, K2, by omega, by go_num, by rw [Hnil.out]; exact hj, he⟩
              case measure => simp [intOf]; omega
            · by_cases hle : ((r : Nat) : Int) ≤ f
              · have hd1 : decide (((r : Nat) : Int) ≤ f) = true := by simpa using hle
                go_wp2_with fail
                go_roundw
                case rel => exact ⟨n + 1, K2, by omega, by go_num, by rw [Hnil.out]; exact hj, he⟩
                case measure => simp [intOf]; omega
              · have hd1 : decide (((r : Nat) : Int) ≤ f) = false := by simpa using hle
                go_wp2_with fail
                go_roundw
                case rel => exact ⟨n + 1, K2, by omega, by go_num, by rw [Hnil.out]; exact hj, he⟩
                case measure => simp [intOf]; omega
        · have hbit : h.testBit n = true := by
            cases e : h.testBit n with
            | true => rfl
            | false => exact (hskip (.inl e)).elim
          have h1 : ¬ ((r : Nat) : Int) ≤ f := fun e => hskip (.inr (.inl e))
          have h2 : ¬ u ≤ ((q : Nat) : Int) := fun e => hskip (.inr (.inr e))
          have hd1 : decide (((r : Nat) : Int) ≤ f) = false := by simp; omega
          have hd2 : decide (u ≤ ((q : Nat) : Int)) = false := by simp; omega
          have hstep : walkTo L (.node b h k c) (first : Nat) f u (n + 1) = walkTo L (.node b h k c) (first : Nat) f u n ++ walkPart L (.node b h k c) (first : Nat) f u n := by
            rw [Hto.out, if_pos]
            simp [hbit, hd1, hd2]
          rw [hbit] at hbe
          obtain ⟨rr, hrr⟩ := walkTo_prefix L (.node b h k c) (first : Nat) f u (n + 1) 16 (by omega)
          have Hstep := Lib.hid hstep
          have Hrr := Lib.hid hrr
          clear hskip hstep hrr h1 h2 hbit
          by_cases hL0 : L = 0
          · subst hL0
            have hl0 : lv = 0 := Hlv.out
            subst hl0
            have c2 := ((hIn _ _ _ hj.out).cell (he.out _ _ hkb) (17 + n)).trans (nodeCells_chunk _ _ _ n hlt)
            have hpart : walkPart 0 (.node b h k c) (first : Nat) f u n = [(((q : Nat) : Int), c n)] := by
              rw [Hq.out]; simp [walkPart, PT.chunk]
            obtain ⟨fnn, tmps, assign, body, hy, hR⟩ : YieldAt Fence.wide 0 Try.prog l (encP ((q : Nat), c n)) wr fun e W' =>
                (e = .returned (.bool true) ∧ ∃ K', Ext K2 K' ∧ J (pre ++ walkTo 0 (.node b h k c) (first : Nat) f u n ++ [(((q : Nat) : Int), c n)]) K' W') ∨ (e = .returned (.bool false) ∧ Jx W') := by
              refine hY _ ((q : Nat), c n) (rr ++ post) K2 _ ?_ hj.out
              rw [← Hx.out, Hrr.out, Hstep.out, hpart]
              simp
            dsimp only [encP] at hy
            have Hpart := Lib.hid hpart
            clear hpart
            have e2 : (2 : Int) ^ (4 * (0 : Int)).toNat = 1 := rfl
            rw [e2] at eat esz
            clear e2
            go_upto_region 9 with (fail)
            refine (wpIn_wide (n := 0)).1 ?_
            gi_wp2_with (first | (refine ⟨rfl, ?_⟩; refine hR.mono ?_; clear hR; rintro e W' (⟨rfl, K3, hs3, hj4⟩ | ⟨rfl, hx4⟩)))
            · have Hj4 := Lib.hid hj4
              have Hs3 := Lib.hid hs3
              clear hj4 hs3 hy
              refine ⟨trivial, ?_⟩
              gi_wp2_with fail
              go_wp2_with fail
              refine ⟨⟨_, _, _, _, _, _, _, _, _, _, _, _, _, _, _, _, _, _, _, _, _, _, _, _, _, _, _, _, _, _, _, _, _, _, _, _, _, _, _, _, _, _, _, _, _, _, _, _, _, _, _, _, _, _, _, _, _, _, _, _, _, _, _, _, _, _, ?rel, rfl⟩, ?measure⟩
              case rel => exact ⟨n + 1, K3, by omega, by go_num, (by rw [Hstep.out, Hpart.out, ← List.append_assoc]; exact Hj4.out : J (pre ++ walkTo 0 (.node b h k c) (first : Nat) f u (n + 1)) K3 _), he.out.trans Hs3.out⟩
              case measure => simp [intOf]; omega
            · exfalso; rename_i h1 h2; revert h1; simp [undef]
            · exfalso; rename_i h1 h2; revert h1; simp [undef]
            · clear hy
              refine ⟨trivial, ?_⟩
              gi_wp2_with fail
              go_wp2_with fail
              go_ret
              exact .inr ⟨rfl, hx4⟩
          · obtain ⟨M, rfl⟩ : ∃ M, L = M + 1 := ⟨L - 1, by omega⟩
            have hlt0 : 0 < lv := by have := Hlv.out; omega
            have hlm : lv - 1 = M := by have := Hlv.out; omega
            have c1 := ((hIn _ _ _ hj.out).cell (he.out _ _ hkb) (1 + n)).trans (nodeCells_kid _ _ _ n hlt)
            have hxs : pre ++ walkTo (M + 1) (.node b h k c) (first : Nat) f u n ++ walkTo M (k n) (q : Nat) f u 16 ++ (rr ++ post) = xs := by
              rw [← Hx.out, Hrr.out, Hstep.out, walkPart_succ, Hq.out]
              simp [PT.kid]
            have hbd : q + 16 ^ (M + 1) ≤ 4096 := by
              rw [Hq.out]
              have h1 : (n + 1) * 16 ^ (M + 1) ≤ 16 * 16 ^ (M + 1) := Nat.mul_le_mul_right _ (by omega)
              have h2 := Hf.out
              rw [Nat.pow_succ 16 (M + 1), Nat.mul_comm] at h2
              rw [Nat.add_mul] at h1
              omega
            have hpart : walkPart (M + 1) (.node b h k c) (first : Nat) f u n = walkTo M (k n) (q : Nat) f u 16 := by
              rw [walkPart_succ, Hq.out]; simp [PT.kid]
            have Hpart := Lib.hid hpart
            have Hxs := Lib.hid hxs
            have Hbd := Lib.hid hbd
            have Hlm := Lib.hid hlm
            have HT := Lib.hid ((ht.2.2 n).ext he.out)
            clear hpart hxs hbd hlm hL0
            go_wp2_with (first
              | (go_at_call 101; refine (IH'.out M rfl (k n) (lv - 1) q (pre ++ walkTo (M + 1) (.node b h k c) (first : Nat) f u n) (rr ++ post) K2 _ Hlm.out HT.out (by exact hj.out) Hxs.out Hbd.out).mono ?_; intro e W' hd; obtain ⟨tt, rfl, hd⟩ := hd.bool)
              | fail)
            all_goals
              cases tt
            all_goals first
              | (exfalso; rename_i hh; revert hh; decide)
              | (go_ret
                 rcases hd with ⟨h, _⟩ | ⟨_, h⟩
                 · cases h
                 · exact .inr ⟨rfl, h⟩)
              | (rcases hd with ⟨h, K3, hs3, hj4⟩ | ⟨h, _⟩
                 · refine ⟨⟨_, _, _, _, _, _, _, _, _, _, _, _, _, _, _, _, _, _, _, _, _, _, _, _, _, _, _, _, _, _, _, _, _, _, _, _, _, _, _, _, _, _, _, _, _, _, _, _, _, _, _, _, _, _, _, _, _, _, _, _, _, _, _, _, _, _, ?rel, rfl⟩, ?measure⟩
                   case rel => exact ⟨n + 1, K3, by omega, by go_num, (by rw [Hstep.out, Hpart.out, ← List.append_assoc]; exact hj4 : J (pre ++ walkTo (M + 1) (.node b _ k c) (first : Nat) f u (n + 1)) K3 _), he.out.trans hs3⟩
                   case measure => simp [intOf]; omega
                 · cases h)
      · obtain rfl : n = 16 := by omega
        go_wp2_with fail
        go_ret
        exact .inl ⟨rfl, K2, he.out, hj.out⟩

theorem walk_ok : ∀ L, L ≤ 2 → WalkSaid Try.prog f u xs l J Jx L
  | 0, h => walk_step hIn hgrow hY 0 h (fun M e => by omega)
  | L + 1, h => walk_step hIn hgrow hY (L + 1) h (fun M e => by
      obtain rfl : M = L := by omega
      exact walk_ok M (by omega))
end
end Go.Proofs.Ytdaagmhkhfcmdaa
