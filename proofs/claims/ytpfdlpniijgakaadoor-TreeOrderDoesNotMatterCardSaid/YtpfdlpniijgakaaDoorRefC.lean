/- What Count of the specification does. -/
import Derived.Test.YtpfdlpniijgakaaDoorRefB
namespace Go.Proofs.YtpfdlpniijgakaaDoor
open Go Go.RowKit
set_option maxHeartbeats 400000

/-- The new nodes that the i-th entry brings. -/
def cnt1 (L : Ents) (i : Nat) : Nat := if i = 0 then 3 else match L[i - 1]?, L[i]? with
  | some y, some x => (if (x.1 / 256 != y.1 / 256) = true then 1 else 0) + (if (x.1 / 16 != y.1 / 16) = true then 1 else 0)
  | _, _ => 0
def cntTo (L : Ents) : Nat → Nat
  | 0 => 0
  | i + 1 => cntTo L i + cnt1 L i
theorem cnt1_le (L : Ents) (i : Nat) : cnt1 L i ≤ 3 := by
  unfold cnt1
  split
  · omega
  · split
    · split <;> split <;> omega
    · omega
theorem cntTo_le (L : Ents) : ∀ i, cntTo L i ≤ 3 * i
  | 0 => Nat.le_refl _
  | i + 1 => by have := cntTo_le L i; have := cnt1_le L i; unfold cntTo; omega
theorem cntTo_succ {L : Ents} {m : Nat} {x y : Int × Int} (hx : L[m + 1]? = some x) (hy : L[m]? = some y) {p q : Bool} (hp : (x.1 / 256 != y.1 / 256) = p) (hq : (x.1 / 16 != y.1 / 16) = q) :
    cntTo L (m + 1 + 1) = cntTo L (m + 1) + ((if p = true then 1 else 0) + (if q = true then 1 else 0)) := by
  rw [cntTo]
  unfold cnt1
  rw [if_neg (by omega), Nat.add_sub_cancel, hx, hy]
  simp only [hp, hq]

set_option maxRecDepth 100000 in
set_option maxHeartbeats 2000000 in
theorem rCount_ok (K : Fz) (sv : Value) (L : Ents) (w : World) (hK : K.In w) (hS : SlK K 2 encE sv L) (hlen : L.length ≤ 1000000) (hnn : ∀ x ∈ L, 0 ≤ x.1 ∧ x.1 < 4096) :
    Calls Tryd.prog 13 #[.agg #[sv]] w fun e w' => e = .returned (.int .i64 (cntTo L L.length : Nat)) ∧ Below w.heap.size w w' := by
  obtain ⟨a, cap, rfl, hcap, hx⟩ := hS
  have s := St.start hK
  have Hx := Lib.hid hx
  clear hx
  go_enter Tryd.func13, Tryd.ntmps13
  go_wp2_with (first
    | ((with_reducible refine gate_box (T := 35) (x := .tmp 0) ?_); refine wpList_boxG rfl rfl rfl (cs := #[.slice a L.length cap]) rfl ?_; intro g1 W1 e hn; have o1 := Own.made s e hn; replace s := s.new hn; clear e hn; have c1 := cell_of_row _ _ 0 _ _ _ o1.at_)
    | fail)
  simp only [List.getElem?_toArray, List.getElem?_cons_zero] at c1
  go_loopw [3, 4] (fun v vi wr => ∃ (i cc : Nat), i ≤ L.length ∧ v = .int .i64 cc ∧ Hid (cc = cntTo L i) ∧ cc ≤ 3 * i ∧ vi = .int .i64 i ∧ St K w K wr ∧ Own w K wr g1 (.cells #[.slice a L.length cap] 35 (0, 0))) (fun _ i _ => L.length - (intOf i).toNat)
  case atStart => exact ⟨0, 0, by omega, rfl, rfl, by omega, rfl, s, o1⟩
  case round =>
    clear s o1 c1
    obtain ⟨i, cc, hi, rfl, hcn, hcc, rfl, s, o1⟩ := hrel
    have c1 := cell_of_row _ _ 0 _ _ _ o1.at_
    simp only [List.getElem?_toArray, List.getElem?_cons_zero] at c1
    by_cases hlt : i < L.length
    · obtain ⟨x, hxn⟩ : ∃ x, L[i]? = some x := ⟨_, List.getElem?_eq_getElem hlt⟩
      obtain ⟨b, off, cs, ty, fr, rfl, hkb, hj⟩ := Hx.out i x hxn
      have hx0 := hnn x (List.mem_of_getElem? hxn)
      cases i with
      | zero =>
        clear hj hxn
        go_wp2
        go_quiet (fail)
        replace s := s.drewN nq; replace o1 := o1.drewN nq
        go_wp2
        go_quiet (fail)
        replace s := s.drewN nq; replace o1 := o1.drewN nq
        simp only [World.drewN_drewN] at s o1
        go_wp2
        go_roundw
        case rel =>
          have e : cc = 0 := hcn.out
          subst e
          exact ⟨1, 3, by omega, by go_num, rfl, by omega, by go_num, s, o1⟩
        case measure => simp [intOf]; omega
      | succ m =>
        obtain ⟨y, hyn⟩ : ∃ y, L[m]? = some y := ⟨_, List.getElem?_eq_getElem (by omega)⟩
        obtain ⟨b', off', cs', ty', fr', e', hkb', hj'⟩ := Hx.out m y hyn
        cases e'
        have hy0 := hnn y (List.mem_of_getElem? hyn)
        have c2 := (s.inn.cell hkb (off + (m + 1) * 2)).trans (hj 0 _ rfl)
        have c3 := (s.inn.cell hkb' (off + m * 2)).trans (hj' 0 _ rfl)
        have Hxn := Lib.hid hxn
        have Hyn := Lib.hid hyn
        clear hj hj' hxn hyn
        cases hp : (x.1 / 256 != y.1 / 256) with
        | false =>
          cases hq : (x.1 / 16 != y.1 / 16) with
          | false =>
            go_wp2
            go_quiet (fail)
            replace s := s.drewN nq; replace o1 := o1.drewN nq
            go_wp2
            go_quiet (fail)
            replace s := s.drewN nq; replace o1 := o1.drewN nq
            simp only [World.drewN_drewN] at s o1
            go_wp2
            go_roundw
            case rel =>
              refine ⟨m + 1 + 1, cc + 0, by omega, by go_num, ?_, by omega, by go_num, s, o1⟩
              rw [cntTo_succ Hxn.out Hyn.out hp hq, hcn.out]
              all_goals rfl
            case measure => simp [intOf]; omega
          | true =>
            go_wp2
            go_quiet (fail)
            replace s := s.drewN nq; replace o1 := o1.drewN nq
            go_wp2
            go_quiet (fail)
            replace s := s.drewN nq; replace o1 := o1.drewN nq
            simp only [World.drewN_drewN] at s o1
            go_wp2
            go_roundw
            case rel =>
              refine ⟨m + 1 + 1, cc + 1, by omega, by go_num, ?_, by omega, by go_num, s, o1⟩
              rw [cntTo_succ Hxn.out Hyn.out hp hq, hcn.out]
              all_goals rfl
            case measure => simp [intOf]; omega
        | true =>
          cases hq : (x.1 / 16 != y.1 / 16) with
          | false => exact absurd hp (by simp at hq ⊢; omega)
          | true =>
            go_wp2
            go_quiet (fail)
            replace s := s.drewN nq; replace o1 := o1.drewN nq
            go_wp2
            go_quiet (fail)
            replace s := s.drewN nq; replace o1 := o1.drewN nq
            simp only [World.drewN_drewN] at s o1
            go_wp2
            go_roundw
            case rel =>
              refine ⟨m + 1 + 1, cc + 2, by omega, by go_num, ?_, by omega, by go_num, s, o1⟩
              rw [cntTo_succ Hxn.out Hyn.out hp hq, hcn.out]
              all_goals rfl
            case measure => simp [intOf]; omega
    · obtain rfl : i = L.length := by omega
      go_wp2
      go_ret
      exact ⟨by rw [← hcn.out]; rfl, s.below⟩
end Go.Proofs.YtpfdlpniijgakaaDoor
