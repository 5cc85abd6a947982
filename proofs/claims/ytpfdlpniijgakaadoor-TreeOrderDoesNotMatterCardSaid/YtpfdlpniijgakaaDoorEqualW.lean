/- What Equal does. -/
import Derived.Test.YtpfdlpniijgakaaDoorDiffW
namespace Go.Proofs.YtpfdlpniijgakaaDoor
open Go Go.RowKit
set_option maxHeartbeats 400000

set_option maxRecDepth 100000 in
theorem Equal_ok (a b : PT) (na nb : Int) (K : Fz) (w : World) (hK : K.In w) (ha : Tr 76 K a) (hb : Tr 76 K b) (ht : Tab K) (hxs : (diffs 2 a b 0).length ≤ 100000) :
    Calls Tryd.prog 22 #[treeV a na, treeV b nb] w fun e w' => e = .returned (.bool (na == nb && (diffs 2 a b 0).isEmpty)) ∧ Below w.heap.size w w' := by
  have s := St.start hK
  by_cases he : na = nb
  · subst he
    have hd := fun W (hW : K.In W) => Diff_ok a b na na K W hW ha hb ht hxs
    have Hx : Hid ((diffs 2 a b 0).isEmpty = ((((diffs 2 a b 0).length : Nat) : Int) == 0)) := Lib.hid (by cases diffs 2 a b 0 with | nil => rfl | cons x xs => simp; omega)
    go_enter Tryd.func22, Tryd.ntmps22
    go_wp2_with (first
      | ((with_reducible refine gate_box (T := 31) (x := .tmp 0) ?_); refine wpList_boxG rfl rfl rfl (cs := #[.pointer a.ptr, .int .i64 na]) rfl ?_; intro g1 W1 e hn; have o1 := Own.made s e hn; replace s := s.new hn; clear e hn)
      | ((with_reducible refine gate_box (T := 31) (x := .tmp 1) ?_); refine wpList_boxG rfl rfl rfl (cs := #[.pointer b.ptr, .int .i64 na]) rfl ?_; intro g2 W2 e hn; have o2 := Own.made s e hn; replace s := s.new hn; replace o1 := o1.new hn; clear e hn; have c10 := o1.c0; have c11 := o1.c1; have c20 := o2.c0; have c21 := o2.c1)
      | (go_at_call 20; refine (hd _ s.inn).mono ?_; rintro e W4 ⟨v, K', rfl, hi, hl, hb', ⟨va, vc, rfl, _⟩, _⟩; replace s := s.call hi hl hb'; clear o1 o2 c10 c11 c20 c21)
      | fail)
    go_ret
    exact ⟨by rw [Hx.out]; simp, s.below⟩
  · have hB : (na == nb) = false := by simpa using he
    rw [hB]
    go_enter Tryd.func22, Tryd.ntmps22
    go_wp2_with (first
      | ((with_reducible refine gate_box (T := 31) (x := .tmp 0) ?_); refine wpList_boxG rfl rfl rfl (cs := #[.pointer a.ptr, .int .i64 na]) rfl ?_; intro g1 W1 e hn; have o1 := Own.made s e hn; replace s := s.new hn; clear e hn)
      | ((with_reducible refine gate_box (T := 31) (x := .tmp 1) ?_); refine wpList_boxG rfl rfl rfl (cs := #[.pointer b.ptr, .int .i64 nb]) rfl ?_; intro g2 W2 e hn; have o2 := Own.made s e hn; replace s := s.new hn; replace o1 := o1.new hn; clear e hn; have c10 := o1.c0; have c11 := o1.c1; have c20 := o2.c0; have c21 := o2.c1)
      | fail)
    go_ret
    exact ⟨rfl, s.below⟩
end Go.Proofs.YtpfdlpniijgakaaDoor
