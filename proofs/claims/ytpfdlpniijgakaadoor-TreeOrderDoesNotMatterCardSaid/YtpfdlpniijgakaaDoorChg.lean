/- What changes and its closure do. -/
import Derived.Test.YtpfdlpniijgakaaDoorDiffer
import Derived.Test.YtpfdlpniijgakaaDoorRng
namespace Go.Proofs.YtpfdlpniijgakaaDoor
open Go Go.RowKit
set_option maxHeartbeats 400000

theorem treeV_cells (t : PT) (n : Int) : (treeV t n).cells = #[.pointer t.ptr, .int .i64 n] := rfl

set_option maxRecDepth 100000 in
theorem changes_ok (a b : PT) (na nb : Int) (K : Fz) (w : World) (hK : K.In w) :
    Calls Tryd.prog 36 #[treeV a na, treeV b nb] w (Ret K w fun K' v => ∃ ga gb, v = .func (.func 41) #[] #[.pointer (some ⟨ga, 0, none⟩), .pointer (some ⟨gb, 0, none⟩)] ∧
      K' ga = some (.cells #[.pointer a.ptr, .int .i64 na] 31 (0, 0)) ∧ K' gb = some (.cells #[.pointer b.ptr, .int .i64 nb] 31 (0, 0)) ∧ Ext K K') := by
  have s := St.start hK
  go_enter Tryd.func36, Tryd.ntmps36
  go_wp2_with (first
    | ((with_reducible refine gate_box (T := 31) (x := .tmp 0) ?_); refine wpList_boxG rfl rfl rfl (cs := #[.pointer a.ptr, .int .i64 na]) rfl ?_; intro g1 W1 e hn; have o1 := Own.made s e hn; replace s := s.new hn; clear e hn)
    | ((with_reducible refine gate_box (T := 31) (x := .tmp 1) ?_); refine wpList_boxG rfl rfl rfl (cs := #[.pointer b.ptr, .int .i64 nb]) rfl ?_; intro g2 W2 e hn; have n1_2 := o1.ne e; have o2 := Own.made s e hn; replace s := s.new hn; replace o1 := o1.new hn; clear e hn)
    | fail)
  go_ret
  have s1 := s.freeze o1
  have o2' := o2.freeze (o' := .cells #[.pointer a.ptr, .int .i64 na] 31 (0, 0)) (Ne.symm n1_2)
  have s2 := s1.freeze o2'
  refine s2.ret ⟨g1, g2, rfl, ?_, Fz.add_self _ _ _, ?_⟩
  · rw [Fz.add_other _ _ n1_2]; exact Fz.add_self _ _ _
  · exact Ext.of_le hK s2.le

set_option maxRecDepth 100000 in
theorem changes1_ok (a b : PT) (na nb : Int) (K : Fz) (ga gb : Nat) (ha : Tr 76 K a) (hb : Tr 76 K b) (ht : Tab K)
    (hga : K ga = some (.cells #[.pointer a.ptr, .int .i64 na] 31 (0, 0))) (hgb : K gb = some (.cells #[.pointer b.ptr, .int .i64 nb] 31 (0, 0))) :
    Iter Tryd.prog 41 #[.pointer (some ⟨ga, 0, none⟩), .pointer (some ⟨gb, 0, none⟩)] encN (diffs 2 a b 0) K := by
  intro l J Jx K1 W hE hIn hgrow hY hJ
  refine callsIn_wide.2 ?_
  have hi := hIn _ _ _ hJ
  have ca := hi.get (hE _ _ hga)
  have cb := hi.get (hE _ _ hgb)
  have hd := Lib.hid (differ_ok hIn hgrow hY 2 (by omega) a b 2 0 [] [] K1 W rfl (ha.ext hE) (hb.ext hE) (ht.ext hE) hJ (by simp) (by decide))
  go_enter Tryd.func41, Tryd.ntmps41
  go_wp2_with (first
    | ((with_reducible refine gate_load (x := .tmp 4) ?_); refine wpList_loadCell rfl rfl rfl Tryd.underlying29 rfl ca rfl ?_)
    | ((with_reducible refine gate_load (x := .tmp 6) ?_); refine wpList_loadCell rfl rfl rfl Tryd.underlying29 rfl cb rfl ?_)
    | (go_at_call 42; refine hd.out.mono ?_; rintro e W2 hend; obtain ⟨t, rfl, hh⟩ := hend.bool; clear hend)
    | fail)
  go_end0
  refine ⟨⟨_, rfl⟩, ?_⟩
  rcases hh with ⟨_, h⟩ | ⟨_, h⟩
  · exact .inl h
  · exact .inr h
end Go.Proofs.YtpfdlpniijgakaaDoor
