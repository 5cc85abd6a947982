/- What Range, All and the closure of Range do. -/
import Derived.Test.YtdaagmhkhfcmdaaWalkW
import Derived.Test.YtdaagmhkhfcmdaaTreeE
namespace Go.Proofs.Ytdaagmhkhfcmdaa
open Go Go.RowKit
set_option maxHeartbeats 400000

/-- The closure that Range returns. -/
def RangeV (t : PT) (n f u : Int) (K : Fz) (v : Value) : Prop := ∃ g1 g2 g3, v = .func (.func 100) #[] #[.pointer (some ⟨g1, 0, none⟩), .pointer (some ⟨g2, 0, none⟩), .pointer (some ⟨g3, 0, none⟩)] ∧
  K g1 = some (.cells #[.pointer t.ptr, .int .i64 n] 86 (0, 0)) ∧ K g2 = some (.cells #[.int .i64 f] 3 (0, 0)) ∧ K g3 = some (.cells #[.int .i64 u] 3 (0, 0))

set_option maxRecDepth 100000 in
theorem Range_ok (t : PT) (n f u : Int) (K : Fz) (w : World) (hK : K.In w) :
    Calls Try.prog 82 #[treeV t n, .int .i64 f, .int .i64 u] w (Ret K w fun K' v => RangeV t n f u K' v ∧ Ext K K') := by
  have s := St.start hK
  go_enter Try.func82, Try.ntmps82
  go_wp2_with (first
    | ((with_reducible refine gate_box (T := 86) (x := .tmp 0) ?_); refine wpList_boxG rfl rfl rfl (cs := #[.pointer t.ptr, .int .i64 n]) rfl ?_; intro g1 W1 e hn; have o1 := Own.made s e hn; replace s := s.new hn; clear e hn)
    | ((with_reducible refine gate_box (T := 3) (x := .tmp 1) ?_); refine wpList_boxG rfl rfl rfl (cs := #[.int .i64 f]) rfl ?_; intro g2 W2 e hn; have n1_2 := Lib.hid (o1.ne e); have o2 := Own.made s e hn; replace s := s.new hn; replace o1 := o1.new hn; clear e hn)
    | ((with_reducible refine gate_box (T := 3) (x := .tmp 2) ?_); refine wpList_boxG rfl rfl rfl (cs := #[.int .i64 u]) rfl ?_; intro g3 W3 e hn; have n1_3 := Lib.hid (o1.ne e); have n2_3 := Lib.hid (o2.ne e); have o3 := Own.made s e hn; replace s := s.new hn; replace o1 := o1.new hn; replace o2 := o2.new hn; clear e hn)
    | fail)
  go_ret
  have s1 := s.freeze o1
  have o2' := o2.freeze (o' := .cells #[.pointer t.ptr, .int .i64 n] 86 (0, 0)) n1_2.out.symm
  have s2 := s1.freeze o2'
  have o3' := (o3.freeze (o' := .cells #[.pointer t.ptr, .int .i64 n] 86 (0, 0)) n1_3.out.symm).freeze (o' := .cells #[.int .i64 f] 3 (0, 0)) n2_3.out.symm
  have s3 := s2.freeze o3'
  refine s3.ret ⟨⟨g1, g2, g3, rfl, ?_, ?_, Fz.add_self _ _ _⟩, Ext.of_le hK s3.le⟩
  · rw [Fz.add_other _ _ n1_3.out, Fz.add_other _ _ n1_2.out]; exact Fz.add_self _ _ _
  · rw [Fz.add_other _ _ n2_3.out]; exact Fz.add_self _ _ _

set_option maxRecDepth 100000 in
theorem All_ok (t : PT) (n : Int) (K : Fz) (w : World) (hK : K.In w) :
    Calls Try.prog 46 #[treeV t n] w (Ret K w fun K' v => RangeV t n 0 4096 K' v ∧ Ext K K') := by
  have s := St.start hK
  go_enter Try.func46, Try.ntmps46
  go_wp2_with (first
    | ((with_reducible refine gate_box (T := 86) (x := .tmp 0) ?_); refine wpList_boxG rfl rfl rfl (cs := #[.pointer t.ptr, .int .i64 n]) rfl ?_; intro g1 W1 e hn; have o1 := Own.made s e hn; replace s := s.new hn; clear e hn)
    | ((with_reducible refine gate_load (T := 86) ?_); refine wpList_load_row rfl 86 _ rfl _ rfl 86 _ _ _ o1.at_ Try.underlying86 rfl (by rw [size_Tree]; rfl) ?_)
    | (go_at_call 82; refine (Range_ok t n 0 4096 K _ s.inn).mono ?_; rintro e W4 ⟨v, K', rfl, hi, hl, hb, hx⟩; replace s := s.call hi hl hb; clear hi hl hb)
    | fail)
  go_ret
  exact s.ret hx

set_option maxRecDepth 100000 in
theorem Range1_ok (t : PT) (n f u : Int) (K : Fz) (g1 g2 g3 : Nat) (ht : Tr 153 K t)
    (h1 : K g1 = some (.cells #[.pointer t.ptr, .int .i64 n] 86 (0, 0))) (h2 : K g2 = some (.cells #[.int .i64 f] 3 (0, 0))) (h3 : K g3 = some (.cells #[.int .i64 u] 3 (0, 0))) :
    Iter Try.prog 100 #[.pointer (some ⟨g1, 0, none⟩), .pointer (some ⟨g2, 0, none⟩), .pointer (some ⟨g3, 0, none⟩)] encP (walkTo 2 t 0 f u 16) K := by
  intro l J Jx K1 W hE hIn hgrow hY hJ
  refine callsIn_wide.2 ?_
  have hi := hIn _ _ _ hJ
  have c1 := hi.get (hE _ _ h1)
  have c2 := hi.get (hE _ _ h2)
  have c3 := hi.get (hE _ _ h3)
  have hd := Lib.hid (walk_ok hIn hgrow hY 2 (by omega) t 2 0 [] [] K1 W rfl (ht.ext hE) hJ (show [] ++ walkTo 2 t ((0 : Nat) : Int) f u 16 ++ [] = walkTo 2 t 0 f u 16 by rw [List.append_nil]; rfl) (by decide))
  go_enter Try.func100, Try.ntmps100
  go_wp2_with (first
    | ((with_reducible refine gate_load (x := .tmp 5) ?_); refine wpList_loadCell rfl rfl rfl Try.underlying84 rfl c1 rfl ?_)
    | ((with_reducible refine gate_load (x := .tmp 2) ?_); refine wpList_loadCell rfl rfl rfl Try.underlying3 rfl c2 rfl ?_)
    | ((with_reducible refine gate_load (x := .tmp 3) ?_); refine wpList_loadCell rfl rfl rfl Try.underlying3 rfl c3 rfl ?_)
    | (go_at_call 101; refine hd.out.mono ?_; rintro e W2 hend; obtain ⟨t, rfl, hh⟩ := hend.bool; clear hend)
    | fail)
  go_end0
  refine ⟨⟨_, rfl⟩, ?_⟩
  rcases hh with ⟨_, h⟩ | ⟨_, h⟩
  · exact .inl h
  · exact .inr h
end Go.Proofs.Ytdaagmhkhfcmdaa
