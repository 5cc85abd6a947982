/- What Tree.Clear does. -/
import Derived.Deep.RegionHeld3
import Derived.Test.YtdaagmhkhfcmdaaTreeD
namespace Go.Proofs.Ytdaagmhkhfcmdaa
open Go Go.RowKit
set_option maxHeartbeats 400000

theorem way_of_get (L : Nat) : ∀ (t : PT) (blk : Nat), (t.get L blk).2 = true → t.Way L blk := by
  induction L with
  | zero => intro t blk h; cases t with
    | nil => simp [PT.get] at h
    | node b h' k c => simp [PT.Way]
  | succ L ih => intro t blk h; cases t with
    | nil => simp [PT.get] at h
    | node b h' k c => exact ⟨by simp, ih _ _ h⟩

theorem Own.c0 {w : World} {K : Fz} {W : World} {g T : Nat} {x y : Value} (h : Own w K W g (.cells #[x, y] T (0, 0))) : W.cell? ⟨g, 0, none⟩ = some x := cell_of_row W g 0 _ _ _ h.at_
theorem Own.c1 {w : World} {K : Fz} {W : World} {g T : Nat} {x y : Value} (h : Own w K W g (.cells #[x, y] T (0, 0))) : W.cell? ⟨g, 1, none⟩ = some y := cell_of_row W g 1 _ _ _ h.at_
theorem Own.fr {w : World} {K : Fz} {W : World} {g T : Nat} {c : Array Value} (h : Own w K W g (.cells c T (0, 0))) (i : Nat) : W.frozen? ⟨g, i, none⟩ = false := frozen_of_row W g i _ _ h.at_

theorem cell_set2 {W : World} {g g' i j k : Nat} {u v : Value} (h : g ≠ g') : ((W.setCell ⟨g', i, none⟩ u).setCell ⟨g', j, none⟩ v).cell? ⟨g, k, none⟩ = W.cell? ⟨g, k, none⟩ :=
  World.cell?_of_block ((Below.heap_setCell _ _ _ g h).trans (Below.heap_setCell _ _ _ g h))

set_option maxRecDepth 100000 in
theorem Clear_ok (K : Fz) (t : PT) (n blk : Int) (w : World) (hK : K.In w) (ht : Tr 153 K t) (hn0 : -1000000 ≤ n) (hn1 : n ≤ 1000000) :
    Calls Try.prog 41 #[treeV t n, .int .i64 blk] w
      (Ret K w fun K' v => ∃ t' n', v = treeV t' n' ∧ Tr 153 K' t' ∧ ClrT w.heap.size t n blk t' n') := by
  unfold treeV
  obtain ⟨x, hx⟩ : ∃ x, t.look blk = x := ⟨_, rfl⟩
  obtain ⟨old, is⟩ := x
  have Hx := Lib.hid hx
  clear hx
  have s := St.start hK
  cases is with
  | false =>
    go_enter Try.func41, Try.ntmps41
    go_wp2_with (first
      | ((with_reducible refine gate_box (T := 86) ?_); refine wpList_boxG rfl rfl rfl (cs := #[.pointer t.ptr, .int .i64 n]) rfl ?_; intro g1 W1 e hn; have o1 := Own.made s e hn; replace s := s.new hn; clear e hn)
      | ((with_reducible refine gate_alloc (T := 86) ?_); refine wpList_allocG rfl rfl zero_Tree (cs := #[.pointer none, .int .i64 0]) rfl ?_; intro g2 W2 e hn; have n1_2 := Lib.hid (o1.ne e); have o2 := Own.made s e hn; replace s := s.new hn; replace o1 := o1.new hn; clear e hn)
      | ((with_reducible refine gate_load (T := 86) (x := .tmp 2) ?_); refine wpList_load_row rfl 86 _ rfl _ rfl 86 _ _ _ o1.at_ Try.underlying86 rfl (by rw [size_Tree]; rfl) ?_)
      | (go_at_call 76; refine (get_at _ _ _ _ (_, _) _ Hx.out s.inn ht).mono ?_; rintro e W ⟨rfl, hb⟩; replace o1 := o1.quiet hb; replace o2 := o2.quiet hb; replace s := s.quiet hb; clear hb)
      | ((with_reducible refine gate_store (T := 86) (x := .tmp 4) ?_); refine wpList_storeAll rfl rfl rfl rfl (cs := #[.pointer t.ptr, .int .i64 n]) rfl o2.at_ rfl (by rw [size_Tree]; rfl) (by simp [Value.oneCell']) ?_; intro W hu; replace s := s.upd o2 hu; replace o1 := o1.other hu n1_2.out; replace o2 := o2.upd hu; clear hu)
      | fail)
    refine ret_cell2 rfl rfl o2.at_ Try.underlying86 rfl (by rw [size_Tree]; rfl) ?_
    refine s.ret ⟨t, n, rfl, ht, ?_⟩
    unfold ClrT
    rw [Hx.out]
    exact ⟨rfl, rfl⟩
  | true =>
    have hv : 0 ≤ blk ∧ blk < 4096 := by
      have := Hx.out
      unfold PT.look at this
      split at this
      · assumption
      · cases this
    have hw : t.Way 2 blk.toNat := by
      refine way_of_get 2 t _ ?_
      have := Hx.out
      unfold PT.look at this
      rw [if_pos hv] at this
      rw [this]
    obtain ⟨h0, h1⟩ := hv
    have HW := Lib.hid hw
    clear hw
    go_enter Try.func41, Try.ntmps41
    go_wp2_with (first
      | ((with_reducible refine gate_box (T := 86) ?_); refine wpList_boxG rfl rfl rfl (cs := #[.pointer t.ptr, .int .i64 n]) rfl ?_; intro g1 W1 e hn; have o1 := Own.made s e hn; replace s := s.new hn; clear e hn)
      | ((with_reducible refine gate_alloc (T := 86) ?_); refine wpList_allocG rfl rfl zero_Tree (cs := #[.pointer none, .int .i64 0]) rfl ?_; intro g2 W2 e hn; have n1_2 := Lib.hid (o1.ne e); have o2 := Own.made s e hn; replace s := s.new hn; replace o1 := o1.new hn; clear e hn)
      | ((with_reducible refine gate_load (T := 86) (x := .tmp 2) ?_); refine wpList_load_row rfl 86 _ rfl _ rfl 86 _ _ _ o1.at_ Try.underlying86 rfl (by rw [size_Tree]; rfl) ?_)
      | (go_at_call 76; refine (get_at _ _ _ _ (_, _) _ Hx.out s.inn ht).mono ?_; rintro e W ⟨rfl, hb⟩; replace o1 := o1.quiet hb; replace o2 := o2.quiet hb; replace s := s.quiet hb; clear hb)
      | fail)
    have e0 := o1.c0
    have e1 := o1.c1
    have e2 := o2.c0
    have e3 := o2.c1
    have e4 := o2.fr 0
    have e5 := o2.fr 1
    have s1 := Lib.hid s.size
    go_region_held3 (fun W' => W'.cell? ⟨g1, 0, none⟩ = some (.pointer t.ptr) ∧ W'.cell? ⟨g1, 1, none⟩ = some (.int .i64 n)) (first | exact ⟨by assumption, by assumption⟩ | exact ⟨(cell_set2 n1_2.out).trans (by assumption), (cell_set2 n1_2.out).trans (by assumption)⟩) ((go_at_call 79; refine (clear_ok 2 (by omega) _ _ K t _ rfl s.drew.inn ht h0 h1 HW.out).mono ?_; rintro e W ⟨v, K', rfl, hi, hl, hb, t', rfl, ht', hclr⟩; replace o1 := o1.drew.call hl hb; replace o2 := o2.drew.call hl hb; replace s := s.drew.call hi hl hb; clear hi hl hb e0 e1 e2 e3 e4 e5; have e0 := o1.c0; have e1 := o1.c1; have e2 := o2.c0; have e3 := o2.c1; have e4 := o2.fr 0; have e5 := o2.fr 1))
    clear e0 e1 e2 e3 e4 e5
    have hwr : IntKind.i64.wrap (n - 1) = n - 1 := IntWalk.i64_in _ (by omega)
    rw [hwr]
    have hu := Upd.setCell (i := 0) (.pointer t'.ptr) o2.at_
    have hu2 := Upd.setCell (i := 1) (.int .i64 (n - 1)) hu.here
    replace s := (s.upd o2 hu).upd (o2.upd hu) hu2
    replace o2 := (o2.upd hu).upd hu2
    revert s o2
    clear hu hu2
    generalize (W.setCell { block := g2, off := 0 } (Value.pointer t'.ptr)).setCell { block := g2, off := 1 } (Value.int IntKind.i64 (n - 1)) = W3
    intro s o2
    go_wp2_with fail
    refine ret_cell2 rfl rfl o2.at_ Try.underlying86 rfl (by rw [size_Tree]; rfl) ?_
    refine s.ret ⟨t', n - 1, rfl, ht', ?_⟩
    unfold ClrT
    rw [Hx.out]
    exact ⟨hclr.mono s1.out, rfl⟩
end Go.Proofs.Ytdaagmhkhfcmdaa
