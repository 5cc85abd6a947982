/- What Diff does. -/
import Derived.Test.YtpfdlpniijgakaaDoorChg
import Derived.Test.YtpfdlpniijgakaaDoorRow
namespace Go.Proofs.YtpfdlpniijgakaaDoor
open Go Go.RowKit
set_option maxHeartbeats 400000

def encI (x : Nat) : List Value := [.int .i64 (x : Nat)]
theorem info_int : (Tryd.prog.info? 3).map (fun i => (i.zero, i.size, i.bytes)) = some (some (.int .i64 0), 1, 8) := by kernel_rfl
theorem zero_ints (w : World) : (zeroValue 46).run Tryd.prog w = .ok (.slice none 0 0) w := by kernel_rfl

/-- What a round of Diff keeps. -/
def DiffI (K0 : Fz) (w : World) (g : Nat) (pre : List Nat) (K : Fz) (W : World) : Prop :=
  St K0 w K W ∧ ∃ v, Own w K W g (.cells #[v] 46 (0, 0)) ∧ Row w K W 3 1 v pre.length (pre.flatMap encI) ∧ v.ownBlock ≠ some g ∧ ∃ a n c, v = .slice a n c

set_option maxRecDepth 100000 in
theorem Diff_ok (a b : PT) (na nb : Int) (K : Fz) (w : World) (hK : K.In w) (ha : Tr 76 K a) (hb : Tr 76 K b) (ht : Tab K) (hxs : (diffs 2 a b 0).length ≤ 100000) :
    Calls Tryd.prog 20 #[treeV a na, treeV b nb] w (Ret K w fun K' v => SlK K' 1 encI v (diffs 2 a b 0) ∧ Ext K K') := by
  have s := St.start hK
  refine callsIn_wide.1 (callsIn_of_wp_marks (n := 0) Tryd.func20 rfl trivial ?_)
  simp only [Tryd.ntmps20, List.size_toArray, List.length_cons, List.length_nil, Nat.reduceAdd, Nat.reduceSub, Array.replicate_succ, Array.replicate_zero, List.push_toArray, List.append_toArray, List.nil_append, List.cons_append]
  refine wpIn_seq (wpIn_wide.2 ?_)
  go_wp2_with (first
    | ((with_reducible refine gate_box (T := 31) (x := .tmp 0) ?_); refine wpList_boxG rfl rfl rfl (cs := #[.pointer a.ptr, .int .i64 na]) rfl ?_; intro g1 W1 e hn; have o1 := Own.made s e hn; replace s := s.new hn; clear e hn)
    | ((with_reducible refine gate_box (T := 31) (x := .tmp 1) ?_); refine wpList_boxG rfl rfl rfl (cs := #[.pointer b.ptr, .int .i64 nb]) rfl ?_; intro g2 W2 e hn; have n1_2 := o1.ne e; have o2 := Own.made s e hn; replace s := s.new hn; replace o1 := o1.new hn; clear e hn)
    | fail)
  refine wpIn_seq (wpIn_wide.2 ?_)
  go_wp2_with (first
    | ((with_reducible refine gate_alloc (T := 46) ?_); refine wpList_allocG rfl rfl zero_ints (cs := #[.slice none 0 0]) rfl ?_; intro g5 W3 e hn; have o5 := Own.made s e hn; replace s := s.new hn; replace o1 := o1.new hn; replace o2 := o2.new hn; clear e hn)
    | fail)
  refine wpIn_seq (wpIn_seq (wpIn_wide.2 ?_))
  go_wp2_with (first
    | ((with_reducible refine gate_load (T := 31) (x := .tmp 2) ?_); refine wpList_load_row rfl 31 _ rfl _ rfl 31 _ _ _ o1.at_ Tryd.underlying31 rfl (by rw [size_Tree]; rfl) ?_)
    | ((with_reducible refine gate_load (T := 31) (x := .tmp 3) ?_); refine wpList_load_row rfl 31 _ rfl _ rfl 31 _ _ _ o2.at_ Tryd.underlying31 rfl (by rw [size_Tree]; rfl) ?_)
    | (go_at_call 36; refine (changes_ok a b na nb K _ s.inn).mono ?_; rintro e W4 ⟨v, K', rfl, hi, hl, hb', ga, gb, rfl, hga, hgb, hE⟩; replace o5 := o5.call hl hb'; replace s := s.call hi hl hb'; clear o1 o2)
    | fail)
  have hit := changes1_ok a b na nb K' ga gb (ha.ext hE) (hb.ext hE) (ht.ext hE) hga hgb
  have hsz := s.size
  refine wpIn_block ?_
  refine range_ok (gf := 41) (lb := #[.pointer (some ⟨ga, 0, none⟩), .pointer (some ⟨gb, 0, none⟩)]) (K := K') rfl (by intro args w; rfl) hit (fun x => rfl)
    (DiffI K w g5) (fun _ _ _ => False) (fun pre K1 W1 h => h.1.inn) ?_ (fun _ _ _ h => h.elim) (fun _ _ _ _ _ h => h.elim) ?_
    (fun x => { tmps := #[treeV a na, treeV b nb, .pointer (some ⟨g1, 0, none⟩), .pointer (some ⟨g2, 0, none⟩), .slice none 0 0, .pointer (some ⟨g5, 0, none⟩), .int .i64 (x : Nat), treeV a na, treeV b nb, .func (.func 41) #[] #[.pointer (some ⟨ga, 0, none⟩), .pointer (some ⟨gb, 0, none⟩)], .int .i64 (x : Nat), undef, undef, undef, undef, undef], defers := [] }) ?_ ?_ ?_ ?_
  · rintro pre K1 W K2 W' ⟨s, v, o, r, hne, hv⟩ he
    exact ⟨s.ex he hsz, v, o.ex he, r.ex he, hne, hv⟩
  · exact ⟨s, _, o5, Row.nil _ _ _ _ _, by rintro ⟨⟩, _, _, _, rfl⟩
  · intro l x W N hN
    refine region_round (by rintro ⟨_, _, h⟩; exact h) rfl ?_
    simp only [encN, List.size_toArray, List.length_cons, List.length_nil]
    go_wp2
    exact hN
  · rintro l D r pre x rest K1 W hx hE1 ⟨s, v, o, rw, hne, va, vn, vc, rfl⟩ hl hD hlD hl0 hD0
    have hlen : pre.length + 1 ≤ 100000 := by have h := congrArg List.length hx; simp at h; omega
    have hlg := o.ne_of hl (not_plain_loop _)
    have hDg := o.ne_of hD (not_plain_def _)
    have hlr := rw.ne_of hl (not_plain_loop _)
    have hDr := rw.ne_of hD (not_plain_def _)
    refine wpIn_block (region_round (by rintro ⟨_, _, h⟩; exact h) rfl ?_)
    go_wp2_with (first
      | ((with_reducible refine gate_load (T := 46) (x := .tmp 5) ?_); refine wpList_loadCell rfl rfl rfl Tryd.underlying46 rfl o.at_ rfl ?_)
      | ((with_reducible refine gate_buildSlice (T := 46) ?_); refine wpList_buildSlice1 rfl rfl rfl (cs := #[.int .i64 (x : Nat)]) Tryd.underlying46 info_int (by decide) (by decide) (by kernel_rfl) ?_; intro gn W5 e hn; have hnew := hn.here; rw [← e] at hnew; replace s := s.new hn; replace o := o.new hn; replace rw := rw.new hn; replace hl := hn.at hl; replace hD := hn.at hD; clear hn e)
      | ((with_reducible refine gate_append ?_); refine wpList_appendRow rfl rfl Tryd.underlying46 info_int rfl (by decide) rfl s rw rfl (news := [.int .i64 (x : Nat)]) rfl (by simp) (cells_here hnew) (by simp [Value.oneCell']) (by omega) (by decide) ?_; intro v2 W6 r2 gr; have hne2 := o.apart gr hne; replace s := s.grown rw gr; replace o := o.grown gr hne; replace hl := gr.at hl hlr; replace hD := gr.at hD hDr; obtain ⟨a2, n2, c2, rfl⟩ := r2.form; clear gr rw hnew)
      | ((with_reducible refine gate_store (T := 46) ?_); refine wpList_storeAll rfl rfl rfl rfl (cs := #[.slice a2 n2 c2]) rfl o.at_ rfl (by kernel_rfl) (by simp [Value.oneCell']) ?_; intro W7 hu; replace s := s.upd o hu; replace r2 := r2.upd hu hne2; replace o := o.upd hu; replace hl := hu.at hl hlg; replace hD := hu.at hD hDg; clear hu)
      | fail)
    refine ⟨⟨K1, Ext.refl _, s, _, o, ?_, hne2, _, _, _, rfl⟩, hl, hD⟩
    simpa [List.flatMap_append, encI] using r2
  · rintro D K1 W hD hE2 ⟨s, v, o, rw, hne, va, vn, vc, rfl⟩ hd
    simp only [Exit.inBlock, Exit.then]
    refine wpIn_seq (wpIn_wide.2 ?_)
    go_wp2_with (first
      | ((with_reducible refine gate_load (T := 46) (x := .tmp 5) ?_); refine wpList_loadCell rfl rfl rfl Tryd.underlying46 rfl o.at_ rfl ?_)
      | fail)
    refine wpIn_ret ?_
    refine ⟨by simp, .inl ⟨_, _, rfl, run_takeDeferred hd, ?_⟩⟩
    refine ⟨_, results_tmp rfl _ _ _, ?_⟩
    obtain ⟨K3, s3, hE3, hS, hK3⟩ := rw.fix s (enc := encI) (fun _ => rfl) rfl rfl
    have he := Ex.of_put (B := W4.heap.size) (o' := .deferred none) s3.inn hD hd (not_plain_def _)
    have s4 := s3.ex he hsz
    exact s4.ret ⟨hS, hE.trans (hE2.trans hE3)⟩
  · intro D c K1 W _ h
    exact h.elim
end Go.Proofs.YtpfdlpniijgakaaDoor
