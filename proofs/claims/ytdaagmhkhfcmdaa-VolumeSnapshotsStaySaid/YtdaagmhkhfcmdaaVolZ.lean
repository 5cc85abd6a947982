/- Refs: how often each tenant refers to a chunk: the closure. -/
import Derived.Test.YtdaagmhkhfcmdaaVolY
namespace Go.Proofs.Ytdaagmhkhfcmdaa
open Go Go.RowKit
set_option maxHeartbeats 400000

/-- An array of counts. -/
def cntCells (f : Nat → Int) : Array Value := Array.ofFn (n := 16) fun i => .int .i64 (f i.1)
theorem cntCells_size (f : Nat → Int) : (cntCells f).size = 16 := by simp [cntCells]
theorem cntCells_get (f : Nat → Int) {i : Nat} (h : i < 16) : (cntCells f)[i]? = some (.int .i64 (f i)) := by simp [cntCells, h]
theorem cntCells_set (f : Nat → Int) {i : Nat} (h : i < 16) (x : Int) : (cntCells f).setIfInBounds i (.int .i64 x) = cntCells (upd f i x) := by
  refine Array.ext_getElem? fun j => ?_
  by_cases hj : j < 16
  · rw [cntCells_get _ hj]
    by_cases e : j = i
    · subst e; simp [Array.getElem?_setIfInBounds, cntCells_size, hj, upd]
    · rw [Array.getElem?_setIfInBounds_ne (by omega), cntCells_get _ hj, upd_other _ _ e]
  · rw [Array.getElem?_eq_none (by simp [cntCells_size]; omega), Array.getElem?_eq_none (by rw [cntCells_size]; omega)]
theorem cntCells_zero : cntCells (fun _ => 0) = Array.replicate 16 (.int .i64 0) := by unfold cntCells; rfl
theorem upd_upd {α : Type} (f : Nat → α) (i : Nat) (x y : α) : upd (upd f i x) i y = upd f i y := by funext j; unfold upd; split <;> rfl
theorem cntCells_one (f : Nat → Int) : ∀ u ∈ (cntCells f).toList, u.oneCell' = true := by
  intro u hu
  simp only [cntCells, Array.mem_toList_iff, Array.mem_ofFn] at hu
  obtain ⟨i, rfl⟩ := hu
  rfl
attribute [irreducible] cntCells
/-- How often a list maps to a chunk. -/
def cntC (c : Int) (L : Ents) : Nat := L.countP fun x => x.2 == c
/-- One more. -/
def addC (f : Nat → Int) (k : Nat) (c : Int) (L : Ents) : Nat → Int := upd f k (f k + cntC c L)

/-- What a round keeps. -/
def RefI (K0 : Fz) (w : World) (g5 gp : Nat) (f : Nat → Int) (k : Nat) (c : Int) (p : Array Value) (pre : List (Int × Int)) (K : Fz) (W : World) : Prop :=
  St K0 w K W ∧ Own w K W g5 (.cells (cntCells (addC f k c pre)) 99 (0, 0)) ∧ Own w K W gp (.cells p 88 (0, 0))

set_option maxRecDepth 100000 in
set_option maxHeartbeats 2000000 in
theorem Refs1_ok {K0 K : Fz} {w0 W : World} {g5 B k : Nat} {f : Nat → Int} {c id n : Int} {t : PT} {L : Ents} (s : St K0 w0 K W) (o5 : Own w0 K W g5 (.cells (cntCells f) 99 (0, 0))) (hB : K B = some (.cells #[.int .i64 c] 3 (0, 0)))
    (hk : k < 16) (hT : Tr 153 K t) (hR : Rep t n L) (hf : 0 ≤ f k ∧ f k ≤ 1000000000) :
    Calls Try.prog 45 #[.agg #[.int .i64 id, .int .i64 (k : Nat), .pointer t.ptr, .int .i64 n], .pointer (some ⟨B, 0, none⟩), .pointer (some ⟨g5, 0, none⟩)] W
      fun e W' => e = .returned (.tuple #[]) ∧ ∃ K', St K0 w0 K' W' ∧ Ext K K' ∧ Own w0 K' W' g5 (.cells (cntCells (addC f k c L)) 99 (0, 0)) := by
  have eL : walkTo 2 t 0 0 4096 16 = L := by rw [walkPart_walks, hR.walks, inB_filter hR.inb]
  have hlenL := hR.len_le
  refine callsIn_wide.1 (callsIn_of_wp_marks (n := 0) Try.func45 rfl trivial ?_)
  simp only [Try.ntmps45, List.size_toArray, List.length_cons, List.length_nil, Nat.reduceAdd, Nat.reduceSub, Array.replicate_succ, Array.replicate_zero, List.push_toArray, List.append_toArray, List.nil_append, List.cons_append]
  refine wpIn_seq (wpIn_wide.2 ?_)
  go_wp2_with (first
    | ((with_reducible refine gate_box (T := 88) ?_); refine wpList_boxG rfl rfl rfl (cs := #[.int .i64 id, .int .i64 (k : Nat), .pointer t.ptr, .int .i64 n]) rfl ?_; intro gp W1 e hn; have n5p := o5.ne e; have op := Own.made s e hn; replace s := s.new hn; replace o5 := o5.new hn; clear e hn)
    | fail)
  refine wpIn_seq (wpIn_wide.2 ?_)
  go_wp2_with (first
    | ((with_reducible refine gate_load (T := 86) ?_); refine wpList_loadAgg (vs := [.pointer t.ptr, .int .i64 n]) (off := 2) rfl rfl rfl Try.underlying86 rfl op.at_ (by rw [size_Tree]; rfl) (fun j u hu => two_of4 j u hu) ?_)
    | (go_at_call 46; refine (All_ok t n K _ s.inn).mono ?_; rintro e W4 ⟨v, K', rfl, hi, hl, hb', ⟨a1, a2, a3, rfl, hg1, hg2, hg3⟩, hE⟩; replace o5 := o5.call hl hb'; replace op := op.call hl hb'; replace s := s.call hi hl hb')
    | fail)
  have hit := Range1_ok t n 0 4096 K' a1 a2 a3 (hT.ext hE) hg1 hg2 hg3
  rw [eL] at hit
  have hsz := s.size
  refine wpIn_block ?_
  refine range_ok (gf := 100) (lb := #[.pointer (some ⟨a1, 0, none⟩), .pointer (some ⟨a2, 0, none⟩), .pointer (some ⟨a3, 0, none⟩)]) (K := K') rfl (by intro args w; rfl) hit (fun x => rfl)
    (RefI K0 w0 g5 gp f k c #[.int .i64 id, .int .i64 (k : Nat), .pointer t.ptr, .int .i64 n]) (fun _ _ _ => False) (fun pre K1 W1 h => h.1.inn) ?_ (fun _ _ _ h => h.elim) (fun _ _ _ _ _ h => h.elim) ?_
    (fun x => { tmps := #[.agg #[.int .i64 id, .int .i64 (k : Nat), .pointer t.ptr, .int .i64 n], .pointer (some ⟨B, 0, none⟩), .pointer (some ⟨g5, 0, none⟩), .pointer (some ⟨gp, 0, none⟩), undef, .int .i64 x.2, .pointer (some ⟨gp, 2, none⟩), treeV t n, .func (.func 100) #[] #[.pointer (some ⟨a1, 0, none⟩), .pointer (some ⟨a2, 0, none⟩), .pointer (some ⟨a3, 0, none⟩)], .int .i64 x.1, .int .i64 x.2, undef, undef, undef, undef, undef, undef, undef, undef, undef], defers := [] }) ?_ ?_ ?_ ?_
  · rintro pre K1 W K2 W' ⟨s, o, op⟩ he
    exact ⟨s.ex he hsz, o.ex he, op.ex he⟩
  · refine ⟨s, ?_, op⟩
    have e0 : addC f k c [] = f := by
      unfold addC cntC
      funext j
      unfold upd
      split
      · rename_i h; subst h; simp
      · rfl
    rw [e0]
    exact o5
  · intro l x W N hN
    refine region_round (by rintro ⟨_, _, h⟩; exact h) rfl ?_
    simp only [encP, List.size_toArray, List.length_cons, List.length_nil]
    go_wp2
    exact hN
  · rintro l D r pre x rest K1 W hx hE1 ⟨s, o, op⟩ hl hD hlD hl0 hD0
    obtain ⟨xb, xc⟩ := x
    have hlen : pre.length + 1 ≤ 100000 := by have h := congrArg List.length hx; simp at h; omega
    have hcl : cntC c pre ≤ pre.length := List.countP_le_length
    have hlg := o.ne_of hl (not_plain_loop _)
    have hDg := o.ne_of hD (not_plain_def _)
    have hB1 := hE1 _ _ (hE _ _ hB)
    have hcur : Hid ((cntCells (addC f k c pre))[k]? = some (.int .i64 (f k + cntC c pre))) := Lib.hid (by rw [cntCells_get _ hk]; simp [addC, upd_self])
    have hk16 : (k : Int) < 16 := by omega
    have hw : IntKind.i64.wrap (f k + cntC c pre + 1) = f k + cntC c pre + 1 := by rw [IntKind.wrap_i64]; omega
    refine wpIn_block (wpIn_seq (region_round (by rintro ⟨_, _, h⟩; exact h) rfl ?_))
    by_cases hq : xc = c
    · subst hq
      have hend : Hid (addC f k xc (pre ++ [(xb, xc)]) = upd (addC f k xc pre) k (f k + cntC xc pre + 1)) := Lib.hid (by
        unfold addC
        rw [upd_upd]
        congr 1
        unfold cntC
        rw [List.countP_append]
        simp
        omega)
      go_wp2_with (first
        | ((with_reducible refine gate_load (T := 3) (x := .tmp 1) ?_); refine wpList_loadCell rfl rfl rfl Try.underlying3 rfl (s.inn.get hB1) rfl ?_)
        | fail)
      refine wpIn_cond_true rfl (region_round (by rintro ⟨_, _, h⟩; exact h) rfl ?_)
      go_wp2_with (first
        | ((with_reducible refine gate_load (T := 3) (x := .tmp 14) ?_); refine wpList_loadCell rfl rfl rfl Try.underlying3 rfl op.at_ rfl ?_)
        | ((with_reducible refine gate_load (T := 3) (x := .tmp 16) ?_); refine wpList_loadCell rfl rfl rfl Try.underlying3 rfl o.at_ hcur.out ?_)
        | ((with_reducible refine gate_store (T := 3) ?_); refine wpList_storeCell (off := k) rfl rfl rfl rfl o.at_ (by rw [cntCells_size]; exact hk) size_int1 rfl rfl ?_; intro W7 hu; replace s := s.upd o hu; replace op := op.other hu n5p.symm; replace o := o.upd hu; replace hl := hu.at hl hlg; replace hD := hu.at hD hDg; clear hu)
        | fail)
      refine ⟨⟨K1, Ext.refl _, s, ?_, op⟩, hl, hD⟩
      rw [hend.out, ← cntCells_set _ hk]
      exact o
    · have hend : Hid (addC f k c (pre ++ [(xb, xc)]) = addC f k c pre) := Lib.hid (by
        unfold addC cntC
        rw [List.countP_append]
        have h0 : List.countP (fun x : Int × Int => x.2 == c) [(xb, xc)] = 0 := by simp [hq]
        rw [h0, Nat.add_zero])
      go_wp2_with (first
        | ((with_reducible refine gate_load (T := 3) (x := .tmp 1) ?_); refine wpList_loadCell rfl rfl rfl Try.underlying3 rfl (s.inn.get hB1) rfl ?_)
        | fail)
      refine wpIn_cond_false (congrArg Value.bool (beq_eq_false_iff_ne.2 hq)) (wpIn_skip ?_)
      refine ⟨⟨K1, Ext.refl _, s, ?_, op⟩, hl, hD⟩
      rw [hend.out]
      exact o
  · rintro D K1 W hD hE2 ⟨s, o, op⟩ hd
    simp only [Exit.inBlock, Exit.then]
    refine ⟨by simp, .inl ⟨_, _, rfl, run_takeDeferred hd, ?_⟩⟩
    refine ⟨_, results_none rfl _ _ _, ?_⟩
    have he := Ex.of_put (B := W4.heap.size) (o' := .deferred none) s.inn hD hd (not_plain_def _)
    exact ⟨rfl, K1, s.ex he hsz, hE.trans hE2, o.ex he⟩
  · intro D c K1 W _ h
    exact h.elim
end Go.Proofs.Ytdaagmhkhfcmdaa
