/- Refs: how often each tenant refers to a chunk: the closure. -/
import Derived.Test.YtdaagmhkhfcmdaaDoorGK
namespace Go.Proofs.YtdaagmhkhfcmdaaDoor
open Go Go.RowKit
set_option maxHeartbeats 400000

/-- An array of counts. -/
def cntCells (f : Nat → Int) : Array Value := Array.ofFn (n := 16) fun i => .int .i64 (f i.1)
theorem cntCells_size (f : Nat → Int) : (cntCells f).size = 16 := by simp [cntCells]
theorem cntCells_get (f : Nat → Int) {i : Nat} (h : i < 16) : (cntCells f)[i]? = some (.int .i64 (f i)) := by simp [cntCells, h]
theorem cntCells_set (f : Nat → Int) {i : Nat} (h : i < 16) (x : Int) : (cntCells f).setIfInBounds i (.int .i64 x) = cntCells (upd f i x) := by
  refine Array.ext_getElem? fun j => ?_
  by_cases hj : j < 16
  · rw [cntCells_get _ hj]
    by_cases e : j = i
    · subst e; simp [Array.getElem?_setIfInBounds, cntCells_size, hj, upd]
    · rw [Array.getElem?_setIfInBounds_ne (by omega), cntCells_get _ hj, upd_other _ _ e]
  · rw [Array.getElem?_eq_none (by simp [cntCells_size]; omega), Array.getElem?_eq_none (by rw [cntCells_size]; omega)]
theorem cntCells_zero : cntCells (fun _ => 0) = Array.replicate 16 (.int .i64 0) := by unfold cntCells; rfl
theorem upd_upd {α : Type} (f : Nat → α) (i : Nat) (x y : α) : upd (upd f i x) i y = upd f i y := by funext j; unfold upd; split <;> rfl
theorem cntCells_one (f : Nat → Int) : ∀ u ∈ (cntCells f).toList, u.oneCell' = true := by
  intro u hu
  simp only [cntCells, Array.mem_toList_iff, Array.mem_ofFn] at hu
  obtain ⟨i, rfl⟩ := hu
  rfl
attribute [irreducible] cntCells
/-- How often a list maps to a chunk. -/
def cntC (c : Int) (L : Ents) : Nat := L.countP fun x => x.2 == c
/-- One more. -/
def addC (f : Nat → Int) (k : Nat) (c : Int) (L : Ents) : Nat → Int := upd f k (f k + cntC c L)

/-- What a round keeps. -/
def RefI (K0 : Fz) (w : World) (g5 gp : Nat) (f : Nat → Int) (k : Nat) (c : Int) (p : Array Value) (pre : List (Int × Int)) (K : Fz) (W : World) : Prop :=
  St K0 w K W ∧ Own w K W g5 (.cells (cntCells (addC f k c pre)) 77 (0, 0)) ∧ Own w K W gp (.cells p 62 (0, 0))

set_option maxRecDepth 100000 in
set_option maxHeartbeats 2000000 in
theorem Refs1_ok {K0 K : Fz} {w0 W : World} {g5 B k : Nat} {f : Nat → Int} {c id n : Int} {t : PT} {L : Ents} (s : St K0 w0 K W) (o5 : Own w0 K W g5 (.cells (cntCells f) 77 (0, 0))) (hB : K B = some (.cells #[.int .i64 c] 3 (0, 0)))
    (hk : k < 16) (hT : Tr 122 K t) (hR : Rep t n L) (hf : 0 ≤ f k ∧ f k ≤ 1000000000) :
    Calls Tryd.prog 31 #[.agg #[.int .i64 id, .int .i64 (k : Nat), .pointer t.ptr, .int .i64 n], .pointer (some ⟨B, 0, none⟩), .pointer (some ⟨g5, 0, none⟩)] W
      fun e W' => e = .returned (.tuple #[]) ∧ ∃ K', St K0 w0 K' W' ∧ Ext K K' ∧ Own w0 K' W' g5 (.cells (cntCells (addC f k c L)) 77 (0, 0)) := by
  have eL : walkTo 2 t 0 0 4096 16 = L := by rw [walkPart_walks, hR.walks, inB_filter hR.inb]
  have hlenL := hR.len_le
  refine callsIn_wide.1 (callsIn_of_wp_marks (n := 0) Tryd.func31 rfl trivial ?_)
  simp only [Tryd.ntmps31, List.size_toArray, List.length_cons, List.length_nil, Nat.reduceAdd, Nat.reduceSub, Array.replicate_succ, Array.replicate_zero, List.push_toArray, List.append_toArray, List.nil_append, List.cons_append]
  refine wpIn_seq (wpIn_wide.2 ?_)
  go_wp2_with (first
    | ((with_reducible refine gate_box (T := 62) ?_); refine wpList_boxG rfl rfl rfl (cs := #[.int .i64 id, .int .i64 (k : Nat), .pointer t.ptr, .int .i64 n]) rfl ?_; intro gp W1 e hn; have n5p := o5.ne e; have op := Own.made s e hn; replace s := s.new hn; replace o5 := o5.new hn; clear e hn)
    | fail)
  refine wpIn_seq (wpIn_wide.2 ?_)
  go_wp2_with (first
    | ((with_reducible refine gate_load (T := 60) ?_); refine wpList_loadAgg (vs := [.pointer t.ptr, .int .i64 n]) (off := 2) rfl rfl rfl Tryd.underlying60 rfl op.at_ (by rw [size_Tree]; rfl) (fun j u hu => two_of4 j u hu) ?_)
    | (go_at_call 32; refine (All_ok t n K _ s.inn).mono ?_; rintro e W4 ⟨v, K', rfl, hi, hl, hb', ⟨a1, a2, a3, rfl, hg1, hg2, hg3⟩, hE⟩; replace o5 := o5.call hl hb'; replace op := op.call hl hb'; replace s := s.call hi hl hb')
    | fail)
  have hit := Range1_ok t n 0 4096 K' a1 a2 a3 (hT.ext hE) hg1 hg2 hg3
  rw [eL] at hit
  have hsz := s.size
  refine wpIn_block ?_
  refine range_ok (gf := 72) (lb := #[.pointer (some ⟨a1, 0, none⟩), .pointer (some ⟨a2, 0, none⟩), .pointer (some ⟨a3, 0, none⟩)]) (K := K') rfl (by intro args w; rfl) hit (fun x => rfl)
    (RefI K0 w0 g5 gp f k c #[.int .i64 id, .int .i64 (k : Nat), .pointer t.ptr, .int .i64 n]) (fun _ _ _ => False) (fun pre K1 W1 h => h.1.inn) ?_ (fun _ _ _ h => h.elim) (fun _ _ _ _ _ h => h.elim) ?_
    (fun x => { tmps := #[.agg #[.int .i64 id, .int .i64 (k : Nat), .pointer t.ptr, .int .i64 n], .pointer (some ⟨B, 0, none⟩), .pointer (some ⟨g5, 0, none⟩), .pointer (some ⟨gp, 0, none⟩), undef, .int .i64 x.2, .pointer (some ⟨gp, 2, none⟩), treeV t n, .func (.func 72) #[] #[.pointer (some ⟨a1, 0, none⟩), .pointer (some ⟨a2, 0, none⟩), .pointer (some ⟨a3, 0, none⟩)], .int .i64 x.1, .int .i64 x.2, undef, undef, undef, undef, undef, undef, undef, undef, undef], defers := [] }) ?_ ?_ ?_ ?_
  · rintro pre K1 W K2 W' ⟨s, o, op⟩ he
    exact ⟨s.ex he hsz, o.ex he, op.ex he⟩
  · refine ⟨s, ?_, op⟩
    have e0 : addC f k c [] = f := by
      unfold addC cntC
      funext j
      unfold upd
      split
      · rename_i h; subst h; simp
      · rfl
    rw [e0]
    exact o5
  · intro l x W N hN
    refine region_round (by rintro ⟨_, _, h⟩; exact h) rfl ?_
    simp only [encP, List.size_toArray, List.length_cons, List.length_nil]
    go_wp2
    exact hN
  · rintro l D r pre x rest K1 W hx hE1 ⟨s, o, op⟩ hl hD hlD hl0 hD0
    obtain ⟨xb, xc⟩ := x
    have hlen : pre.length + 1 ≤ 100000 := by have h := congrArg List.length hx; simp at h; omega
    have hcl : cntC c pre ≤ pre.length := List.countP_le_length
    have hlg := o.ne_of hl (not_plain_loop _)
    have hDg := o.ne_of hD (not_plain_def _)
    have hB1 := hE1 _ _ (hE _ _ hB)
    have hcur : Hid ((cntCells (addC f k c pre))[k]? = some (.int .i64 (f k + cntC c pre))) := Lib.hid (by rw [cntCells_get _ hk]; simp [addC, upd_self])
    have hk16 : (k : Int) < 16 := by omega
    have hw : IntKind.i64.wrap (f k + cntC c pre + 1) = f k + cntC c pre + 1 := by rw [IntKind.wrap_i64]; omega
    refine wpIn_block (wpIn_seq (region_round (by rintro ⟨_, _, h⟩; exact h) rfl ?_))
    by_cases hq : xc = c
    · subst hq
      have hend : Hid (addC f k xc (pre ++ [(xb, xc)]) = upd (addC f k xc pre) k (f k + cntC xc pre + 1)) := Lib.hid (by
        unfold addC
        rw [upd_upd]
        congr 1
        unfold cntC
        rw [List.countP_append]
        simp
        omega)
      go_wp2_with (first
        | ((with_reducible refine gate_load (T := 3) (x := .tmp 1) ?_); refine wpList_loadCell rfl rfl rfl Tryd.underlying3 rfl (s.inn.get hB1) rfl ?_)
        | fail)
      refine wpIn_cond_true rfl (region_round (by rintro ⟨_, _, h⟩; exact h) rfl ?_)
      go_wp2_with (first
        | ((with_reducible refine gate_load (T := 3) (x := .tmp 14) ?_); refine wpList_loadCell rfl rfl rfl Tryd.underlying3 rfl op.at_ rfl ?_)
        | ((with_reducible refine gate_load (T := 3) (x := .tmp 16) ?_); refine wpList_loadCell rfl rfl rfl Tryd.underlying3 rfl o.at_ hcur.out ?_)
        | ((with_reducible refine gate_store (T := 3) ?_); refine wpList_storeCell (off := k) rfl rfl rfl rfl o.at_ (by rw [cntCells_size]; exact hk) size_int1 rfl rfl ?_; intro W7 hu; replace s := s.upd o hu; replace op := op.other hu n5p.symm; replace o := o.upd hu; replace hl := hu.at hl hlg; replace hD := hu.at hD hDg; clear hu)
        | fail)
      refine ⟨⟨K1, Ext.refl _, s, ?_, op⟩, hl, hD⟩
      rw [hend.out, ← cntCells_set _ hk]
      exact o
    · have hend : Hid (addC f k c (pre ++ [(xb, xc)]) = addC f k c pre) := Lib.hid (by
        unfold addC cntC
        rw [List.countP_append]
        have h0 : List.countP (fun x : Int × Int => x.2 == c) [(xb, xc)] = 0 := by simp [hq]
        rw [h0, Nat.add_zero])
      go_wp2_with (first
        | ((with_reducible refine gate_load (T := 3) (x := .tmp 1) ?_); refine wpList_loadCell rfl rfl rfl Tryd.underlying3 rfl (s.inn.get hB1) rfl ?_)
        | fail)
      refine wpIn_cond_false (congrArg Value.bool (beq_eq_false_iff_ne.2 hq)) (wpIn_skip ?_)
      refine ⟨⟨K1, Ext.refl _, s, ?_, op⟩, hl, hD⟩
      rw [hend.out]
      exact o
  · rintro D K1 W hD hE2 ⟨s, o, op⟩ hd
    simp only [Exit.inBlock, Exit.then]
    refine ⟨by simp, .inl ⟨_, _, rfl, run_takeDeferred hd, ?_⟩⟩
    refine ⟨_, results_none rfl _ _ _, ?_⟩
    have he := Ex.of_put (B := W4.heap.size) (o' := .deferred none) s.inn hD hd (not_plain_def _)
    exact ⟨rfl, K1, s.ex he hsz, hE.trans hE2, o.ex he⟩
  · intro D c K1 W _ h
    exact h.elim
end Go.Proofs.YtdaagmhkhfcmdaaDoor
/- Refs: how often each tenant refers to a chunk. Written by gen_VolRf.py. -/
namespace Go.Proofs.YtdaagmhkhfcmdaaDoor
open Go Go.RowKit
set_option maxHeartbeats 400000

/-- The counts with a list's references added. -/
def addAll (c : Int) (f : Nat → Int) (l : List AP) : Nat → Int := l.foldl (fun f a => addC f a.ten.toNat c a.L) f
def Asp.cnt (A : Asp) (c : Int) : Nat → Int := addAll c (addAll c (fun _ => 0) A.vs) A.ss
/-- The references as Go lists them. -/
def refsTo (f : Nat → Int) (n : Nat) : Ents := (List.range n).filterMap fun t => if 0 < f t then some ((t : Int), f t) else none
theorem addAll_nil (c : Int) (f : Nat → Int) : addAll c f [] = f := rfl
theorem addAll_snoc (c : Int) (f : Nat → Int) (l : List AP) (a : AP) : addAll c f (l ++ [a]) = addC (addAll c f l) a.ten.toNat c a.L := by simp [addAll]
theorem addC_lo {f : Nat → Int} {k : Nat} {c : Int} {L : Ents} {b : Int} (h : ∀ t, b ≤ f t) (t : Nat) : b ≤ addC f k c L t := by
  unfold addC upd
  split
  · have := h k; omega
  · exact h t
theorem addC_hi {f : Nat → Int} {k : Nat} {c : Int} {L : Ents} {b : Int} (h : ∀ t, f t ≤ b) (hL : L.length ≤ 4096) (t : Nat) : addC f k c L t ≤ b + 4096 := by
  unfold addC upd
  have h0 : cntC c L ≤ L.length := List.countP_le_length
  split
  · have := h k; omega
  · have := h t; omega
theorem addAll_lo (c : Int) : ∀ (l : List AP) (f : Nat → Int), (∀ t, 0 ≤ f t) → ∀ t, 0 ≤ addAll c f l t
  | [], f, h, t => h t
  | a :: l, f, h, t => addAll_lo c l _ (fun t => addC_lo h t) t
theorem addAll_hi (c : Int) : ∀ (l : List AP) (f : Nat → Int) (b : Int), (∀ t, f t ≤ b) → (∀ a ∈ l, a.L.length ≤ 4096) → ∀ t, addAll c f l t ≤ b + 4096 * (l.length : Nat)
  | [], f, b, h, _, t => by rw [addAll_nil]; have := h t; simp; omega
  | a :: l, f, b, h, hl, t => by
    have := addAll_hi c l (addC f a.ten.toNat c a.L) (b + 4096) (fun t => addC_hi h (hl a (by simp)) t) (fun x hx => hl x (by simp [hx])) t
    simp only [List.length_cons]
    have e : addAll c f (a :: l) = addAll c (addC f a.ten.toNat c a.L) l := rfl
    rw [e]
    omega
theorem goodE_len {L : Ents} (h : GoodE L) : L.length ≤ 4096 := by
  have := srt_len L 0 h.srt h.inb (by omega)
  omega
theorem refsTo_succ (f : Nat → Int) (n : Nat) : refsTo f (n + 1) = refsTo f n ++ if 0 < f n then [((n : Int), f n)] else [] := by
  unfold refsTo
  rw [List.range_succ, List.filterMap_append]
  congr 1
  by_cases h : 0 < f n
  · simp [h]
  · simp [h]
theorem refsTo_len (f : Nat → Int) (n : Nat) : (refsTo f n).length ≤ n := by
  have := List.length_filterMap_le (fun t => if 0 < f t then some ((t : Int), f t) else none) (List.range n)
  simpa [refsTo] using this
theorem infoB_ARef : (Tryd.prog.info? 46).map (fun i => (i.zero, i.size, i.bytes)) = some (some (.agg #[.int .i64 0, .int .i64 0]), 2, 16) := by kernel_rfl
theorem zero_cnt (w : World) : (zeroValue 77).run Tryd.prog w = .ok (.agg (Array.replicate 16 (.int .i64 0))) w := by kernel_rfl
theorem size_cnt : (Tryd.prog.info? 77).map (·.size) = some 16 := by kernel_rfl
theorem index_cnt (f : Nat → Int) (t : Nat) (ht : t < 16) (w : World) : Sem.run Tryd.prog (Instr.index 77 (.agg (cntCells f)) (.int .i64 (t : Nat))) w = .ok (.int .i64 (f t)) w := by
  have h1 : Sem.run Tryd.prog (underlying 77) w = .ok (.array 16 3) w := run_underlying Tryd.underlying77 w
  have h2 : Sem.run Tryd.prog (Go.sizeOf 3) w = .ok 1 w := Tryd.sizeOf3 w
  have h3 : (isAgg 3).run Tryd.prog w = .ok false w := by
    unfold isAgg
    rw [Sem.run_bind, run_underlying Tryd.underlying3 w]
    rfl
  have h4 : (0 : Int) ≤ (t : Int) ∧ (t : Int) < 16 := by omega
  have h5 : (cntCells f)[t]? = some (.int .i64 (f t)) := cntCells_get f ht
  simp [Instr.index, asIntOf, h1, h2, h3, h4, part, h5]
  intro h; omega
theorem first4 {a b c d : Value} {xs : List Value} (j : Nat) (u : Value) (hu : [a, b, c, d][j]? = some u) : (a :: b :: c :: d :: xs).toArray[0 + j]? = some u := by
  match j, hu with
  | 0, hu => exact hu
  | 1, hu => exact hu
  | 2, hu => exact hu
  | 3, hu => exact hu
  | j + 4, hu => simp at hu

set_option maxRecDepth 100000 in
set_option maxHeartbeats 4000000 in
theorem Refs_walk (K : Fz) (v : Value) (S : Spc) (c : Int) (w : World) (hK : K.In w) (hSp : SpK K v S) (hG : Good ⟨S.vs.map Vol.abs, S.ss.map Snp.abs⟩) (hR1 : ∀ x ∈ S.vs, Rep x.t x.n x.L) (hR2 : ∀ x ∈ S.ss, Rep x.t x.n x.L) :
    Calls Tryd.prog 15 #[v, .int .i64 c] w (Ret K w fun K' u => SlK K' 2 encE u (refsTo (Asp.cnt ⟨S.vs.map Vol.abs, S.ss.map Snp.abs⟩ c) 16) ∧ FlatS u) := by
  obtain ⟨FF, hFF⟩ : ∃ FF, Asp.cnt ⟨S.vs.map Vol.abs, S.ss.map Snp.abs⟩ c = FF := ⟨_, rfl⟩
  rw [hFF]
  have HFF := Lib.hid hFF
  clear hFF
  have hlv : S.vs.length ≤ 64 := by have := hG.v.len; simpa using this
  have hls : S.ss.length ≤ 256 := by have := hG.s.len; simpa using this
  have HG := Lib.hid hG
  have HR1 := Lib.hid hR1
  have HR2 := Lib.hid hR2
  obtain ⟨g, T, sv, ss, rfl, hb, h1, h2, h3, h4, f1, f2⟩ := hSp
  have s := St.start hK
  have HT1 := Lib.hid h3
  have HT2 := Lib.hid h4
  obtain ⟨a, cap, rfl, hcap, hx⟩ := h1
  obtain ⟨a', cap', rfl, hcap', hx'⟩ := h2
  have Hx := Lib.hid hx
  have Hx' := Lib.hid hx'
  have hbv : ∀ i, Hid ((∀ t, 0 ≤ addAll c (fun _ => 0) ((S.vs.take i).map Vol.abs) t) ∧ ∀ t, addAll c (fun _ => 0) ((S.vs.take i).map Vol.abs) t ≤ 1000000) := fun i => Lib.hid ⟨addAll_lo c _ _ (fun _ => Int.le_refl _), fun t => by
    have := addAll_hi c ((S.vs.take i).map Vol.abs) (fun _ => 0) 0 (fun _ => Int.le_refl _) (fun a ha => by
      obtain ⟨x, hx, rfl⟩ := List.mem_map.1 ha
      exact (HR1.out x (List.mem_of_mem_take hx)).len_le) t
    simp only [List.length_map, List.length_take] at this
    omega⟩
  have hbs : ∀ i, Hid ((∀ t, 0 ≤ addAll c (addAll c (fun _ => 0) (S.vs.map Vol.abs)) ((S.ss.take i).map Snp.abs) t) ∧ ∀ t, addAll c (addAll c (fun _ => 0) (S.vs.map Vol.abs)) ((S.ss.take i).map Snp.abs) t ≤ 10000000) := fun i => Lib.hid ⟨addAll_lo c _ _ (addAll_lo c _ _ (fun _ => Int.le_refl _)), fun t => by
    have h0 := (hbv S.vs.length).out.2
    rw [List.take_length] at h0
    have := addAll_hi c ((S.ss.take i).map Snp.abs) _ 1000000 h0 (fun a ha => by
      obtain ⟨x, hx, rfl⟩ := List.mem_map.1 ha
      exact (HR2.out x (List.mem_of_mem_take hx)).len_le) t
    simp only [List.length_map, List.length_take] at this
    omega⟩
  clear hx hx' h3 h4 f1 f2 hR1 hR2 hG
  go_enter Tryd.func15, Tryd.ntmps15
  go_wp2_with (first
    | ((with_reducible refine gate_box (T := 3) (x := .tmp 1) ?_); refine wpList_boxG rfl rfl rfl (cs := #[.int .i64 c]) rfl ?_; intro g1 W1 e hn; have o1 := Own.made s e hn; replace s := s.new hn; clear e hn)
    | ((with_reducible refine gate_alloc (T := 77) ?_); refine wpList_allocG rfl rfl zero_cnt (cs := Array.replicate 16 (.int .i64 0)) rfl ?_; intro g5 W2 e hn; have n15 := Lib.hid (o1.ne e); have o5 := Own.made s e hn; replace s := s.new hn; replace o1 := o1.new hn; clear e hn)
    | ((with_reducible refine gate_load (T := 47) ?_); refine wpList_loadCell rfl rfl rfl Tryd.underlying47 rfl (s.inn.get hb) rfl ?_)
    | fail)
  obtain ⟨Ks, hKs⟩ : ∃ Ks, Ks = K.add g1 (.cells #[.int .i64 c] 3 (0, 0)) := ⟨_, rfl⟩
  have o5' := o5.freeze (o' := .cells #[.int .i64 c] 3 (0, 0)) n15.out.symm
  have sK := s.freeze o1
  rw [← hKs] at o5' sK
  have hB : Ks g1 = some (.cells #[.int .i64 c] 3 (0, 0)) := by rw [hKs]; exact Fz.add_self _ _ _
  have hEs : Ext K Ks := Ext.of_st hK sK
  rw [← cntCells_zero] at o5'
  clear s o1 o5 hKs n15
  go_loopw [19] (fun vi wr => ∃ (i : Nat) (K1 : Fz), i ≤ S.vs.length ∧ vi = .int .i64 i ∧ St K w K1 wr ∧ Ext Ks K1 ∧ Own w K1 wr g5 (.cells (cntCells (addAll c (fun _ => 0) ((S.vs.take i).map Vol.abs))) 77 (0, 0))) (fun vi _ => S.vs.length - (intOf vi).toNat)
  case atStart => exact ⟨0, Ks, by omega, rfl, sK, Ext.refl _, o5'⟩
  case round =>
    clear sK o5'
    obtain ⟨i, K1, hi, rfl, s, hE1, o5⟩ := hrel
    by_cases hlt : i < S.vs.length
    · obtain ⟨y, hyn⟩ : ∃ y, S.vs[i]? = some y := ⟨_, List.getElem?_eq_getElem hlt⟩
      obtain ⟨yi, yt, yp, yn, yL⟩ := y
      obtain ⟨k, hk, rfl⟩ : ∃ k : Nat, k < 16 ∧ yt = k := by
        have h := HG.out.v.ten (Vol.abs ⟨yi, yt, yp, yn, yL⟩) (List.mem_map.2 ⟨_, List.mem_of_getElem? hyn, rfl⟩)
        have h' : 0 ≤ yt ∧ yt < 16 := h
        exact ⟨yt.toNat, by omega, by omega⟩
      obtain ⟨b, off, cs, ty, fr, rfl, hkb, hj⟩ := Hx.out i _ hyn
      have Hj : Hid (∀ (j : Nat) (u : Value), ([.int .i64 yi, .int .i64 (k : Nat), .pointer yp.ptr, .int .i64 yn] : List Value)[j]? = some u → cs[off + i * 4 + j]? = some u) := Lib.hid hj
      have hTy : Tr 122 K1 yp := (HT1.out _ (List.mem_of_getElem? hyn)).ext (hEs.trans hE1)
      have hRy : Rep yp yn yL := HR1.out _ (List.mem_of_getElem? hyn)
      have hbd := hbv i
      have hnext : Hid (addC (addAll c (fun _ => 0) ((S.vs.take i).map Vol.abs)) k c yL = addAll c (fun _ => 0) ((S.vs.take (i + 1)).map Vol.abs)) := Lib.hid (by
        rw [List.take_add_one, hyn, Option.toList_some, List.map_append, List.map_singleton, addAll_snoc]
        rfl)
      obtain ⟨F, hF⟩ : ∃ F, addAll c (fun _ => 0) ((S.vs.take i).map Vol.abs) = F := ⟨_, rfl⟩
      rw [hF] at hbd hnext o5
      replace hkb := hE1 _ _ (hEs _ _ hkb)
      clear hj hyn hF
      go_wp2_with (first
        | ((with_reducible refine gate_load (T := 68) ?_); refine wpList_loadAgg (vs := [.int .i64 yi, .int .i64 (k : Nat), .pointer yp.ptr, .int .i64 yn]) (off := off + i * 4) rfl rfl rfl Tryd.underlying68 rfl (s.inn.get hkb) (by rw [size_Vol]; rfl) (fun j u hu => Hj.out j u hu) ?_)
        | ((with_reducible refine gate_alloc (T := 68) ?_); refine wpList_allocG rfl rfl zero_Vol (cs := #[.int .i64 0, .int .i64 0, .pointer none, .int .i64 0]) rfl ?_; intro g8 W1 e hn; have n58 := Lib.hid (o5.ne e); have o8 := Own.made s e hn; replace s := s.new hn; replace o5 := o5.new hn; clear e hn)
        | ((with_reducible refine gate_store (T := 68) ?_); refine wpList_storeAll rfl rfl rfl rfl (cs := #[.int .i64 yi, .int .i64 (k : Nat), .pointer yp.ptr, .int .i64 yn]) rfl o8.at_ rfl (by rw [size_Vol]; rfl) (by simp [Value.oneCell']) ?_; intro W3 hu; replace s := s.upd o8 hu; replace o5 := o5.other hu n58.out; replace o8 := o8.upd hu; clear hu)
        | ((with_reducible refine gate_load (T := 62) ?_); refine wpList_loadAgg (vs := [.int .i64 yi, .int .i64 (k : Nat), .pointer yp.ptr, .int .i64 yn]) (off := 0) rfl rfl rfl Tryd.underlying62 rfl o8.at_ (by rw [size_Part]; rfl) (fun j u hu => first4 j u hu) ?_)
        | (go_at_call 31; refine (Refs1_ok (id := yi) (n := yn) (t := yp) (L := yL) s o5 (hE1 _ _ hB) hk hTy hRy ⟨hbd.out.1 k, Int.le_trans (hbd.out.2 k) (by decide)⟩).mono ?_; rintro e W5 ⟨rfl, K5, s5, hE5, o9⟩; rw [hnext.out] at o9; clear s o5 o8)
        | fail)
      go_roundw
      case rel => exact ⟨i + 1, K5, by omega, by go_num, s5, hE1.trans hE5, o9⟩
      case measure => simp [intOf]; omega
    · obtain rfl : i = S.vs.length := by omega
      rw [List.take_length] at o5
      go_wp2_with (first
        | ((with_reducible refine gate_load (T := 48) ?_); refine wpList_loadCell rfl rfl rfl Tryd.underlying48 rfl (s.inn.get (hE1 _ _ (hEs _ _ hb))) rfl ?_)
        | fail)
      obtain ⟨Kt, hKt⟩ : ∃ Kt, Kt = K1 := ⟨_, rfl⟩
      subst hKt
      have hEt := hE1
      have st := s
      have ot := o5
      clear s o5 hE1 hi hlt
      go_loopw [33] (fun vi wr => ∃ (i : Nat) (K1 : Fz), i ≤ S.ss.length ∧ vi = .int .i64 i ∧ St K w K1 wr ∧ Ext Ks K1 ∧ Own w K1 wr g5 (.cells (cntCells (addAll c (addAll c (fun _ => 0) (S.vs.map Vol.abs)) ((S.ss.take i).map Snp.abs))) 77 (0, 0))) (fun vi _ => S.ss.length - (intOf vi).toNat)
      case atStart => exact ⟨0, Kt, by omega, rfl, st, hEt, ot⟩
      case round =>
        clear st ot
        obtain ⟨i, K1, hi, rfl, s, hE1, o5⟩ := hrel
        by_cases hlt : i < S.ss.length
        · obtain ⟨y, hyn⟩ : ∃ y, S.ss[i]? = some y := ⟨_, List.getElem?_eq_getElem hlt⟩
          obtain ⟨⟨yi, yt, yp, yn, yL⟩, yf⟩ := y
          obtain ⟨k, hk, rfl⟩ : ∃ k : Nat, k < 16 ∧ yt = k := by
            have h := HG.out.s.ten (Snp.abs ⟨⟨yi, yt, yp, yn, yL⟩, yf⟩) (List.mem_map.2 ⟨_, List.mem_of_getElem? hyn, rfl⟩)
            have h' : 0 ≤ yt ∧ yt < 16 := h
            exact ⟨yt.toNat, by omega, by omega⟩
          obtain ⟨b, off, cs, ty, fr, rfl, hkb, hj⟩ := Hx'.out i _ hyn
          have Hj : Hid (∀ (j : Nat) (u : Value), ([.int .i64 yi, .int .i64 (k : Nat), .pointer yp.ptr, .int .i64 yn, .int .i64 yf] : List Value)[j]? = some u → cs[off + i * 5 + j]? = some u) := Lib.hid hj
          have hTy : Tr 122 K1 yp := (HT2.out _ (List.mem_of_getElem? hyn)).ext (hEs.trans hE1)
          have hRy : Rep yp yn yL := HR2.out _ (List.mem_of_getElem? hyn)
          have hbd := hbs i
          have hnext : Hid (addC (addAll c (addAll c (fun _ => 0) (S.vs.map Vol.abs)) ((S.ss.take i).map Snp.abs)) k c yL = addAll c (addAll c (fun _ => 0) (S.vs.map Vol.abs)) ((S.ss.take (i + 1)).map Snp.abs)) := Lib.hid (by
            rw [List.take_add_one, hyn, Option.toList_some, List.map_append, List.map_singleton, addAll_snoc]
            rfl)
          obtain ⟨F, hF⟩ : ∃ F, addAll c (addAll c (fun _ => 0) (S.vs.map Vol.abs)) ((S.ss.take i).map Snp.abs) = F := ⟨_, rfl⟩
          rw [hF] at hbd hnext o5
          replace hkb := hE1 _ _ (hEs _ _ hkb)
          clear hj hyn hF
          go_wp2_with (first
            | ((with_reducible refine gate_load (T := 64) ?_); refine wpList_loadAgg (vs := [.int .i64 yi, .int .i64 (k : Nat), .pointer yp.ptr, .int .i64 yn, .int .i64 yf]) (off := off + i * 5) rfl rfl rfl Tryd.underlying64 rfl (s.inn.get hkb) (by rw [size_Snp]; rfl) (fun j u hu => Hj.out j u hu) ?_)
            | ((with_reducible refine gate_alloc (T := 64) ?_); refine wpList_allocG rfl rfl zero_Snp (cs := #[.int .i64 0, .int .i64 0, .pointer none, .int .i64 0, .int .i64 0]) rfl ?_; intro g8 W1 e hn; have n58 := Lib.hid (o5.ne e); have o8 := Own.made s e hn; replace s := s.new hn; replace o5 := o5.new hn; clear e hn)
            | ((with_reducible refine gate_store (T := 64) ?_); refine wpList_storeAll rfl rfl rfl rfl (cs := #[.int .i64 yi, .int .i64 (k : Nat), .pointer yp.ptr, .int .i64 yn, .int .i64 yf]) rfl o8.at_ rfl (by rw [size_Snp]; rfl) (by simp [Value.oneCell']) ?_; intro W3 hu; replace s := s.upd o8 hu; replace o5 := o5.other hu n58.out; replace o8 := o8.upd hu; clear hu)
            | ((with_reducible refine gate_load (T := 62) ?_); refine wpList_loadAgg (vs := [.int .i64 yi, .int .i64 (k : Nat), .pointer yp.ptr, .int .i64 yn]) (off := 0) rfl rfl rfl Tryd.underlying62 rfl o8.at_ (by rw [size_Part]; rfl) (fun j u hu => first4 j u hu) ?_)
            | (go_at_call 31; refine (Refs1_ok (id := yi) (n := yn) (t := yp) (L := yL) s o5 (hE1 _ _ hB) hk hTy hRy ⟨hbd.out.1 k, Int.le_trans (hbd.out.2 k) (by decide)⟩).mono ?_; rintro e W5 ⟨rfl, K5, s5, hE5, o9⟩; rw [hnext.out] at o9; clear s o5 o8)
            | fail)
          go_roundw
          case rel => exact ⟨i + 1, K5, by omega, by go_num, s5, hE1.trans hE5, o9⟩
          case measure => simp [intOf]; omega
        · obtain rfl : i = S.ss.length := by omega
          rw [List.take_length] at o5
          have o6 : Own w K1 wr g5 (.cells (cntCells (Asp.cnt ⟨S.vs.map Vol.abs, S.ss.map Snp.abs⟩ c)) 77 (0, 0)) := o5
          rw [HFF.out] at o6
          clear o5 hbv hbs
          go_wp2_with (first
            | ((with_reducible refine gate_load (T := 77) ?_); refine wpList_load_row rfl 77 _ rfl _ rfl 77 _ _ _ o6.at_ Tryd.underlying77 rfl (by rw [size_cnt, cntCells_size]) ?_)
            | fail)
          go_loopw [4, 43] (fun u vt wr => ∃ (t : Nat) (K2 : Fz), t ≤ 16 ∧ vt = .int .i64 t ∧ St K w K2 wr ∧ Row w K2 wr 46 2 u (refsTo FF t).length ((refsTo FF t).flatMap encE)) (fun _ vt _ => 16 - (intOf vt).toNat)
          case atStart => exact ⟨0, K1, by omega, rfl, s, Row.nil _ _ _ _ _⟩
          case round =>
            clear s o6
            obtain ⟨t, K2, ht, rfl, s, r⟩ := hrel
            obtain ⟨va, vn, vc, rfl⟩ := r.form
            have hlen := refsTo_len FF t
            by_cases hlt : t < 16
            · have hget : (cntCells FF)[t]? = some (.int .i64 (FF t)) := cntCells_get FF hlt
              have hidx := index_cnt FF t hlt
              have hlt' : (t : Int) < 16 := by omega
              by_cases hq : 0 < FF t
              · have hnext : Hid (refsTo FF (t + 1) = refsTo FF t ++ [((t : Int), FF t)]) := Lib.hid (by rw [refsTo_succ, if_pos hq])
                go_wp2_with (first
                  | ((with_reducible refine gate_buildSlice (T := 43) ?_); refine wpList_buildSlice1 rfl rfl rfl (cs := #[.int .i64 (t : Nat), .int .i64 (FF t)]) Tryd.underlying43 infoB_ARef (by decide) (by decide) (by kernel_rfl) ?_; intro gn W5 e hn; have hnew := hn.here; rw [← e] at hnew; replace s := s.new hn; replace r := r.new hn; clear hn e)
                  | ((with_reducible refine gate_append ?_); refine wpList_appendRow rfl rfl Tryd.underlying43 infoB_ARef rfl (by decide) rfl s r rfl (news := [.int .i64 (t : Nat), .int .i64 (FF t)]) rfl (by simp) (cells_here hnew) (by simp [Value.oneCell']) (by omega) (by decide) ?_; intro v2 W6 r2 gr; replace s := s.grown r gr; clear gr r hnew)
                  | fail)
                go_roundw
                case rel =>
                  refine ⟨t + 1, K2, by omega, by go_num, s, ?_⟩
                  rw [hnext.out, List.length_append, List.flatMap_append]
                  exact r2
                case measure => simp [intOf]; omega
              · have hnext : Hid (refsTo FF (t + 1) = refsTo FF t) := Lib.hid (by rw [refsTo_succ, if_neg hq, List.append_nil])
                go_wp2
                go_roundw
                case rel =>
                  refine ⟨t + 1, K2, by omega, by go_num, s, ?_⟩
                  rw [hnext.out]
                  exact r
                case measure => simp [intOf]; omega
            · obtain rfl : t = 16 := by omega
              go_wp2
              go_ret
              have hfl := r.flatS
              obtain ⟨K3, s3, hE3, hS3, _⟩ := Row.fix s r encE_len rfl rfl
              exact s3.ret ⟨hS3, hfl⟩

theorem Refs_ok (K : Fz) (v : Value) (A : Asp) (c : Int) (w : World) (hK : K.In w) (hS : SpA K v A) (hG : Good A) :
    Calls Tryd.prog 15 #[v, .int .i64 c] w (Ret K w fun K' u => SlK K' 2 encE u (refsTo (A.cnt c) 16) ∧ FlatS u) := by
  obtain ⟨S, hSp, e1, e2, hR1, hR2⟩ := hS
  obtain rfl := Asp.eq_mk e1 e2
  exact Refs_walk K v S c w hK hSp hG hR1 hR2
end Go.Proofs.YtdaagmhkhfcmdaaDoor
