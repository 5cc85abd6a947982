/- mappings: the mappings of a tree. -/
import Derived.Test.YtdaagmhkhfcmdaaRangeW
import Derived.Test.YtdaagmhkhfcmdaaPureD
import Derived.Test.YtdaagmhkhfcmdaaRow
import Derived.Test.YtdaagmhkhfcmdaaVolT
namespace Go.Proofs.Ytdaagmhkhfcmdaa
open Go Go.RowKit
set_option maxHeartbeats 400000

theorem infoB_Mapping : (Try.prog.info? 107).map (fun i => (i.zero, i.size, i.bytes)) = some (some (.agg #[.int .i64 0, .int .i64 0]), 2, 16) := by kernel_rfl
theorem zero_Mappings (w : World) : (zeroValue 50).run Try.prog w = .ok (.slice none 0 0) w := by kernel_rfl
theorem encE_len (x : Int × Int) : (encE x).length = 2 := rfl

theorem results_cell1 {fn : Func} {P : Program} {p : Tmp} {ty : TypeId} (h : fn.results = #[.cell p ty]) (tmps : Array Value) (w : World) (g : Nat) (t : TypeId) (cs : Array Value) (fr : Nat × Nat) (d : TypeDesc) (v : Value)
    (hp : tmps.getD p undef = .pointer (some ⟨g, 0, none⟩)) (hg : w.heap[g]? = some (.cells cs t fr))
    (hu : P.underlying ty = some d) (hd : (match d with | .struct _ | .array _ _ => true | _ => false) = false) (hc : cs[0]? = some v) :
    (results fn tmps).run P w = .ok v w := by
  have hp' : tmps[p]?.getD undef = .pointer (some ⟨g, 0, none⟩) := by simpa using hp
  have hcell : w.cell? ⟨g, 0, none⟩ = some v := (cell_of_row w g 0 cs t fr hg).trans hc
  have hagg : (isAgg ty).run P w = .ok false w := by
    unfold isAgg
    rw [Sem.run_bind, run_underlying hu w]
    cases d <;> simp_all
  simp [results, h, hp', asAddr, loadVar, Sem.run_bind, hagg, run_load, hcell]

/-- What a round keeps. -/
def MapI (K0 : Fz) (w : World) (g : Nat) (pre : List (Int × Int)) (K : Fz) (W : World) : Prop :=
  St K0 w K W ∧ ∃ v, Own w K W g (.cells #[v] 50 (0, 0)) ∧ Row w K W 107 2 v pre.length (pre.flatMap encE) ∧ v.ownBlock ≠ some g ∧ ∃ a n c, v = .slice a n c

set_option maxRecDepth 100000 in
set_option maxHeartbeats 1000000 in
theorem mappings_walk (t : PT) (n : Int) (K : Fz) (w : World) (hK : K.In w) (ht : Tr 153 K t) (hxs : (walkTo 2 t 0 0 4096 16).length ≤ 100000) :
    Calls Try.prog 47 #[treeV t n] w (Ret K w fun K' v => SlK K' 2 encE v (walkTo 2 t 0 0 4096 16) ∧ FlatS v) := by
  have s := St.start hK
  refine callsIn_wide.1 (callsIn_of_wp_marks (n := 0) Try.func47 rfl trivial ?_)
  simp only [Try.ntmps47, List.size_toArray, List.length_cons, List.length_nil, Nat.reduceAdd, Nat.reduceSub, Array.replicate_succ, Array.replicate_zero, List.push_toArray, List.append_toArray, List.nil_append, List.cons_append]
  refine wpIn_seq (wpIn_wide.2 ?_)
  go_wp2_with (first
    | ((with_reducible refine gate_box (T := 86) (x := .tmp 0) ?_); refine wpList_boxG rfl rfl rfl (cs := #[.pointer t.ptr, .int .i64 n]) rfl ?_; intro g1 W1 e hn; have o1 := Own.made s e hn; replace s := s.new hn; clear e hn)
    | ((with_reducible refine gate_alloc (T := 50) ?_); refine wpList_allocG rfl rfl zero_Mappings (cs := #[.slice none 0 0]) rfl ?_; intro g5 W3 e hn; have n15 := o1.ne e; have o5 := Own.made s e hn; replace s := s.new hn; replace o1 := o1.new hn; clear e hn)
    | fail)
  refine wpIn_seq (wpIn_seq (wpIn_wide.2 ?_))
  go_wp2_with (first
    | ((with_reducible refine gate_load (T := 86) ?_); refine wpList_load_row rfl 86 _ rfl _ rfl 86 _ _ _ o1.at_ Try.underlying86 rfl (by rw [size_Tree]; rfl) ?_)
    | (go_at_call 46; refine (All_ok t n K _ s.inn).mono ?_; rintro e W4 ⟨v, K', rfl, hi, hl, hb', ⟨a1, a2, a3, rfl, hg1, hg2, hg3⟩, hE⟩; replace o5 := o5.call hl hb'; replace s := s.call hi hl hb'; clear o1)
    | fail)
  have hit := Range1_ok t n 0 4096 K' a1 a2 a3 (ht.ext hE) hg1 hg2 hg3
  have hsz := s.size
  refine wpIn_block ?_
  refine range_ok (gf := 100) (lb := #[.pointer (some ⟨a1, 0, none⟩), .pointer (some ⟨a2, 0, none⟩), .pointer (some ⟨a3, 0, none⟩)]) (K := K') rfl (by intro args w; rfl) hit (fun x => rfl)
    (MapI K w g5) (fun _ _ _ => False) (fun pre K1 W1 h => h.1.inn) ?_ (fun _ _ _ h => h.elim) (fun _ _ _ _ _ h => h.elim) ?_
    (fun x => { tmps := #[treeV t n, .pointer (some ⟨g1, 0, none⟩), .pointer (some ⟨g5, 0, none⟩), .int .i64 x.1, .int .i64 x.2, treeV t n, .func (.func 100) #[] #[.pointer (some ⟨a1, 0, none⟩), .pointer (some ⟨a2, 0, none⟩), .pointer (some ⟨a3, 0, none⟩)], .int .i64 x.1, .int .i64 x.2, undef, undef, undef, undef, undef, undef, undef], defers := [] }) ?_ ?_ ?_ ?_
  · rintro pre K1 W K2 W' ⟨s, v, o, r, hne, hv⟩ he
    exact ⟨s.ex he hsz, v, o.ex he, r.ex he, hne, hv⟩
  · exact ⟨s, _, o5, Row.nil _ _ _ _ _, by rintro ⟨⟩, _, _, _, rfl⟩
  · intro l x W N hN
    refine wpIn_seq (region_round (by rintro ⟨_, _, h⟩; exact h) rfl ?_)
    simp only [encP, List.size_toArray, List.length_cons, List.length_nil]
    go_wp2
    refine region_round (by rintro ⟨_, _, h⟩; exact h) rfl ?_
    go_wp2
    exact hN
  · rintro l D r pre x rest K1 W hx hE1 ⟨s, v, o, rw, hne, va, vn, vc, rfl⟩ hl hD hlD hl0 hD0
    obtain ⟨xb, xc⟩ := x
    have hlen : pre.length + 1 ≤ 100000 := by have h := congrArg List.length hx; simp at h; omega
    have hlg := o.ne_of hl (not_plain_loop _)
    have hDg := o.ne_of hD (not_plain_def _)
    have hlr := rw.ne_of hl (not_plain_loop _)
    have hDr := rw.ne_of hD (not_plain_def _)
    refine wpIn_block (region_round (by rintro ⟨_, _, h⟩; exact h) rfl ?_)
    go_wp2_with (first
      | ((with_reducible refine gate_load (T := 50) (x := .tmp 2) ?_); refine wpList_loadCell rfl rfl rfl Try.underlying50 rfl o.at_ rfl ?_)
      | ((with_reducible refine gate_buildSlice (T := 50) ?_); refine wpList_buildSlice1 rfl rfl rfl (cs := #[.int .i64 xb, .int .i64 xc]) Try.underlying50 infoB_Mapping (by decide) (by decide) (by kernel_rfl) ?_; intro gn W5 e hn; have hnew := hn.here; rw [← e] at hnew; replace s := s.new hn; replace o := o.new hn; replace rw := rw.new hn; replace hl := hn.at hl; replace hD := hn.at hD; clear hn e)
      | ((with_reducible refine gate_append ?_); refine wpList_appendRow rfl rfl Try.underlying50 infoB_Mapping rfl (by decide) rfl s rw rfl (news := [.int .i64 xb, .int .i64 xc]) rfl (by simp) (cells_here hnew) (by simp [Value.oneCell']) (by omega) (by decide) ?_; intro v2 W6 r2 gr; have hne2 := o.apart gr hne; replace s := s.grown rw gr; replace o := o.grown gr hne; replace hl := gr.at hl hlr; replace hD := gr.at hD hDr; obtain ⟨a2, n2, c2, rfl⟩ := r2.form; clear gr rw hnew)
      | ((with_reducible refine gate_store (T := 50) ?_); refine wpList_storeAll rfl rfl rfl rfl (cs := #[.slice a2 n2 c2]) rfl o.at_ rfl (by kernel_rfl) (by simp [Value.oneCell']) ?_; intro W7 hu; replace s := s.upd o hu; replace r2 := r2.upd hu hne2; replace o := o.upd hu; replace hl := hu.at hl hlg; replace hD := hu.at hD hDg; clear hu)
      | fail)
    refine ⟨⟨K1, Ext.refl _, s, _, o, ?_, hne2, _, _, _, rfl⟩, hl, hD⟩
    simpa [List.flatMap_append, encE] using r2
  · rintro D K1 W hD hE2 ⟨s, v, o, rw, hne, va, vn, vc, rfl⟩ hd
    have hDg := o.ne_of hd (not_plain_def _)
    simp only [Exit.inBlock, Exit.then]
    refine wpIn_seq (wpIn_wide.2 ?_)
    go_wp2_with (first
      | ((with_reducible refine gate_load (T := 50) (x := .tmp 2) ?_); refine wpList_loadCell rfl rfl rfl Try.underlying50 rfl o.at_ rfl ?_)
      | ((with_reducible refine gate_store (T := 50) ?_); refine wpList_storeAll rfl rfl rfl rfl (cs := #[.slice va vn vc]) rfl o.at_ rfl (by kernel_rfl) (by simp [Value.oneCell']) ?_; intro W7 hu; replace s := s.upd o hu; replace rw := rw.upd hu hne; replace o := o.upd hu; replace hd := hu.at hd hDg; clear hu)
      | fail)
    refine wpIn_ret ?_
    refine ⟨by simp, .inl ⟨_, _, rfl, run_takeDeferred hd, ?_⟩⟩
    have hfl := rw.flatS
    obtain ⟨K3, s3, hE3, hS, hK3⟩ := rw.fix s (enc := encE) (fun _ => rfl) rfl rfl
    have o3 := o.fixed hK3 hne
    have he := Ex.of_put (B := W4.heap.size) (o' := .deferred none) s3.inn hD hd (not_plain_def _)
    have s4 := s3.ex he hsz
    have o4 := o3.ex he
    refine ⟨_, results_cell1 rfl _ _ g5 _ _ _ _ (.slice va vn vc) rfl o4.at_ Try.underlying50 rfl rfl, ?_⟩
    exact s4.ret ⟨hS, hfl⟩
  · intro D c K1 W _ h
    exact h.elim

theorem inB_filter {L : Ents} (h : InB L) : L.filter (inR 0 4096) = L := by
  rw [List.filter_eq_self]
  intro x hx
  have := h x hx
  simp [inR]
  omega
theorem mappings_ok (t : PT) (n : Int) (L : Ents) (K : Fz) (w : World) (hK : K.In w) (ht : Tr 153 K t) (hR : Rep t n L) :
    Calls Try.prog 47 #[treeV t n] w (Ret K w fun K' v => SlK K' 2 encE v L ∧ FlatS v) := by
  have e : walkTo 2 t 0 0 4096 16 = L := by
    rw [walkPart_walks, hR.walks, inB_filter hR.inb]
  have hlen := hR.len_le
  have := mappings_walk t n K w hK ht (by rw [e]; omega)
  rw [e] at this
  exact this
end Go.Proofs.Ytdaagmhkhfcmdaa
