/- What Play of the specification does. -/
import Derived.Test.YtpfdlpniijgakaaDoorRefH
namespace Go.Proofs.YtpfdlpniijgakaaDoor
open Go Go.RowKit
set_option maxHeartbeats 400000

def fromIx (o : Chg) (n : Nat) : Nat := (o.from_.tmod n).toNat
def rstep (l : List Ents) (o : Chg) : List Ents := l ++ [rdo (l.getD (fromIx o l.length) []) o]
/-- All versions of a script. -/
def rplay (os : List Chg) : List Ents := os.foldl rstep [[]]

theorem rplay_succ {os : List Chg} {i : Nat} {o : Chg} (h : os[i]? = some o) : rplay (os.take (i + 1)) = rstep (rplay (os.take i)) o := by
  rw [List.take_add_one, h]
  simp [rplay]
theorem rplay_spec (os : List Chg) : (rplay os).length = os.length + 1 ∧ ∀ L ∈ rplay os, L.length ≤ os.length := by
  suffices h : ∀ (os : List Chg) (l : List Ents) (n : Nat), (∀ L ∈ l, L.length ≤ n) → (os.foldl rstep l).length = l.length + os.length ∧ ∀ L ∈ os.foldl rstep l, L.length ≤ n + os.length by
    have := h os [[]] 0 (by simp)
    exact ⟨by rw [rplay, this.1]; simp; omega, fun L hL => by have := this.2 L hL; omega⟩
  intro os
  induction os with
  | nil => intro l n h; exact ⟨by simp, fun L hL => by have := h L hL; simpa using this⟩
  | cons o os ih =>
    intro l n h
    have h2 : ∀ L ∈ rstep l o, L.length ≤ n + 1 := by
      intro L hL
      rcases List.mem_append.1 hL with hL | hL
      · have := h L hL; omega
      · obtain rfl := List.mem_singleton.1 hL
        refine Nat.le_trans (rdo_len _ _) ?_
        rw [List.getD_eq_getElem?_getD]
        cases hg : l[fromIx o l.length]? with
        | none => simp
        | some M => have := h M (List.mem_of_getElem? hg); simp; omega
    have := ih (rstep l o) (n + 1) h2
    refine ⟨by rw [List.foldl_cons, this.1]; simp [rstep]; omega, fun L hL => ?_⟩
    have := this.2 L hL
    simp
    omega

/-- The rows of the specification's versions. -/
def All2 (K : Fz) (svs : List Value) (Ls : List Ents) : Prop := svs.length = Ls.length ∧ ∀ (i : Nat) sv, svs[i]? = some sv → RT K (.agg #[sv]) (Ls.getD i [])
theorem All2.ext {K K' : Fz} {svs : List Value} {Ls : List Ents} (h : All2 K svs Ls) (hE : Ext K K') : All2 K' svs Ls := ⟨h.1, fun i sv hi => (h.2 i sv hi).ext hE⟩
theorem All2.snoc {K : Fz} {svs : List Value} {Ls : List Ents} {sv : Value} {L : Ents} (h : All2 K svs Ls) (hR : RT K (.agg #[sv]) L) : All2 K (svs ++ [sv]) (Ls ++ [L]) := by
  refine ⟨by simp [h.1], fun i x hi => ?_⟩
  rw [List.getD_eq_getElem?_getD]
  by_cases hlt : i < svs.length
  · rw [List.getElem?_append_left hlt] at hi
    rw [List.getElem?_append_left (by rw [← h.1]; exact hlt), ← List.getD_eq_getElem?_getD]
    exact h.2 i x hi
  · have hi2 := (List.getElem?_eq_some_iff.1 hi).1
    simp at hi2
    obtain rfl : i = svs.length := by omega
    rw [List.getElem?_append_right (Nat.le_refl _)] at hi
    rw [List.getElem?_append_right (by rw [h.1]; exact Nat.le_refl _), h.1]
    simp at hi ⊢
    subst hi
    exact hR

/-- A literal of one tree, frozen. -/
def LitAt (L : Ents) (K : Fz) (v : Value) : Prop := ∃ g2 sv2, v = .slice (some ⟨g2, 0, none⟩) 1 1 ∧ K g2 = some (.cells #[sv2] 35 (0, 0)) ∧ sv2.oneCell' = true ∧ RT K (.agg #[sv2]) L
theorem LitAt.ext {L : Ents} {K K' : Fz} {v : Value} (hE : Ext K K') (h : LitAt L K v) : LitAt L K' v := by
  obtain ⟨g2, sv2, e, hk, h1, hr⟩ := h
  exact ⟨g2, sv2, e, hE _ _ hk, h1, hr.ext hE⟩

theorem mixed_ok : Tryd.prog.follows .mixedOrders = true := by kernel_rfl
theorem info_rtree : (Tryd.prog.info? 35).map (fun i => (i.zero, i.size, i.bytes)) = some (some (.agg #[.slice none 0 0]), 1, 24) := by kernel_rfl
theorem build_RTree (w : World) : (Instr.build 35 #[]).run Tryd.prog w = .ok (.agg #[.slice none 0 0]) w := by kernel_rfl
theorem Row.cell {w : World} {K : Fz} {W : World} {e : TypeId} {sz g n cap : Nat} {xs : List Value} (r : Row w K W e sz (.slice (some ⟨g, 0, none⟩) n cap) n xs) (j : Nat) (hj : j < n * sz) : W.cell? ⟨g, j, none⟩ = xs[j]? := r.own.cellAt j hj

set_option maxRecDepth 100000 in
set_option maxHeartbeats 4000000 in
theorem rPlay_ok (K : Fz) (sv : Value) (os : List Chg) (w : World) (hK : K.In w) (hS : SlK K 4 encO sv os) (hlen : os.length ≤ 1000) :
    Calls Tryd.prog 11 #[sv] w (Ret K w fun K' v => ∃ svs, SlK K' 1 (fun x => [x]) v svs ∧ All2 K' svs (rplay os) ∧ Ext K K') := by
  obtain ⟨a, cap, rfl, hcap, hx⟩ := hS
  have s := St.start hK
  have Hx := Lib.hid hx
  clear hx
  go_enter Tryd.func11, Tryd.ntmps11
  go_wp2_with (first
    | ((with_reducible refine gate_build (T := 35) (x := #[]) ?_); refine wpList_build0 rfl rfl build_RTree ?_)
    | ((with_reducible refine gate_buildSlice (T := 26) ?_); refine wpList_buildSlice1 rfl rfl rfl (cs := #[.slice none 0 0]) Tryd.underlying26 info_rtree (by decide) (by decide) (by kernel_rfl) ?_; intro gn W5 e hn; have rw : Row w K W5 35 1 (.slice (some ⟨gn, 0, none⟩) 1 1) 1 [.slice none 0 0] := (Row.lit s e hn rfl (by decide)); replace s := s.new hn; clear hn e)
    | fail)
  go_loopw [3, 4] (fun v vi wr => ∃ (i : Nat) (K1 : Fz) (svs : List Value) (g c : Nat), i ≤ os.length ∧ vi = .int .i64 i ∧ v = .slice (some ⟨g, 0, none⟩) (i + 1) c ∧ St K w K1 wr ∧ Row w K1 wr 35 1 v (i + 1) svs ∧ All2 K1 svs (rplay (os.take i)))
    (fun _ i _ => os.length - (intOf i).toNat)
  case atStart => exact ⟨0, K, _, _, _, by omega, rfl, rfl, s, rw, rfl, fun i sv hi => by
    obtain ⟨rfl, rfl⟩ : i = 0 ∧ sv = .slice none 0 0 := by
      cases i with
      | zero => simpa [eq_comm] using hi
      | succ i => simp at hi
    exact ⟨_, rfl, SlK.nil _ _ _ _ _, fun a n c h => by cases h; exact .inl rfl⟩⟩
  case round =>
    clear s rw
    obtain ⟨i, K1, svs, g, c, hi, rfl, rfl, s, rw, hall⟩ := hrel
    by_cases hlt : i < os.length
    · obtain ⟨o, ho⟩ : ∃ o, os[i]? = some o := ⟨_, List.getElem?_eq_getElem hlt⟩
      obtain ⟨b, off, cs, ty, fr, rfl, hkb, hj⟩ := Hx.out i o ho
      have hE1 := Ext.of_st hK s
      have hkb1 := hE1 _ _ hkb
      have c0 := (s.inn.cell hkb1 (off + i * 4)).trans (hj 0 _ rfl)
      have Ho := Lib.hid ho
      have Hj := Lib.hid hj
      obtain ⟨fm, cl, blk, ch⟩ := o
      clear ho hj
      have hlens : ∀ r, ((rplay (os.take i)).getD r []).length ≤ 1000000 := by
        intro r
        rw [List.getD_eq_getElem?_getD]
        cases hg : (rplay (os.take i))[r]? with
        | none => simp
        | some M => have := (rplay_spec (os.take i)).2 M (List.mem_of_getElem? hg); simp at this ⊢; omega
      by_cases hneg : fm.tmod ((i : Int) + 1) < 0
      · have Hr : Hid (fromIx ⟨fm, cl, blk, ch⟩ (i + 1) = 0) := Lib.hid (by unfold fromIx; simp only [Int.natCast_add, Int.natCast_one]; omega)
        go_wp2
        obtain ⟨sv0, hsv⟩ : ∃ x, svs[0]? = some x := ⟨_, List.getElem?_eq_getElem (by rw [hall.1, (rplay_spec _).1]; simp <;> omega)⟩
        have hR := hall.2 0 sv0 hsv
        have hLl := Lib.hid (hlens 0)
        have Hsv := Lib.hid hsv
        clear hsv
        obtain ⟨a0, l0, c00, hsl⟩ : ∃ a l c, sv0 = .slice a l c := by obtain ⟨_, e, ⟨_, _, e2, _⟩, _⟩ := hR; cases e; exact ⟨_, _, _, e2⟩
        subst hsl
        refine wp_region_run (m := 11) (n := 37) (I := fun K2 W => St K w K2 W ∧ Row w K2 W 35 1 (.slice (some ⟨g, 0, none⟩) (i + 1) c) (i + 1) svs) (K0 := K1)
          (ws := [.is (.slice (some ⟨g, 0, none⟩) (i + 1) c), .is (.slice (some ⟨g, 0, none⟩) (i + 1) c), .is (.int .i64 0), .is (.pointer (some ⟨g, 0, none⟩)), .is (.agg #[.slice a0 l0 c00]), .is (.slice (some ⟨b, off, none⟩) os.length cap), .is (.int .i64 (i : Nat)), .is (.pointer (some ⟨b, off + i * 4, none⟩)), .is (.agg #[.int .i64 fm, .bool cl, .int .i64 blk, .int .i64 ch]),
            .sat (fun K v => RT K v (rdo ((rplay (os.take i)).getD 0 []) ⟨fm, cl, blk, ch⟩)),
            .sat (LitAt (rdo ((rplay (os.take i)).getD 0 []) ⟨fm, cl, blk, ch⟩))])
          mixed_ok (by kernel_rfl) rfl rfl ?mono0 ⟨s.drew, rw.drew⟩ ?_
        case mono0 =>
          simp only [List.forall_mem_cons]
          exact ⟨trivial, trivial, trivial, trivial, trivial, trivial, trivial, trivial, trivial, fun K K' v hE h => h.ext hE, fun K K' v hE h => LitAt.ext hE h, fun _ h => by cases h⟩
        apply RunAll.is_
        · intro K3 W3 hE3 hI3 hF3
          go_wp2
          exact step_end ⟨⟨K3, Ext.refl _, hI3⟩, rfl⟩
        · rfl
        apply RunAll.is_
        · intro K3 W3 hE3 hI3 hF3
          go_wp2
          exact step_end ⟨⟨K3, Ext.refl _, hI3⟩, rfl⟩
        · rfl
        apply RunAll.is_
        · intro K3 W3 hE3 hI3 hF3
          go_wp2
          exact step_end ⟨⟨K3, Ext.refl _, hI3⟩, rfl⟩
        · rfl
        apply RunAll.is_
        · intro K3 W3 hE3 hI3 hF3
          have hlr : 0 < i + 1 := by omega
          go_wp2
          exact step_end ⟨⟨K3, Ext.refl _, hI3⟩, rfl⟩
        · rfl
        apply RunAll.is_
        · intro K3 W3 hE3 hI3 hF3
          have cc := (hI3.2.cell 0 (by omega)).trans Hsv.out
          go_wp2
          exact step_end ⟨⟨K3, Ext.refl _, hI3⟩, rfl⟩
        · rfl
        apply RunAll.is_
        · intro K3 W3 hE3 hI3 hF3
          go_wp2
          exact step_end ⟨⟨K3, Ext.refl _, hI3⟩, rfl⟩
        · rfl
        apply RunAll.is_
        · intro K3 W3 hE3 hI3 hF3
          go_wp2
          exact step_end ⟨⟨K3, Ext.refl _, hI3⟩, rfl⟩
        · rfl
        apply RunAll.is_
        · intro K3 W3 hE3 hI3 hF3
          go_wp2
          exact step_end ⟨⟨K3, Ext.refl _, hI3⟩, rfl⟩
        · rfl
        apply RunAll.is_
        · intro K3 W3 hE3 hI3 hF3
          go_wp2_with (first | ((with_reducible refine gate_load (T := 38) ?_); refine wpList_loadAgg (vs := encO ⟨fm, cl, blk, ch⟩) (off := off + i * 4) rfl rfl rfl Tryd.underlying38 rfl (hI3.1.inn.get (hE3 _ _ hkb1)) (by kernel_rfl) (fun j u hu => Hj.out j u hu) ?_) | fail)
          exact step_end ⟨⟨K3, Ext.refl _, hI3⟩, rfl⟩
        · rfl
        apply RunAll.sat_
        · intro K3 W3 hE3 hI3 hF3
          go_wp2_with (first | (go_at_call 16; refine (rDo_ok K3 _ _ ⟨fm, cl, blk, ch⟩ W3 hI3.1.inn (hR.ext hE3) hLl.out).mono ?_; rintro e W4 ⟨v4, K4, rfl, hi4, hl4, hb4, hR4, hE4⟩) | fail)
          exact step_end ⟨_, K4, hE4, ⟨hI3.1.call hi4 hl4 hb4, hI3.2.call hl4 hb4⟩, rfl, hR4⟩
        · intro v; rfl
        intro v9
        apply RunAll.sat_
        · intro K3 W3 hE3 hI3 hF3
          obtain ⟨sv9, hv9, hS9, hF9⟩ := hF3.2 rfl
          obtain ⟨s3, rw3⟩ := hI3
          obtain ⟨a9, l9, c9, rfl⟩ : ∃ a l c, sv9 = .slice a l c := by obtain ⟨_, _, e, _⟩ := hS9; exact ⟨_, _, _, e⟩
          have Hv9 := Lib.hid hv9
          clear hv9 hF3
          go_wp2_with (first | ((with_reducible refine gate_buildSlice (T := 26) ?_); refine wpList_buildSlice1 rfl rfl Hv9.out (cs := #[.slice a9 l9 c9]) Tryd.underlying26 info_rtree (by decide) (by decide) (by kernel_rfl) ?_; intro gn W5 e hn; have o9 := Own.made s3 e hn; have n9 := rw3.ne e; replace s3 := s3.new hn; replace rw3 := rw3.new hn; clear hn e) | fail)
          have hE9 : Ext K3 (K3.add gn (.cells #[.slice a9 l9 c9] 35 (0, 0))) := fun b o hb => by rw [Fz.add_other _ _ (by rintro rfl; rw [o9.none_] at hb; cases hb)]; exact hb
          generalize hv : Value.slice (some ⟨gn, 0, none⟩) 1 1 = v10
          refine step_end ⟨v10, _, hE9, ⟨s3.freeze o9, rw3.freeze n9⟩, rfl, ?_⟩
          exact ⟨gn, .slice a9 l9 c9, hv.symm, Fz.add_self _ _ _, rfl, ⟨_, rfl, hS9.keep hE9, hF9⟩⟩
        · intro v; rfl
        intro v10
        intro K3 W3 hE3 hI3 hF3
        obtain ⟨_, g2, sv2, rfl, hk2, hone, hR2⟩ := hF3
        obtain ⟨s3, rw3⟩ := hI3
        have hnew := s3.inn.get hk2
        change wpList _ _ _ (List.cons _ _) _ _
        go_wp2_with (first | ((with_reducible refine gate_append ?_); refine wpList_appendRow rfl rfl Tryd.underlying26 info_rtree rfl (by decide) rfl s3 rw3 rfl (news := [sv2]) rfl (by rintro ⟨⟩) (cells_here hnew) (by simpa using hone) (by omega) (by decide) ?_; intro v2 W6 r2 gr; replace s3 := s3.grown rw3 gr; obtain ⟨a2, c2, rfl⟩ := r2.form1 (by omega); clear gr rw3) | fail)
        go_roundw
        case rel =>
          refine ⟨i + 1, K3, svs ++ [sv2], _, _, by omega, by go_num, by go_num, s3, r2, ?_⟩
          rw [rplay_succ Ho.out, rstep, (rplay_spec _).1]
          have e : fromIx ⟨fm, cl, blk, ch⟩ ((os.take i).length + 1) = 0 := by rw [List.length_take, Nat.min_eq_left hi]; exact Hr.out
          rw [e]
          exact (hall.ext hE3).snoc hR2
        case measure => simp [intOf]; omega
      · obtain ⟨r, hr⟩ := Int.eq_ofNat_of_zero_le (Int.not_lt.1 hneg)
        have hrl : r < i + 1 := by have := Int.tmod_lt_of_pos fm (show (0 : Int) < (i : Int) + 1 by omega); omega
        have Hr : Hid (fromIx ⟨fm, cl, blk, ch⟩ (i + 1) = r) := Lib.hid (by unfold fromIx; simp only [Int.natCast_add, Int.natCast_one]; rw [hr]; rfl)
        go_wp2
        obtain ⟨sv0, hsv⟩ : ∃ x, svs[r]? = some x := ⟨_, List.getElem?_eq_getElem (by rw [hall.1, (rplay_spec _).1]; simp <;> omega)⟩
        have hR := hall.2 r sv0 hsv
        have hLl := Lib.hid (hlens r)
        have Hsv := Lib.hid hsv
        clear hsv
        obtain ⟨a0, l0, c00, hsl⟩ : ∃ a l c, sv0 = .slice a l c := by obtain ⟨_, e, ⟨_, _, e2, _⟩, _⟩ := hR; cases e; exact ⟨_, _, _, e2⟩
        subst hsl
        refine wp_region_run (m := 11) (n := 37) (I := fun K2 W => St K w K2 W ∧ Row w K2 W 35 1 (.slice (some ⟨g, 0, none⟩) (i + 1) c) (i + 1) svs) (K0 := K1)
          (ws := [.is (.slice (some ⟨g, 0, none⟩) (i + 1) c), .is (.slice (some ⟨g, 0, none⟩) (i + 1) c), .is (.int .i64 (r : Nat)), .is (.pointer (some ⟨g, r, none⟩)), .is (.agg #[.slice a0 l0 c00]), .is (.slice (some ⟨b, off, none⟩) os.length cap), .is (.int .i64 (i : Nat)), .is (.pointer (some ⟨b, off + i * 4, none⟩)), .is (.agg #[.int .i64 fm, .bool cl, .int .i64 blk, .int .i64 ch]),
            .sat (fun K v => RT K v (rdo ((rplay (os.take i)).getD r []) ⟨fm, cl, blk, ch⟩)),
            .sat (LitAt (rdo ((rplay (os.take i)).getD r []) ⟨fm, cl, blk, ch⟩))])
          mixed_ok (by kernel_rfl) rfl rfl ?monor ⟨s.drew, rw.drew⟩ ?_
        case monor =>
          simp only [List.forall_mem_cons]
          exact ⟨trivial, trivial, trivial, trivial, trivial, trivial, trivial, trivial, trivial, fun K K' v hE h => h.ext hE, fun K K' v hE h => LitAt.ext hE h, fun _ h => by cases h⟩
        apply RunAll.is_
        · intro K3 W3 hE3 hI3 hF3
          go_wp2
          exact step_end ⟨⟨K3, Ext.refl _, hI3⟩, rfl⟩
        · rfl
        apply RunAll.is_
        · intro K3 W3 hE3 hI3 hF3
          go_wp2
          exact step_end ⟨⟨K3, Ext.refl _, hI3⟩, rfl⟩
        · rfl
        apply RunAll.is_
        · intro K3 W3 hE3 hI3 hF3
          go_wp2
          exact step_end ⟨⟨K3, Ext.refl _, hI3⟩, rfl⟩
        · rfl
        apply RunAll.is_
        · intro K3 W3 hE3 hI3 hF3
          have hlr : r < i + 1 := by omega
          go_wp2
          exact step_end ⟨⟨K3, Ext.refl _, hI3⟩, rfl⟩
        · rfl
        apply RunAll.is_
        · intro K3 W3 hE3 hI3 hF3
          have cc := (hI3.2.cell r (by omega)).trans Hsv.out
          go_wp2
          exact step_end ⟨⟨K3, Ext.refl _, hI3⟩, rfl⟩
        · rfl
        apply RunAll.is_
        · intro K3 W3 hE3 hI3 hF3
          go_wp2
          exact step_end ⟨⟨K3, Ext.refl _, hI3⟩, rfl⟩
        · rfl
        apply RunAll.is_
        · intro K3 W3 hE3 hI3 hF3
          go_wp2
          exact step_end ⟨⟨K3, Ext.refl _, hI3⟩, rfl⟩
        · rfl
        apply RunAll.is_
        · intro K3 W3 hE3 hI3 hF3
          go_wp2
          exact step_end ⟨⟨K3, Ext.refl _, hI3⟩, rfl⟩
        · rfl
        apply RunAll.is_
        · intro K3 W3 hE3 hI3 hF3
          go_wp2_with (first | ((with_reducible refine gate_load (T := 38) ?_); refine wpList_loadAgg (vs := encO ⟨fm, cl, blk, ch⟩) (off := off + i * 4) rfl rfl rfl Tryd.underlying38 rfl (hI3.1.inn.get (hE3 _ _ hkb1)) (by kernel_rfl) (fun j u hu => Hj.out j u hu) ?_) | fail)
          exact step_end ⟨⟨K3, Ext.refl _, hI3⟩, rfl⟩
        · rfl
        apply RunAll.sat_
        · intro K3 W3 hE3 hI3 hF3
          go_wp2_with (first | (go_at_call 16; refine (rDo_ok K3 _ _ ⟨fm, cl, blk, ch⟩ W3 hI3.1.inn (hR.ext hE3) hLl.out).mono ?_; rintro e W4 ⟨v4, K4, rfl, hi4, hl4, hb4, hR4, hE4⟩) | fail)
          exact step_end ⟨_, K4, hE4, ⟨hI3.1.call hi4 hl4 hb4, hI3.2.call hl4 hb4⟩, rfl, hR4⟩
        · intro v; rfl
        intro v9
        apply RunAll.sat_
        · intro K3 W3 hE3 hI3 hF3
          obtain ⟨sv9, hv9, hS9, hF9⟩ := hF3.2 rfl
          obtain ⟨s3, rw3⟩ := hI3
          obtain ⟨a9, l9, c9, rfl⟩ : ∃ a l c, sv9 = .slice a l c := by obtain ⟨_, _, e, _⟩ := hS9; exact ⟨_, _, _, e⟩
          have Hv9 := Lib.hid hv9
          clear hv9 hF3
          go_wp2_with (first | ((with_reducible refine gate_buildSlice (T := 26) ?_); refine wpList_buildSlice1 rfl rfl Hv9.out (cs := #[.slice a9 l9 c9]) Tryd.underlying26 info_rtree (by decide) (by decide) (by kernel_rfl) ?_; intro gn W5 e hn; have o9 := Own.made s3 e hn; have n9 := rw3.ne e; replace s3 := s3.new hn; replace rw3 := rw3.new hn; clear hn e) | fail)
          have hE9 : Ext K3 (K3.add gn (.cells #[.slice a9 l9 c9] 35 (0, 0))) := fun b o hb => by rw [Fz.add_other _ _ (by rintro rfl; rw [o9.none_] at hb; cases hb)]; exact hb
          generalize hv : Value.slice (some ⟨gn, 0, none⟩) 1 1 = v10
          refine step_end ⟨v10, _, hE9, ⟨s3.freeze o9, rw3.freeze n9⟩, rfl, ?_⟩
          exact ⟨gn, .slice a9 l9 c9, hv.symm, Fz.add_self _ _ _, rfl, ⟨_, rfl, hS9.keep hE9, hF9⟩⟩
        · intro v; rfl
        intro v10
        intro K3 W3 hE3 hI3 hF3
        obtain ⟨_, g2, sv2, rfl, hk2, hone, hR2⟩ := hF3
        obtain ⟨s3, rw3⟩ := hI3
        have hnew := s3.inn.get hk2
        change wpList _ _ _ (List.cons _ _) _ _
        go_wp2_with (first | ((with_reducible refine gate_append ?_); refine wpList_appendRow rfl rfl Tryd.underlying26 info_rtree rfl (by decide) rfl s3 rw3 rfl (news := [sv2]) rfl (by rintro ⟨⟩) (cells_here hnew) (by simpa using hone) (by omega) (by decide) ?_; intro v2 W6 r2 gr; replace s3 := s3.grown rw3 gr; obtain ⟨a2, c2, rfl⟩ := r2.form1 (by omega); clear gr rw3) | fail)
        go_roundw
        case rel =>
          refine ⟨i + 1, K3, svs ++ [sv2], _, _, by omega, by go_num, by go_num, s3, r2, ?_⟩
          rw [rplay_succ Ho.out, rstep, (rplay_spec _).1]
          have e : fromIx ⟨fm, cl, blk, ch⟩ ((os.take i).length + 1) = r := by rw [List.length_take, Nat.min_eq_left hi]; exact Hr.out
          rw [e]
          exact (hall.ext hE3).snoc hR2
        case measure => simp [intOf]; omega
    · obtain rfl : i = os.length := by omega
      rw [List.take_length] at hall
      go_wp2
      go_ret
      obtain ⟨K3, s3, hE3, hS3, _⟩ := rw.fix s (enc := fun x : Value => [x]) (zs := svs) (fun _ => rfl) (by rw [hall.1, (rplay_spec _).1]) (by simp)
      exact s3.ret ⟨svs, hS3, hall.ext hE3, (Ext.of_st hK s).trans hE3⟩
end Go.Proofs.YtpfdlpniijgakaaDoor
