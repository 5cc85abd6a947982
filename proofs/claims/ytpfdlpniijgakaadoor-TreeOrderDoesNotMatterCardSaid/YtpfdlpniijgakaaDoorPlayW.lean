/- What the law's play does. -/
import Derived.Test.YtpfdlpniijgakaaDoorRefI
import Derived.Test.YtpfdlpniijgakaaDoorTreeE
import Derived.Test.YtpfdlpniijgakaaDoorTreeN
namespace Go.Proofs.YtpfdlpniijgakaaDoor
open Go Go.RowKit
set_option maxHeartbeats 400000

/-- All nodes lie below block m. -/
def PT.Under (m : Nat) : PT → Prop
  | .nil => True
  | .node b _ k _ => b < m ∧ ∀ i, (k i).Under m
theorem Tr.under {T : Nat} {K : Fz} {W : World} (hi : K.In W) : ∀ {t : PT}, Tr T K t → t.Under W.heap.size := by
  intro t
  induction t with
  | nil => exact fun _ => trivial
  | node b h k c ih => exact fun ⟨h1, _, h3⟩ => ⟨hi.lt h1, fun i => ih i (h3 i)⟩

/-- (t', n') is what a change makes of (t, n). -/
def StepT (m : Nat) (o : Chg) (x y : PT × Int) : Prop := if o.clear then ClrT m x.1 x.2 o.block y.1 y.2 else SetT m x.1 x.2 o.block o.chunk y.1 y.2
theorem StepT.near {m : Nat} {o : Chg} {x y : PT × Int} (h : StepT m o x y) : x.2 - 1 ≤ y.2 ∧ y.2 ≤ x.2 + 1 := by
  unfold StepT ClrT SetT at h
  split at h
  · split at h
    · obtain ⟨_, h⟩ := h; omega
    · obtain ⟨_, h⟩ := h; omega
  · split at h
    · obtain ⟨_, h⟩ := h; omega
    · obtain ⟨_, _, h⟩ := h
      split at h <;> omega
/-- What is said of the value that a change returns. -/
def StepV (ts : List (PT × Int)) (o : Chg) (x : PT × Int) (K : Fz) (v : Value) : Prop :=
  ∃ y m, v = treeV y.1 y.2 ∧ Tr 76 K y.1 ∧ (∀ z ∈ ts, z.1.Under m) ∧ StepT m o x y
theorem StepV.ext {ts : List (PT × Int)} {o : Chg} {x : PT × Int} {K K' : Fz} {v : Value} (hE : Ext K K') (h : StepV ts o x K v) : StepV ts o x K' v := by
  obtain ⟨y, m, e, ht, hu, hs⟩ := h
  refine ⟨y, m, e, ?_, hu, hs⟩
  clear hs e hu
  generalize y.1 = t at ht
  induction t with
  | nil => trivial
  | node b h' k c ih => exact ⟨hE _ _ ht.1, ht.2.1, fun i => ih i (ht.2.2 i)⟩

/-- The versions ts are those of the script. -/
def Vers (os : List Chg) (ts : List (PT × Int)) : Prop := ts.length = os.length + 1 ∧ ts[0]? = some (.nil, 0) ∧
  ∀ (i : Nat) o, os[i]? = some o → ∃ m x y, ts[fromIx o (i + 1)]? = some x ∧ ts[i + 1]? = some y ∧ (∀ z ∈ ts.take (i + 1), z.1.Under m) ∧ StepT m o x y
theorem Vers.snoc {os : List Chg} {ts : List (PT × Int)} {o : Chg} {m : Nat} {x y : PT × Int} (h : Vers os ts) (hx : ts[fromIx o (os.length + 1)]? = some x) (hu : ∀ z ∈ ts, z.1.Under m) (hs : StepT m o x y) : Vers (os ++ [o]) (ts ++ [y]) := by
  obtain ⟨h1, h2, h3⟩ := h
  refine ⟨by simp [h1], by rw [List.getElem?_append_left (by omega)]; exact h2, fun i o' ho => ?_⟩
  by_cases hi : i < os.length
  · rw [List.getElem?_append_left hi] at ho
    obtain ⟨m', x', y', e1, e2, e3, e4⟩ := h3 i o' ho
    have l1 := (List.getElem?_eq_some_iff.1 e1).1
    have l2 := (List.getElem?_eq_some_iff.1 e2).1
    refine ⟨m', x', y', by rw [List.getElem?_append_left l1]; exact e1, by rw [List.getElem?_append_left l2]; exact e2, ?_, e4⟩
    rw [List.take_append_of_le_length (by omega)]
    exact e3
  · have hl := (List.getElem?_eq_some_iff.1 ho).1
    simp at hl
    obtain rfl : i = os.length := by omega
    simp at ho
    subst ho
    have l1 := (List.getElem?_eq_some_iff.1 hx).1
    refine ⟨m, x, y, by rw [List.getElem?_append_left l1]; exact hx, by rw [← h1, List.getElem?_append_right (Nat.le_refl _)]; simp, ?_, hs⟩
    rw [← h1, List.take_append_of_le_length (Nat.le_refl _), List.take_length]
    exact hu

theorem info_tree : (Tryd.prog.info? 31).map (fun i => (i.zero, i.size, i.bytes)) = some (some (.agg #[.pointer none, .int .i64 0]), 2, 16) := by kernel_rfl
theorem build_Tree (w : World) : (Instr.build 31 #[]).run Tryd.prog w = .ok (.agg #[.pointer none, .int .i64 0]) w := by kernel_rfl
theorem flatT (ts : List (PT × Int)) : (ts.flatMap encT).length = ts.length * 2 := by
  induction ts with
  | nil => rfl
  | cons y ys ih => rw [List.flatMap_cons, List.length_append, ih, List.length_cons]; simp [encT]; omega
theorem flatT_get {ts : List (PT × Int)} : ∀ {i : Nat} {x : PT × Int}, ts[i]? = some x → (ts.flatMap encT)[i * 2]? = some (.pointer x.1.ptr) ∧ (ts.flatMap encT)[i * 2 + 1]? = some (.int .i64 x.2) := by
  induction ts with
  | nil => intro i x h; simp at h
  | cons y ys ih =>
    intro i x h
    cases i with
    | zero => obtain rfl : y = x := by simpa using h
              exact ⟨rfl, rfl⟩
    | succ i =>
      have := ih (i := i) (x := x) (by simpa using h)
      rw [List.flatMap_cons]
      have hl : (encT y).length = 2 := rfl
      rw [List.getElem?_append_right (by rw [hl]; omega), List.getElem?_append_right (by rw [hl]; omega), hl]
      rw [show (i + 1) * 2 - 2 = i * 2 by omega, show (i + 1) * 2 + 1 - 2 = i * 2 + 1 by omega]
      exact this

set_option maxRecDepth 100000 in
set_option maxHeartbeats 4000000 in
theorem play_ok (K : Fz) (sv : Value) (os : List Chg) (w : World) (hK : K.In w) (hS : SlK K 4 encO sv os) (hlen : os.length ≤ 1000) :
    Calls Tryd.prog 10 #[sv] w (Ret K w fun K' v => ∃ ts, SlK K' 2 encT v ts ∧ (∀ t ∈ ts, Tr 76 K' t.1) ∧ Vers os ts ∧ Ext K K') := by
  obtain ⟨a, cap, rfl, hcap, hx⟩ := hS
  have s := St.start hK
  have Hx := Lib.hid hx
  clear hx
  go_enter Tryd.func10, Tryd.ntmps10
  go_wp2_with (first
    | ((with_reducible refine gate_build (T := 31) (x := #[]) ?_); refine wpList_build0 rfl rfl build_Tree ?_)
    | ((with_reducible refine gate_buildSlice (T := 24) ?_); refine wpList_buildSlice1 rfl rfl rfl (cs := #[.pointer none, .int .i64 0]) Tryd.underlying24 info_tree (by decide) (by decide) (by kernel_rfl) ?_; intro gn W5 e hn; have rw : Row w K W5 31 2 (.slice (some ⟨gn, 0, none⟩) 1 1) 1 [.pointer none, .int .i64 0] := (Row.lit s e hn rfl (by decide)); replace s := s.new hn; clear hn e)
    | fail)
  go_loopw [3, 4] (fun v vi wr => ∃ (i : Nat) (K1 : Fz) (ts : List (PT × Int)) (g c : Nat), i ≤ os.length ∧ vi = .int .i64 i ∧ v = .slice (some ⟨g, 0, none⟩) (i + 1) c ∧ St K w K1 wr ∧ Row w K1 wr 31 2 v (i + 1) (ts.flatMap encT) ∧
      (∀ t ∈ ts, Tr 76 K1 t.1) ∧ Hid (Vers (os.take i) ts) ∧ (∀ t ∈ ts, -(i : Int) ≤ t.2 ∧ t.2 ≤ i))
    (fun _ i _ => os.length - (intOf i).toNat)
  case atStart =>
    refine ⟨0, K, [(.nil, 0)], _, _, by omega, rfl, rfl, s, rw, ?_, Lib.hid ⟨rfl, rfl, fun i o h => by simp at h⟩, ?_⟩
    · intro t ht; obtain rfl := List.mem_singleton.1 ht; trivial
    · intro t ht; obtain rfl := List.mem_singleton.1 ht; simp
  case round =>
    clear s rw
    obtain ⟨i, K1, ts, g, c, hi, rfl, rfl, s, rw, hT, hV, hB⟩ := hrel
    by_cases hlt : i < os.length
    · obtain ⟨o, ho⟩ : ∃ o, os[i]? = some o := ⟨_, List.getElem?_eq_getElem hlt⟩
      obtain ⟨b, off, cs, ty, fr, rfl, hkb, hj⟩ := Hx.out i o ho
      have hE1 := Ext.of_st hK s
      have hkb1 := hE1 _ _ hkb
      have c0 := (s.inn.cell hkb1 (off + i * 4)).trans (hj 0 _ rfl)
      have Ho := Lib.hid ho
      have Hj := Lib.hid hj
      have hlt2 : ts.length = i + 1 := by rw [hV.out.1, List.length_take, Nat.min_eq_left hi]
      obtain ⟨fm, cl, blk, ch⟩ := o
      clear ho hj
      by_cases hneg : fm.tmod ((i : Int) + 1) < 0
      · have Hr : Hid (fromIx ⟨fm, cl, blk, ch⟩ (i + 1) = 0) := Lib.hid (by unfold fromIx; simp only [Int.natCast_add, Int.natCast_one]; omega)
        obtain ⟨x, hxr⟩ : ∃ x, ts[0]? = some x := ⟨_, List.getElem?_eq_getElem (by omega)⟩
        obtain ⟨e1, e2⟩ := flatT_get hxr
        have cc0 := (rw.cell 0 (by omega)).trans e1
        have cc1 := (rw.cell 1 (by omega)).trans e2
        have hTx := hT x (List.mem_of_getElem? hxr)
        have hBx := hB x (List.mem_of_getElem? hxr)
        have Hxr := Lib.hid hxr
        clear e1 e2 hxr
        cases cl with
        | false =>
          go_wp2_with (first
            | ((with_reducible refine gate_alloc (T := 31) ?_); refine wpList_allocG rfl rfl zero_Tree (cs := #[.pointer none, .int .i64 0]) rfl ?_; intro g6 W6 e hn; have o6 := Own.made s e hn; have n6 := rw.ne e; replace s := s.new hn; replace rw := rw.new hn; clear e hn cc0 cc1)
            | ((with_reducible refine gate_store (T := 31) ?_); refine wpList_storeAll rfl rfl rfl rfl (cs := #[.pointer x.1.ptr, .int .i64 x.2]) rfl o6.at_ rfl (by rw [size_Tree]; rfl) (by simp [Value.oneCell']) ?_; intro W hu; replace s := s.upd o6 hu; replace rw := rw.upd hu n6; replace o6 := o6.upd hu; clear hu)
            | ((with_reducible refine gate_load (T := 4) ?_); refine wpList_loadCell rfl rfl rfl Tryd.underlying4 rfl (s.inn.get hkb1) (Hj.out 1 _ rfl) ?_)
            | fail)
          refine wp_region_run (m := 12) (n := 58) (I := fun K2 W => St K w K2 W ∧ Own w K2 W g6 (.cells #[.pointer x.1.ptr, .int .i64 x.2] 31 (0, 0)) ∧ Row w K2 W 31 2 (.slice (some ⟨g, 0, none⟩) (i + 1) c) (i + 1) (ts.flatMap encT)) (K0 := K1)
            (ws := [.is (.agg #[.pointer x.1.ptr, .int .i64 x.2]), .is (.slice (some ⟨b, off, none⟩) os.length cap), .is (.int .i64 (i : Nat)), .is (.pointer (some ⟨b, off + i * 4, none⟩)), .is (.pointer (some ⟨b, off + i * 4 + 2, none⟩)), .is (.int .i64 blk), .is (.slice (some ⟨b, off, none⟩) os.length cap), .is (.int .i64 (i : Nat)), .is (.pointer (some ⟨b, off + i * 4, none⟩)), .is (.pointer (some ⟨b, off + i * 4 + 3, none⟩)), .is (.int .i64 ch), .sat (StepV ts ⟨fm, false, blk, ch⟩ x)]) mixed_ok (by kernel_rfl) rfl rfl ?mono0s ⟨s.drew, o6.drew, rw.drew⟩ ?_
          case mono0s =>
            simp only [List.forall_mem_cons]
            exact ⟨trivial, trivial, trivial, trivial, trivial, trivial, trivial, trivial, trivial, trivial, trivial, fun K K' v hE h => StepV.ext hE h, fun _ h => by cases h⟩
          apply RunAll.is_
          · intro K3 W3 hE3 hI3 hF3
            go_wp2_with (first | ((with_reducible refine gate_load (T := 31) ?_); refine wpList_load_row rfl 31 _ rfl _ rfl 31 _ _ _ hI3.2.1.at_ Tryd.underlying31 rfl (by rw [size_Tree]; rfl) ?_) | fail)
            exact step_end ⟨⟨K3, Ext.refl _, hI3⟩, rfl⟩
          · rfl
          apply RunAll.is_
          · intro K3 W3 hE3 hI3 hF3
            go_wp2
            exact step_end ⟨⟨K3, Ext.refl _, hI3⟩, rfl⟩
          · rfl
          apply RunAll.is_
          · intro K3 W3 hE3 hI3 hF3
            go_wp2
            exact step_end ⟨⟨K3, Ext.refl _, hI3⟩, rfl⟩
          · rfl
          apply RunAll.is_
          · intro K3 W3 hE3 hI3 hF3
            go_wp2
            exact step_end ⟨⟨K3, Ext.refl _, hI3⟩, rfl⟩
          · rfl
          apply RunAll.is_
          · intro K3 W3 hE3 hI3 hF3
            go_wp2
            exact step_end ⟨⟨K3, Ext.refl _, hI3⟩, rfl⟩
          · rfl
          apply RunAll.is_
          · intro K3 W3 hE3 hI3 hF3
            go_wp2_with (first | ((with_reducible refine gate_load (T := 3) ?_); refine wpList_loadCell rfl rfl rfl Tryd.underlying3 rfl (hI3.1.inn.get (hE3 _ _ hkb1)) (Hj.out 2 _ rfl) ?_) | fail)
            exact step_end ⟨⟨K3, Ext.refl _, hI3⟩, rfl⟩
          · rfl
          apply RunAll.is_
          · intro K3 W3 hE3 hI3 hF3
            go_wp2
            exact step_end ⟨⟨K3, Ext.refl _, hI3⟩, rfl⟩
          · rfl
          apply RunAll.is_
          · intro K3 W3 hE3 hI3 hF3
            go_wp2
            exact step_end ⟨⟨K3, Ext.refl _, hI3⟩, rfl⟩
          · rfl
          apply RunAll.is_
          · intro K3 W3 hE3 hI3 hF3
            go_wp2
            exact step_end ⟨⟨K3, Ext.refl _, hI3⟩, rfl⟩
          · rfl
          apply RunAll.is_
          · intro K3 W3 hE3 hI3 hF3
            go_wp2
            exact step_end ⟨⟨K3, Ext.refl _, hI3⟩, rfl⟩
          · rfl
          apply RunAll.is_
          · intro K3 W3 hE3 hI3 hF3
            go_wp2_with (first | ((with_reducible refine gate_load (T := 3) ?_); refine wpList_loadCell rfl rfl rfl Tryd.underlying3 rfl (hI3.1.inn.get (hE3 _ _ hkb1)) (Hj.out 3 _ rfl) ?_) | fail)
            exact step_end ⟨⟨K3, Ext.refl _, hI3⟩, rfl⟩
          · rfl
          apply RunAll.sat_
          · intro K3 W3 hE3 hI3 hF3
            go_wp2_with (first | (go_at_call 14; refine (Set_ok K3 x.1 x.2 blk ch W3 hI3.1.inn (hTx.ext hE3) (by omega) (by omega)).mono ?_; rintro e W4 ⟨v4, K4, rfl, hi4, hl4, hb4, hx4⟩) | fail)
            obtain ⟨y1, y2, hv4, hty, hst⟩ := hx4
            exact step_end ⟨v4, K4, Ext.of_le hI3.1.inn hl4, ⟨hI3.1.call hi4 hl4 hb4, hI3.2.1.call hl4 hb4, hI3.2.2.call hl4 hb4⟩, rfl, (y1, y2), W3.heap.size, hv4, hty, fun z hz => ((hT z hz).ext hE3).under hI3.1.inn, hst⟩
          · intro v; rfl
          intro v9
          intro K3 W3 hE3 hI3 hF3
          obtain ⟨_, ⟨y1, y2⟩, m, rfl, hty, hun, hst⟩ := hF3
          obtain ⟨s3, o3, rw3⟩ := hI3
          have hy := hst.near
          have Hst := Lib.hid hst
          clear hst
          change wpList _ _ _ (List.cons _ _) _ _
          go_wp2_with (first
            | ((with_reducible refine gate_store (T := 31) (x := .tmp 6) ?_); refine wpList_storeAll rfl rfl rfl rfl (cs := #[.pointer y1.ptr, .int .i64 y2]) rfl o3.at_ rfl (by rw [size_Tree]; rfl) (by simp [Value.oneCell']) ?_; intro W hu; replace s3 := s3.upd o3 hu; replace rw3 := rw3.upd hu n6; replace o3 := o3.upd hu; clear hu)
            | ((with_reducible refine gate_load (T := 31) (x := .tmp 6) ?_); refine wpList_load_row rfl 31 _ rfl _ rfl 31 _ _ _ o3.at_ Tryd.underlying31 rfl (by rw [size_Tree]; rfl) ?_)
            | ((with_reducible refine gate_buildSlice (T := 24) ?_); refine wpList_buildSlice1 rfl rfl rfl (cs := (encT (y1, y2)).toArray) Tryd.underlying24 info_tree (by decide) (by decide) (by kernel_rfl) ?_; intro gn W5 e hn; have hnew := hn.here; rw [← e] at hnew; replace s3 := s3.new hn; replace rw3 := rw3.new hn; clear hn e o3)
            | ((with_reducible refine gate_append ?_); refine wpList_appendRow rfl rfl Tryd.underlying24 info_tree rfl (by decide) rfl s3 rw3 rfl (news := encT (y1, y2)) rfl (by rintro ⟨⟩) (cells_here hnew) (by simp [encT, Value.oneCell']) (by omega) (by decide) ?_; intro v2 W6 r2 gr; replace s3 := s3.grown rw3 gr; obtain ⟨a2, c2, rfl⟩ := r2.form1 (by omega); clear gr rw3)
            | fail)
          go_roundw
          case rel =>
            refine ⟨i + 1, K3, ts ++ [(y1, y2)], _, _, by omega, by go_num, by go_num, s3, by simpa [List.flatMap_append] using r2, ?_, Lib.hid ?_, ?_⟩
            · intro t ht
              rcases List.mem_append.1 ht with ht | ht
              · exact (hT t ht).ext hE3
              · obtain rfl := List.mem_singleton.1 ht; exact hty
            · rw [List.take_add_one, Ho.out]
              refine Vers.snoc (m := m) (x := x) hV.out ?_ hun Hst.out
              have e : (os.take i).length + 1 = i + 1 := by rw [List.length_take, Nat.min_eq_left hi]
              rw [e, Hr.out]; exact Hxr.out
            · intro t ht
              rcases List.mem_append.1 ht with ht | ht
              · have := hB t ht; omega
              · obtain rfl := List.mem_singleton.1 ht; simp only at hy ⊢; omega
          case measure => simp [intOf]; omega
        | true =>
          go_wp2_with (first
            | ((with_reducible refine gate_alloc (T := 31) ?_); refine wpList_allocG rfl rfl zero_Tree (cs := #[.pointer none, .int .i64 0]) rfl ?_; intro g6 W6 e hn; have o6 := Own.made s e hn; have n6 := rw.ne e; replace s := s.new hn; replace rw := rw.new hn; clear e hn cc0 cc1)
            | ((with_reducible refine gate_store (T := 31) ?_); refine wpList_storeAll rfl rfl rfl rfl (cs := #[.pointer x.1.ptr, .int .i64 x.2]) rfl o6.at_ rfl (by rw [size_Tree]; rfl) (by simp [Value.oneCell']) ?_; intro W hu; replace s := s.upd o6 hu; replace rw := rw.upd hu n6; replace o6 := o6.upd hu; clear hu)
            | ((with_reducible refine gate_load (T := 4) ?_); refine wpList_loadCell rfl rfl rfl Tryd.underlying4 rfl (s.inn.get hkb1) (Hj.out 1 _ rfl) ?_)
            | fail)
          refine wp_region_run (m := 7) (n := 58) (I := fun K2 W => St K w K2 W ∧ Own w K2 W g6 (.cells #[.pointer x.1.ptr, .int .i64 x.2] 31 (0, 0)) ∧ Row w K2 W 31 2 (.slice (some ⟨g, 0, none⟩) (i + 1) c) (i + 1) (ts.flatMap encT)) (K0 := K1)
            (ws := [.is (.agg #[.pointer x.1.ptr, .int .i64 x.2]), .is (.slice (some ⟨b, off, none⟩) os.length cap), .is (.int .i64 (i : Nat)), .is (.pointer (some ⟨b, off + i * 4, none⟩)), .is (.pointer (some ⟨b, off + i * 4 + 2, none⟩)), .is (.int .i64 blk), .sat (StepV ts ⟨fm, true, blk, ch⟩ x)]) mixed_ok (by kernel_rfl) rfl rfl ?mono0c ⟨s.drew, o6.drew, rw.drew⟩ ?_
          case mono0c =>
            simp only [List.forall_mem_cons]
            exact ⟨trivial, trivial, trivial, trivial, trivial, trivial, fun K K' v hE h => StepV.ext hE h, fun _ h => by cases h⟩
          apply RunAll.is_
          · intro K3 W3 hE3 hI3 hF3
            go_wp2_with (first | ((with_reducible refine gate_load (T := 31) ?_); refine wpList_load_row rfl 31 _ rfl _ rfl 31 _ _ _ hI3.2.1.at_ Tryd.underlying31 rfl (by rw [size_Tree]; rfl) ?_) | fail)
            exact step_end ⟨⟨K3, Ext.refl _, hI3⟩, rfl⟩
          · rfl
          apply RunAll.is_
          · intro K3 W3 hE3 hI3 hF3
            go_wp2
            exact step_end ⟨⟨K3, Ext.refl _, hI3⟩, rfl⟩
          · rfl
          apply RunAll.is_
          · intro K3 W3 hE3 hI3 hF3
            go_wp2
            exact step_end ⟨⟨K3, Ext.refl _, hI3⟩, rfl⟩
          · rfl
          apply RunAll.is_
          · intro K3 W3 hE3 hI3 hF3
            go_wp2
            exact step_end ⟨⟨K3, Ext.refl _, hI3⟩, rfl⟩
          · rfl
          apply RunAll.is_
          · intro K3 W3 hE3 hI3 hF3
            go_wp2
            exact step_end ⟨⟨K3, Ext.refl _, hI3⟩, rfl⟩
          · rfl
          apply RunAll.is_
          · intro K3 W3 hE3 hI3 hF3
            go_wp2_with (first | ((with_reducible refine gate_load (T := 3) ?_); refine wpList_loadCell rfl rfl rfl Tryd.underlying3 rfl (hI3.1.inn.get (hE3 _ _ hkb1)) (Hj.out 2 _ rfl) ?_) | fail)
            exact step_end ⟨⟨K3, Ext.refl _, hI3⟩, rfl⟩
          · rfl
          apply RunAll.sat_
          · intro K3 W3 hE3 hI3 hF3
            go_wp2_with (first | (go_at_call 15; refine (Clear_ok K3 x.1 x.2 blk W3 hI3.1.inn (hTx.ext hE3) (by omega) (by omega)).mono ?_; rintro e W4 ⟨v4, K4, rfl, hi4, hl4, hb4, hx4⟩) | fail)
            obtain ⟨y1, y2, hv4, hty, hst⟩ := hx4
            exact step_end ⟨v4, K4, Ext.of_le hI3.1.inn hl4, ⟨hI3.1.call hi4 hl4 hb4, hI3.2.1.call hl4 hb4, hI3.2.2.call hl4 hb4⟩, rfl, (y1, y2), W3.heap.size, hv4, hty, fun z hz => ((hT z hz).ext hE3).under hI3.1.inn, hst⟩
          · intro v; rfl
          intro v9
          intro K3 W3 hE3 hI3 hF3
          obtain ⟨_, ⟨y1, y2⟩, m, rfl, hty, hun, hst⟩ := hF3
          obtain ⟨s3, o3, rw3⟩ := hI3
          have hy := hst.near
          have Hst := Lib.hid hst
          clear hst
          change wpList _ _ _ (List.cons _ _) _ _
          go_wp2_with (first
            | ((with_reducible refine gate_store (T := 31) (x := .tmp 6) ?_); refine wpList_storeAll rfl rfl rfl rfl (cs := #[.pointer y1.ptr, .int .i64 y2]) rfl o3.at_ rfl (by rw [size_Tree]; rfl) (by simp [Value.oneCell']) ?_; intro W hu; replace s3 := s3.upd o3 hu; replace rw3 := rw3.upd hu n6; replace o3 := o3.upd hu; clear hu)
            | ((with_reducible refine gate_load (T := 31) (x := .tmp 6) ?_); refine wpList_load_row rfl 31 _ rfl _ rfl 31 _ _ _ o3.at_ Tryd.underlying31 rfl (by rw [size_Tree]; rfl) ?_)
            | ((with_reducible refine gate_buildSlice (T := 24) ?_); refine wpList_buildSlice1 rfl rfl rfl (cs := (encT (y1, y2)).toArray) Tryd.underlying24 info_tree (by decide) (by decide) (by kernel_rfl) ?_; intro gn W5 e hn; have hnew := hn.here; rw [← e] at hnew; replace s3 := s3.new hn; replace rw3 := rw3.new hn; clear hn e o3)
            | ((with_reducible refine gate_append ?_); refine wpList_appendRow rfl rfl Tryd.underlying24 info_tree rfl (by decide) rfl s3 rw3 rfl (news := encT (y1, y2)) rfl (by rintro ⟨⟩) (cells_here hnew) (by simp [encT, Value.oneCell']) (by omega) (by decide) ?_; intro v2 W6 r2 gr; replace s3 := s3.grown rw3 gr; obtain ⟨a2, c2, rfl⟩ := r2.form1 (by omega); clear gr rw3)
            | fail)
          go_roundw
          case rel =>
            refine ⟨i + 1, K3, ts ++ [(y1, y2)], _, _, by omega, by go_num, by go_num, s3, by simpa [List.flatMap_append] using r2, ?_, Lib.hid ?_, ?_⟩
            · intro t ht
              rcases List.mem_append.1 ht with ht | ht
              · exact (hT t ht).ext hE3
              · obtain rfl := List.mem_singleton.1 ht; exact hty
            · rw [List.take_add_one, Ho.out]
              refine Vers.snoc (m := m) (x := x) hV.out ?_ hun Hst.out
              have e : (os.take i).length + 1 = i + 1 := by rw [List.length_take, Nat.min_eq_left hi]
              rw [e, Hr.out]; exact Hxr.out
            · intro t ht
              rcases List.mem_append.1 ht with ht | ht
              · have := hB t ht; omega
              · obtain rfl := List.mem_singleton.1 ht; simp only at hy ⊢; omega
          case measure => simp [intOf]; omega
      · obtain ⟨r, hr⟩ := Int.eq_ofNat_of_zero_le (Int.not_lt.1 hneg)
        have hrl : r < i + 1 := by have := Int.tmod_lt_of_pos fm (show (0 : Int) < (i : Int) + 1 by omega); omega
        have Hr : Hid (fromIx ⟨fm, cl, blk, ch⟩ (i + 1) = r) := Lib.hid (by unfold fromIx; simp only [Int.natCast_add, Int.natCast_one]; rw [hr]; rfl)
        obtain ⟨x, hxr⟩ : ∃ x, ts[r]? = some x := ⟨_, List.getElem?_eq_getElem (by omega)⟩
        obtain ⟨e1, e2⟩ := flatT_get hxr
        have cc0 := (rw.cell (r * 2) (by omega)).trans e1
        have cc1 := (rw.cell (r * 2 + 1) (by omega)).trans e2
        have hTx := hT x (List.mem_of_getElem? hxr)
        have hBx := hB x (List.mem_of_getElem? hxr)
        have Hxr := Lib.hid hxr
        clear e1 e2 hxr
        cases cl with
        | false =>
          go_wp2_with (first
            | ((with_reducible refine gate_alloc (T := 31) ?_); refine wpList_allocG rfl rfl zero_Tree (cs := #[.pointer none, .int .i64 0]) rfl ?_; intro g6 W6 e hn; have o6 := Own.made s e hn; have n6 := rw.ne e; replace s := s.new hn; replace rw := rw.new hn; clear e hn cc0 cc1)
            | ((with_reducible refine gate_store (T := 31) ?_); refine wpList_storeAll rfl rfl rfl rfl (cs := #[.pointer x.1.ptr, .int .i64 x.2]) rfl o6.at_ rfl (by rw [size_Tree]; rfl) (by simp [Value.oneCell']) ?_; intro W hu; replace s := s.upd o6 hu; replace rw := rw.upd hu n6; replace o6 := o6.upd hu; clear hu)
            | ((with_reducible refine gate_load (T := 4) ?_); refine wpList_loadCell rfl rfl rfl Tryd.underlying4 rfl (s.inn.get hkb1) (Hj.out 1 _ rfl) ?_)
            | fail)
          refine wp_region_run (m := 12) (n := 58) (I := fun K2 W => St K w K2 W ∧ Own w K2 W g6 (.cells #[.pointer x.1.ptr, .int .i64 x.2] 31 (0, 0)) ∧ Row w K2 W 31 2 (.slice (some ⟨g, 0, none⟩) (i + 1) c) (i + 1) (ts.flatMap encT)) (K0 := K1)
            (ws := [.is (.agg #[.pointer x.1.ptr, .int .i64 x.2]), .is (.slice (some ⟨b, off, none⟩) os.length cap), .is (.int .i64 (i : Nat)), .is (.pointer (some ⟨b, off + i * 4, none⟩)), .is (.pointer (some ⟨b, off + i * 4 + 2, none⟩)), .is (.int .i64 blk), .is (.slice (some ⟨b, off, none⟩) os.length cap), .is (.int .i64 (i : Nat)), .is (.pointer (some ⟨b, off + i * 4, none⟩)), .is (.pointer (some ⟨b, off + i * 4 + 3, none⟩)), .is (.int .i64 ch), .sat (StepV ts ⟨fm, false, blk, ch⟩ x)]) mixed_ok (by kernel_rfl) rfl rfl ?monors ⟨s.drew, o6.drew, rw.drew⟩ ?_
          case monors =>
            simp only [List.forall_mem_cons]
            exact ⟨trivial, trivial, trivial, trivial, trivial, trivial, trivial, trivial, trivial, trivial, trivial, fun K K' v hE h => StepV.ext hE h, fun _ h => by cases h⟩
          apply RunAll.is_
          · intro K3 W3 hE3 hI3 hF3
            go_wp2_with (first | ((with_reducible refine gate_load (T := 31) ?_); refine wpList_load_row rfl 31 _ rfl _ rfl 31 _ _ _ hI3.2.1.at_ Tryd.underlying31 rfl (by rw [size_Tree]; rfl) ?_) | fail)
            exact step_end ⟨⟨K3, Ext.refl _, hI3⟩, rfl⟩
          · rfl
          apply RunAll.is_
          · intro K3 W3 hE3 hI3 hF3
            go_wp2
            exact step_end ⟨⟨K3, Ext.refl _, hI3⟩, rfl⟩
          · rfl
          apply RunAll.is_
          · intro K3 W3 hE3 hI3 hF3
            go_wp2
            exact step_end ⟨⟨K3, Ext.refl _, hI3⟩, rfl⟩
          · rfl
          apply RunAll.is_
          · intro K3 W3 hE3 hI3 hF3
            go_wp2
            exact step_end ⟨⟨K3, Ext.refl _, hI3⟩, rfl⟩
          · rfl
          apply RunAll.is_
          · intro K3 W3 hE3 hI3 hF3
            go_wp2
            exact step_end ⟨⟨K3, Ext.refl _, hI3⟩, rfl⟩
          · rfl
          apply RunAll.is_
          · intro K3 W3 hE3 hI3 hF3
            go_wp2_with (first | ((with_reducible refine gate_load (T := 3) ?_); refine wpList_loadCell rfl rfl rfl Tryd.underlying3 rfl (hI3.1.inn.get (hE3 _ _ hkb1)) (Hj.out 2 _ rfl) ?_) | fail)
            exact step_end ⟨⟨K3, Ext.refl _, hI3⟩, rfl⟩
          · rfl
          apply RunAll.is_
          · intro K3 W3 hE3 hI3 hF3
            go_wp2
            exact step_end ⟨⟨K3, Ext.refl _, hI3⟩, rfl⟩
          · rfl
          apply RunAll.is_
          · intro K3 W3 hE3 hI3 hF3
            go_wp2
            exact step_end ⟨⟨K3, Ext.refl _, hI3⟩, rfl⟩
          · rfl
          apply RunAll.is_
          · intro K3 W3 hE3 hI3 hF3
            go_wp2
            exact step_end ⟨⟨K3, Ext.refl _, hI3⟩, rfl⟩
          · rfl
          apply RunAll.is_
          · intro K3 W3 hE3 hI3 hF3
            go_wp2
            exact step_end ⟨⟨K3, Ext.refl _, hI3⟩, rfl⟩
          · rfl
          apply RunAll.is_
          · intro K3 W3 hE3 hI3 hF3
            go_wp2_with (first | ((with_reducible refine gate_load (T := 3) ?_); refine wpList_loadCell rfl rfl rfl Tryd.underlying3 rfl (hI3.1.inn.get (hE3 _ _ hkb1)) (Hj.out 3 _ rfl) ?_) | fail)
            exact step_end ⟨⟨K3, Ext.refl _, hI3⟩, rfl⟩
          · rfl
          apply RunAll.sat_
          · intro K3 W3 hE3 hI3 hF3
            go_wp2_with (first | (go_at_call 14; refine (Set_ok K3 x.1 x.2 blk ch W3 hI3.1.inn (hTx.ext hE3) (by omega) (by omega)).mono ?_; rintro e W4 ⟨v4, K4, rfl, hi4, hl4, hb4, hx4⟩) | fail)
            obtain ⟨y1, y2, hv4, hty, hst⟩ := hx4
            exact step_end ⟨v4, K4, Ext.of_le hI3.1.inn hl4, ⟨hI3.1.call hi4 hl4 hb4, hI3.2.1.call hl4 hb4, hI3.2.2.call hl4 hb4⟩, rfl, (y1, y2), W3.heap.size, hv4, hty, fun z hz => ((hT z hz).ext hE3).under hI3.1.inn, hst⟩
          · intro v; rfl
          intro v9
          intro K3 W3 hE3 hI3 hF3
          obtain ⟨_, ⟨y1, y2⟩, m, rfl, hty, hun, hst⟩ := hF3
          obtain ⟨s3, o3, rw3⟩ := hI3
          have hy := hst.near
          have Hst := Lib.hid hst
          clear hst
          change wpList _ _ _ (List.cons _ _) _ _
          go_wp2_with (first
            | ((with_reducible refine gate_store (T := 31) (x := .tmp 6) ?_); refine wpList_storeAll rfl rfl rfl rfl (cs := #[.pointer y1.ptr, .int .i64 y2]) rfl o3.at_ rfl (by rw [size_Tree]; rfl) (by simp [Value.oneCell']) ?_; intro W hu; replace s3 := s3.upd o3 hu; replace rw3 := rw3.upd hu n6; replace o3 := o3.upd hu; clear hu)
            | ((with_reducible refine gate_load (T := 31) (x := .tmp 6) ?_); refine wpList_load_row rfl 31 _ rfl _ rfl 31 _ _ _ o3.at_ Tryd.underlying31 rfl (by rw [size_Tree]; rfl) ?_)
            | ((with_reducible refine gate_buildSlice (T := 24) ?_); refine wpList_buildSlice1 rfl rfl rfl (cs := (encT (y1, y2)).toArray) Tryd.underlying24 info_tree (by decide) (by decide) (by kernel_rfl) ?_; intro gn W5 e hn; have hnew := hn.here; rw [← e] at hnew; replace s3 := s3.new hn; replace rw3 := rw3.new hn; clear hn e o3)
            | ((with_reducible refine gate_append ?_); refine wpList_appendRow rfl rfl Tryd.underlying24 info_tree rfl (by decide) rfl s3 rw3 rfl (news := encT (y1, y2)) rfl (by rintro ⟨⟩) (cells_here hnew) (by simp [encT, Value.oneCell']) (by omega) (by decide) ?_; intro v2 W6 r2 gr; replace s3 := s3.grown rw3 gr; obtain ⟨a2, c2, rfl⟩ := r2.form1 (by omega); clear gr rw3)
            | fail)
          go_roundw
          case rel =>
            refine ⟨i + 1, K3, ts ++ [(y1, y2)], _, _, by omega, by go_num, by go_num, s3, by simpa [List.flatMap_append] using r2, ?_, Lib.hid ?_, ?_⟩
            · intro t ht
              rcases List.mem_append.1 ht with ht | ht
              · exact (hT t ht).ext hE3
              · obtain rfl := List.mem_singleton.1 ht; exact hty
            · rw [List.take_add_one, Ho.out]
              refine Vers.snoc (m := m) (x := x) hV.out ?_ hun Hst.out
              have e : (os.take i).length + 1 = i + 1 := by rw [List.length_take, Nat.min_eq_left hi]
              rw [e, Hr.out]; exact Hxr.out
            · intro t ht
              rcases List.mem_append.1 ht with ht | ht
              · have := hB t ht; omega
              · obtain rfl := List.mem_singleton.1 ht; simp only at hy ⊢; omega
          case measure => simp [intOf]; omega
        | true =>
          go_wp2_with (first
            | ((with_reducible refine gate_alloc (T := 31) ?_); refine wpList_allocG rfl rfl zero_Tree (cs := #[.pointer none, .int .i64 0]) rfl ?_; intro g6 W6 e hn; have o6 := Own.made s e hn; have n6 := rw.ne e; replace s := s.new hn; replace rw := rw.new hn; clear e hn cc0 cc1)
            | ((with_reducible refine gate_store (T := 31) ?_); refine wpList_storeAll rfl rfl rfl rfl (cs := #[.pointer x.1.ptr, .int .i64 x.2]) rfl o6.at_ rfl (by rw [size_Tree]; rfl) (by simp [Value.oneCell']) ?_; intro W hu; replace s := s.upd o6 hu; replace rw := rw.upd hu n6; replace o6 := o6.upd hu; clear hu)
            | ((with_reducible refine gate_load (T := 4) ?_); refine wpList_loadCell rfl rfl rfl Tryd.underlying4 rfl (s.inn.get hkb1) (Hj.out 1 _ rfl) ?_)
            | fail)
          refine wp_region_run (m := 7) (n := 58) (I := fun K2 W => St K w K2 W ∧ Own w K2 W g6 (.cells #[.pointer x.1.ptr, .int .i64 x.2] 31 (0, 0)) ∧ Row w K2 W 31 2 (.slice (some ⟨g, 0, none⟩) (i + 1) c) (i + 1) (ts.flatMap encT)) (K0 := K1)
            (ws := [.is (.agg #[.pointer x.1.ptr, .int .i64 x.2]), .is (.slice (some ⟨b, off, none⟩) os.length cap), .is (.int .i64 (i : Nat)), .is (.pointer (some ⟨b, off + i * 4, none⟩)), .is (.pointer (some ⟨b, off + i * 4 + 2, none⟩)), .is (.int .i64 blk), .sat (StepV ts ⟨fm, true, blk, ch⟩ x)]) mixed_ok (by kernel_rfl) rfl rfl ?monorc ⟨s.drew, o6.drew, rw.drew⟩ ?_
          case monorc =>
            simp only [List.forall_mem_cons]
            exact ⟨trivial, trivial, trivial, trivial, trivial, trivial, fun K K' v hE h => StepV.ext hE h, fun _ h => by cases h⟩
          apply RunAll.is_
          · intro K3 W3 hE3 hI3 hF3
            go_wp2_with (first | ((with_reducible refine gate_load (T := 31) ?_); refine wpList_load_row rfl 31 _ rfl _ rfl 31 _ _ _ hI3.2.1.at_ Tryd.underlying31 rfl (by rw [size_Tree]; rfl) ?_) | fail)
            exact step_end ⟨⟨K3, Ext.refl _, hI3⟩, rfl⟩
          · rfl
          apply RunAll.is_
          · intro K3 W3 hE3 hI3 hF3
            go_wp2
            exact step_end ⟨⟨K3, Ext.refl _, hI3⟩, rfl⟩
          · rfl
          apply RunAll.is_
          · intro K3 W3 hE3 hI3 hF3
            go_wp2
            exact step_end ⟨⟨K3, Ext.refl _, hI3⟩, rfl⟩
          · rfl
          apply RunAll.is_
          · intro K3 W3 hE3 hI3 hF3
            go_wp2
            exact step_end ⟨⟨K3, Ext.refl _, hI3⟩, rfl⟩
          · rfl
          apply RunAll.is_
          · intro K3 W3 hE3 hI3 hF3
            go_wp2
            exact step_end ⟨⟨K3, Ext.refl _, hI3⟩, rfl⟩
          · rfl
          apply RunAll.is_
          · intro K3 W3 hE3 hI3 hF3
            go_wp2_with (first | ((with_reducible refine gate_load (T := 3) ?_); refine wpList_loadCell rfl rfl rfl Tryd.underlying3 rfl (hI3.1.inn.get (hE3 _ _ hkb1)) (Hj.out 2 _ rfl) ?_) | fail)
            exact step_end ⟨⟨K3, Ext.refl _, hI3⟩, rfl⟩
          · rfl
          apply RunAll.sat_
          · intro K3 W3 hE3 hI3 hF3
            go_wp2_with (first | (go_at_call 15; refine (Clear_ok K3 x.1 x.2 blk W3 hI3.1.inn (hTx.ext hE3) (by omega) (by omega)).mono ?_; rintro e W4 ⟨v4, K4, rfl, hi4, hl4, hb4, hx4⟩) | fail)
            obtain ⟨y1, y2, hv4, hty, hst⟩ := hx4
            exact step_end ⟨v4, K4, Ext.of_le hI3.1.inn hl4, ⟨hI3.1.call hi4 hl4 hb4, hI3.2.1.call hl4 hb4, hI3.2.2.call hl4 hb4⟩, rfl, (y1, y2), W3.heap.size, hv4, hty, fun z hz => ((hT z hz).ext hE3).under hI3.1.inn, hst⟩
          · intro v; rfl
          intro v9
          intro K3 W3 hE3 hI3 hF3
          obtain ⟨_, ⟨y1, y2⟩, m, rfl, hty, hun, hst⟩ := hF3
          obtain ⟨s3, o3, rw3⟩ := hI3
          have hy := hst.near
          have Hst := Lib.hid hst
          clear hst
          change wpList _ _ _ (List.cons _ _) _ _
          go_wp2_with (first
            | ((with_reducible refine gate_store (T := 31) (x := .tmp 6) ?_); refine wpList_storeAll rfl rfl rfl rfl (cs := #[.pointer y1.ptr, .int .i64 y2]) rfl o3.at_ rfl (by rw [size_Tree]; rfl) (by simp [Value.oneCell']) ?_; intro W hu; replace s3 := s3.upd o3 hu; replace rw3 := rw3.upd hu n6; replace o3 := o3.upd hu; clear hu)
            | ((with_reducible refine gate_load (T := 31) (x := .tmp 6) ?_); refine wpList_load_row rfl 31 _ rfl _ rfl 31 _ _ _ o3.at_ Tryd.underlying31 rfl (by rw [size_Tree]; rfl) ?_)
            | ((with_reducible refine gate_buildSlice (T := 24) ?_); refine wpList_buildSlice1 rfl rfl rfl (cs := (encT (y1, y2)).toArray) Tryd.underlying24 info_tree (by decide) (by decide) (by kernel_rfl) ?_; intro gn W5 e hn; have hnew := hn.here; rw [← e] at hnew; replace s3 := s3.new hn; replace rw3 := rw3.new hn; clear hn e o3)
            | ((with_reducible refine gate_append ?_); refine wpList_appendRow rfl rfl Tryd.underlying24 info_tree rfl (by decide) rfl s3 rw3 rfl (news := encT (y1, y2)) rfl (by rintro ⟨⟩) (cells_here hnew) (by simp [encT, Value.oneCell']) (by omega) (by decide) ?_; intro v2 W6 r2 gr; replace s3 := s3.grown rw3 gr; obtain ⟨a2, c2, rfl⟩ := r2.form1 (by omega); clear gr rw3)
            | fail)
          go_roundw
          case rel =>
            refine ⟨i + 1, K3, ts ++ [(y1, y2)], _, _, by omega, by go_num, by go_num, s3, by simpa [List.flatMap_append] using r2, ?_, Lib.hid ?_, ?_⟩
            · intro t ht
              rcases List.mem_append.1 ht with ht | ht
              · exact (hT t ht).ext hE3
              · obtain rfl := List.mem_singleton.1 ht; exact hty
            · rw [List.take_add_one, Ho.out]
              refine Vers.snoc (m := m) (x := x) hV.out ?_ hun Hst.out
              have e : (os.take i).length + 1 = i + 1 := by rw [List.length_take, Nat.min_eq_left hi]
              rw [e, Hr.out]; exact Hxr.out
            · intro t ht
              rcases List.mem_append.1 ht with ht | ht
              · have := hB t ht; omega
              · obtain rfl := List.mem_singleton.1 ht; simp only at hy ⊢; omega
          case measure => simp [intOf]; omega
    · obtain rfl : i = os.length := by omega
      have hv := hV.out
      rw [List.take_length] at hv
      go_wp2
      go_ret
      obtain ⟨K3, s3, hE3, hS3, _⟩ := rw.fix s (enc := encT) (zs := ts) (fun _ => rfl) (by rw [hv.1]) rfl
      exact s3.ret ⟨ts, hS3, fun t ht => (hT t ht).ext hE3, hv, (Ext.of_st hK s).trans hE3⟩
end Go.Proofs.YtpfdlpniijgakaaDoor
