/- The closures of Map, Unmap, Give and Restore. Written by gen_VolR.py. -/
import Derived.Test.YtdaagmhkhfcmdaaVolQ
namespace Go.Proofs.Ytdaagmhkhfcmdaa
open Go Go.RowKit
set_option maxHeartbeats 400000

/-- The value is a tree that maps L. -/
def TrV (L : Ents) (K : Fz) (v : Value) : Prop := ∃ t n, v = treeV t n ∧ Tr 153 K t ∧ Rep t n L
theorem TrV.ext {L : Ents} {K K' : Fz} {v : Value} (hE : Ext K K') (h : TrV L K v) : TrV L K' v := by
  obtain ⟨t, n, h1, h2, h3⟩ := h
  exact ⟨t, n, h1, h2.ext hE, h3⟩
theorem two_of4 {a b c d : Value} (j : Nat) (u : Value) (hu : [c, d][j]? = some u) : (#[a, b, c, d] : Array Value)[2 + j]? = some u := by
  match j, hu with
  | 0, hu => exact hu
  | 1, hu => exact hu
  | j + 2, hu => simp at hu
theorem size_int1 : (Try.prog.info? 3).map (·.size) = some 1 := by kernel_rfl
theorem splice_tree (a b c d c' d' : Value) : splice #[a, b, c, d] 2 [c', d'] = #[a, b, c', d'] := rfl
theorem splice_ten (a b c d b' : Value) : splice #[a, b, c, d] 1 [b'] = #[a, b', c, d] := rfl
/-- What a closure leaves: the volume in its box, changed. -/
def Turned (K0 : Fz) (w0 : World) (K : Fz) (g : Nat) (y : Vol) (f : AP → AP) (e : Ending) (W' : World) : Prop :=
  e = .returned (.tuple #[]) ∧ ∃ K' y', St K0 w0 K' W' ∧ Ext K K' ∧ Own w0 K' W' g (.cells (encV y').toArray 90 (0, 0)) ∧ Tr 153 K' y'.t ∧ Rep y'.t y'.n y'.L ∧ y'.abs = f y.abs

set_option maxRecDepth 100000 in
theorem Map1_ok {K0 K : Fz} {w0 W : World} {g : Nat} {y : Vol} (s : St K0 w0 K W) (o : Own w0 K W g (.cells (encV y).toArray 90 (0, 0))) (hT : Tr 153 K y.t) (hR : Rep y.t y.n y.L) {B C : Nat} {b c : Int} (hB : K B = some (.cells #[.int .i64 b] 3 (0, 0))) (hC : K C = some (.cells #[.int .i64 c] 3 (0, 0))) :
    Calls Try.prog 38 #[.pointer (some ⟨g, 0, none⟩), .pointer (some ⟨B, 0, none⟩), .pointer (some ⟨C, 0, none⟩)] W (Turned K0 w0 K g y (AP.map b c)) := by
  obtain ⟨id, ten, t, n, L⟩ := y
  have hn0 : -1000000 ≤ n := by have := hR.n_le; simp only at this; omega
  have hn1 : n ≤ 1000000 := by have := hR.n_le; simp only at this; omega
  replace o : Own w0 K W g (.cells #[.int .i64 id, .int .i64 ten, .pointer t.ptr, .int .i64 n] 90 (0, 0)) := o
  replace hT : Tr 153 K t := hT
  replace hR : Rep t n L := hR
  go_enter Try.func38, Try.ntmps38
  go_wp2
  refine wp_region_run (m := 12) (n := 16) (I := fun K2 W2 => St K0 w0 K2 W2 ∧ Own w0 K2 W2 g (.cells #[.int .i64 id, .int .i64 ten, .pointer t.ptr, .int .i64 n] 90 (0, 0))) (K0 := K)
    (ws := [.is (.pointer (some ⟨g, 0, none⟩)), .is (.pointer (some ⟨g, 0, none⟩)), .is (.pointer (some ⟨g, 0, none⟩)), .is (.pointer (some ⟨g, 0, none⟩)), .is (.pointer (some ⟨g, 2, none⟩)), .is (.agg #[.pointer t.ptr, .int .i64 n]), .is (.int .i64 b), .is (.int .i64 c), .sat (fun K v => TrV (rset L b c) K v), .is (.pointer (some ⟨g, 0, none⟩)), .is (.pointer (some ⟨g, 0, none⟩)), .is (.pointer (some ⟨g, 2, none⟩))])
    mixed_ok (by kernel_rfl) rfl rfl ?monoa ⟨s.drew, o.drew⟩ ?_
  case monoa =>
    simp only [List.forall_mem_cons]
    exact ⟨trivial, trivial, trivial, trivial, trivial, trivial, trivial, trivial, fun _ _ _ hE h => TrV.ext hE h, trivial, trivial, trivial, fun _ h => by cases h⟩
  apply RunAll.is_
  · intro K3 W3 hE3 hI3 hF3
    go_wp2
    exact step_end ⟨⟨K3, Ext.refl _, hI3⟩, rfl⟩
  · rfl
  apply RunAll.is_
  · intro K3 W3 hE3 hI3 hF3
    go_wp2
    exact step_end ⟨⟨K3, Ext.refl _, hI3⟩, rfl⟩
  · rfl
  apply RunAll.is_
  · intro K3 W3 hE3 hI3 hF3
    go_wp2
    exact step_end ⟨⟨K3, Ext.refl _, hI3⟩, rfl⟩
  · rfl
  apply RunAll.is_
  · intro K3 W3 hE3 hI3 hF3
    go_wp2
    exact step_end ⟨⟨K3, Ext.refl _, hI3⟩, rfl⟩
  · rfl
  apply RunAll.is_
  · intro K3 W3 hE3 hI3 hF3
    go_wp2
    exact step_end ⟨⟨K3, Ext.refl _, hI3⟩, rfl⟩
  · rfl
  apply RunAll.is_
  · intro K3 W3 hE3 hI3 hF3
    go_wp2_with (first | ((with_reducible refine gate_load (T := 86) ?_); refine wpList_loadAgg (vs := [.pointer t.ptr, .int .i64 n]) (off := 2) rfl rfl rfl Try.underlying86 rfl hI3.2.at_ (by rw [size_Tree]; rfl) (fun j u hu => two_of4 j u hu) ?_) | fail)
    exact step_end ⟨⟨K3, Ext.refl _, hI3⟩, rfl⟩
  · rfl
  apply RunAll.is_
  · intro K3 W3 hE3 hI3 hF3
    go_wp2_with (first | ((with_reducible refine gate_load (T := 3) ?_); refine wpList_loadCell rfl rfl rfl Try.underlying3 rfl (hI3.1.inn.get (hE3 _ _ hB)) rfl ?_) | fail)
    exact step_end ⟨⟨K3, Ext.refl _, hI3⟩, rfl⟩
  · rfl
  apply RunAll.is_
  · intro K3 W3 hE3 hI3 hF3
    go_wp2_with (first | ((with_reducible refine gate_load (T := 3) ?_); refine wpList_loadCell rfl rfl rfl Try.underlying3 rfl (hI3.1.inn.get (hE3 _ _ hC)) rfl ?_) | fail)
    exact step_end ⟨⟨K3, Ext.refl _, hI3⟩, rfl⟩
  · rfl
  apply RunAll.sat_
  · intro K3 W3 hE3 hI3 hF3
    go_wp2_with (first | (go_at_call 39; refine (Set_ok K3 t n b c _ hI3.1.inn (hT.ext hE3) hn0 hn1).mono ?_; rintro e W4 ⟨v, K4, rfl, hi, hl, hb, t1, n1, rfl, ht1, hs1⟩) | fail)
    have hr1 := hR.set ((hT.ext hE3).under hI3.1.inn) hs1
    generalize hgv : treeV t1 n1 = v10
    exact step_end ⟨v10, K4, Ext.of_le hI3.1.inn hl, ⟨hI3.1.call hi hl hb, hI3.2.call hl hb⟩, rfl, t1, n1, hgv.symm, ht1, hr1⟩
  · intro v; rfl
  intro v8
  apply RunAll.is_
  · intro K3 W3 hE3 hI3 hF3
    go_wp2
    exact step_end ⟨⟨K3, Ext.refl _, hI3⟩, rfl⟩
  · rfl
  apply RunAll.is_
  · intro K3 W3 hE3 hI3 hF3
    go_wp2
    exact step_end ⟨⟨K3, Ext.refl _, hI3⟩, rfl⟩
  · rfl
  apply RunAll.is_
  · intro K3 W3 hE3 hI3 hF3
    go_wp2
    exact step_end ⟨⟨K3, Ext.refl _, hI3⟩, rfl⟩
  · rfl
  intro K5 W5 hE5 hI5 hF5
  obtain ⟨t2, n2, rfl, ht2, hr2⟩ := hF5.2
  have o5 := hI5.2
  have s5 := hI5.1
  change wpList _ _ _ (List.cons _ _) _ _
  go_wp2_with (first | ((with_reducible refine gate_store (T := 86) ?_); refine wpList_storeAt (off := 2) (cs := #[.pointer t2.ptr, .int .i64 n2]) rfl rfl rfl rfl rfl o5.at_ (by simp) (by rw [size_Tree]; rfl) (by simp [Value.oneCell']) ?_; intro W6 hu; replace s5 := s5.upd o5 hu; replace o5 := o5.upd hu; clear hu) | fail)
  go_end0
  exact ⟨rfl, K5, ⟨id, ten, t2, n2, rset L b c⟩, s5, hE5, o5, ht2, hr2, rfl⟩

set_option maxRecDepth 100000 in
theorem Unmap1_ok {K0 K : Fz} {w0 W : World} {g : Nat} {y : Vol} (s : St K0 w0 K W) (o : Own w0 K W g (.cells (encV y).toArray 90 (0, 0))) (hT : Tr 153 K y.t) (hR : Rep y.t y.n y.L) {B : Nat} {b : Int} (hB : K B = some (.cells #[.int .i64 b] 3 (0, 0))) :
    Calls Try.prog 40 #[.pointer (some ⟨g, 0, none⟩), .pointer (some ⟨B, 0, none⟩)] W (Turned K0 w0 K g y (AP.unmap b)) := by
  obtain ⟨id, ten, t, n, L⟩ := y
  have hn0 : -1000000 ≤ n := by have := hR.n_le; simp only at this; omega
  have hn1 : n ≤ 1000000 := by have := hR.n_le; simp only at this; omega
  replace o : Own w0 K W g (.cells #[.int .i64 id, .int .i64 ten, .pointer t.ptr, .int .i64 n] 90 (0, 0)) := o
  replace hT : Tr 153 K t := hT
  replace hR : Rep t n L := hR
  go_enter Try.func40, Try.ntmps40
  go_wp2
  refine wp_region_run (m := 11) (n := 14) (I := fun K2 W2 => St K0 w0 K2 W2 ∧ Own w0 K2 W2 g (.cells #[.int .i64 id, .int .i64 ten, .pointer t.ptr, .int .i64 n] 90 (0, 0))) (K0 := K)
    (ws := [.is (.pointer (some ⟨g, 0, none⟩)), .is (.pointer (some ⟨g, 0, none⟩)), .is (.pointer (some ⟨g, 0, none⟩)), .is (.pointer (some ⟨g, 0, none⟩)), .is (.pointer (some ⟨g, 2, none⟩)), .is (.agg #[.pointer t.ptr, .int .i64 n]), .is (.int .i64 b), .sat (fun K v => TrV (rclr L b) K v), .is (.pointer (some ⟨g, 0, none⟩)), .is (.pointer (some ⟨g, 0, none⟩)), .is (.pointer (some ⟨g, 2, none⟩))])
    mixed_ok (by kernel_rfl) rfl rfl ?monoa ⟨s.drew, o.drew⟩ ?_
  case monoa =>
    simp only [List.forall_mem_cons]
    exact ⟨trivial, trivial, trivial, trivial, trivial, trivial, trivial, fun _ _ _ hE h => TrV.ext hE h, trivial, trivial, trivial, fun _ h => by cases h⟩
  apply RunAll.is_
  · intro K3 W3 hE3 hI3 hF3
    go_wp2
    exact step_end ⟨⟨K3, Ext.refl _, hI3⟩, rfl⟩
  · rfl
  apply RunAll.is_
  · intro K3 W3 hE3 hI3 hF3
    go_wp2
    exact step_end ⟨⟨K3, Ext.refl _, hI3⟩, rfl⟩
  · rfl
  apply RunAll.is_
  · intro K3 W3 hE3 hI3 hF3
    go_wp2
    exact step_end ⟨⟨K3, Ext.refl _, hI3⟩, rfl⟩
  · rfl
  apply RunAll.is_
  · intro K3 W3 hE3 hI3 hF3
    go_wp2
    exact step_end ⟨⟨K3, Ext.refl _, hI3⟩, rfl⟩
  · rfl
  apply RunAll.is_
  · intro K3 W3 hE3 hI3 hF3
    go_wp2
    exact step_end ⟨⟨K3, Ext.refl _, hI3⟩, rfl⟩
  · rfl
  apply RunAll.is_
  · intro K3 W3 hE3 hI3 hF3
    go_wp2_with (first | ((with_reducible refine gate_load (T := 86) ?_); refine wpList_loadAgg (vs := [.pointer t.ptr, .int .i64 n]) (off := 2) rfl rfl rfl Try.underlying86 rfl hI3.2.at_ (by rw [size_Tree]; rfl) (fun j u hu => two_of4 j u hu) ?_) | fail)
    exact step_end ⟨⟨K3, Ext.refl _, hI3⟩, rfl⟩
  · rfl
  apply RunAll.is_
  · intro K3 W3 hE3 hI3 hF3
    go_wp2_with (first | ((with_reducible refine gate_load (T := 3) ?_); refine wpList_loadCell rfl rfl rfl Try.underlying3 rfl (hI3.1.inn.get (hE3 _ _ hB)) rfl ?_) | fail)
    exact step_end ⟨⟨K3, Ext.refl _, hI3⟩, rfl⟩
  · rfl
  apply RunAll.sat_
  · intro K3 W3 hE3 hI3 hF3
    go_wp2_with (first | (go_at_call 41; refine (Clear_ok K3 t n b _ hI3.1.inn (hT.ext hE3) hn0 hn1).mono ?_; rintro e W4 ⟨v, K4, rfl, hi, hl, hb, t1, n1, rfl, ht1, hs1⟩) | fail)
    have hr1 := hR.clr ((hT.ext hE3).under hI3.1.inn) hs1
    generalize hgv : treeV t1 n1 = v10
    exact step_end ⟨v10, K4, Ext.of_le hI3.1.inn hl, ⟨hI3.1.call hi hl hb, hI3.2.call hl hb⟩, rfl, t1, n1, hgv.symm, ht1, hr1⟩
  · intro v; rfl
  intro v7
  apply RunAll.is_
  · intro K3 W3 hE3 hI3 hF3
    go_wp2
    exact step_end ⟨⟨K3, Ext.refl _, hI3⟩, rfl⟩
  · rfl
  apply RunAll.is_
  · intro K3 W3 hE3 hI3 hF3
    go_wp2
    exact step_end ⟨⟨K3, Ext.refl _, hI3⟩, rfl⟩
  · rfl
  apply RunAll.is_
  · intro K3 W3 hE3 hI3 hF3
    go_wp2
    exact step_end ⟨⟨K3, Ext.refl _, hI3⟩, rfl⟩
  · rfl
  intro K5 W5 hE5 hI5 hF5
  obtain ⟨t2, n2, rfl, ht2, hr2⟩ := hF5.2
  have o5 := hI5.2
  have s5 := hI5.1
  change wpList _ _ _ (List.cons _ _) _ _
  go_wp2_with (first | ((with_reducible refine gate_store (T := 86) ?_); refine wpList_storeAt (off := 2) (cs := #[.pointer t2.ptr, .int .i64 n2]) rfl rfl rfl rfl rfl o5.at_ (by simp) (by rw [size_Tree]; rfl) (by simp [Value.oneCell']) ?_; intro W6 hu; replace s5 := s5.upd o5 hu; replace o5 := o5.upd hu; clear hu) | fail)
  go_end0
  exact ⟨rfl, K5, ⟨id, ten, t2, n2, rclr L b⟩, s5, hE5, o5, ht2, hr2, rfl⟩

set_option maxRecDepth 100000 in
theorem Give1_ok {K0 K : Fz} {w0 W : World} {g : Nat} {y : Vol} (s : St K0 w0 K W) (o : Own w0 K W g (.cells (encV y).toArray 90 (0, 0))) (hT : Tr 153 K y.t) (hR : Rep y.t y.n y.L) {B : Nat} {b : Int} (hB : K B = some (.cells #[.int .i64 b] 3 (0, 0))) :
    Calls Try.prog 68 #[.pointer (some ⟨g, 0, none⟩), .pointer (some ⟨B, 0, none⟩)] W (Turned K0 w0 K g y (AP.give b)) := by
  obtain ⟨id, ten, t, n, L⟩ := y
  replace o : Own w0 K W g (.cells #[.int .i64 id, .int .i64 ten, .pointer t.ptr, .int .i64 n] 90 (0, 0)) := o
  go_enter Try.func68, Try.ntmps68
  go_wp2_with (first
    | ((with_reducible refine gate_load (T := 3) ?_); refine wpList_loadCell rfl rfl rfl Try.underlying3 rfl (s.inn.get hB) rfl ?_)
    | ((with_reducible refine gate_store (T := 3) ?_); refine wpList_storeAt (off := 1) (cs := #[.int .i64 b]) rfl rfl rfl rfl rfl o.at_ (by simp) (by rw [size_int1]; rfl) (by simp [Value.oneCell']) ?_; intro W6 hu; replace s := s.upd o hu; replace o := o.upd hu; clear hu)
    | fail)
  go_end0
  exact ⟨rfl, K, ⟨id, b, t, n, L⟩, s, Ext.refl _, o, hT, hR, rfl⟩

set_option maxRecDepth 100000 in
theorem Restore1_ok {K0 K : Fz} {w0 W : World} {g : Nat} {y : Vol} (s : St K0 w0 K W) (o : Own w0 K W g (.cells (encV y).toArray 90 (0, 0))) {S : Spc} {v : Value} (hS : SpK K v S) {i : Nat} {z : Snp} (hz : S.ss[i]? = some z) (hTz : Tr 153 K z.t) (hRz : Rep z.t z.n z.L) (hlen : S.ss.length ≤ 1000000)
    {B C : Nat} {TB : Nat} (hB : K B = some (.cells #[v] TB (0, 0))) (hC : K C = some (.cells #[.int .i64 (i : Nat)] 3 (0, 0))) :
    Calls Try.prog 74 #[.pointer (some ⟨g, 0, none⟩), .pointer (some ⟨B, 0, none⟩), .pointer (some ⟨C, 0, none⟩)] W (Turned K0 w0 K g y (AP.maps z.L)) := by
  obtain ⟨id, ten, t, n, L⟩ := y
  replace o : Own w0 K W g (.cells #[.int .i64 id, .int .i64 ten, .pointer t.ptr, .int .i64 n] 90 (0, 0)) := o
  obtain ⟨gs, T, sv, ss, rfl, hb, _, h2, _, _, _⟩ := hS
  obtain ⟨a, cap, rfl, hcap, hx⟩ := h2
  have hlt : i < S.ss.length := (List.getElem?_eq_some_iff.1 hz).1
  obtain ⟨b, off, cs, ty, fr, rfl, hkb, hj⟩ := hx i z hz
  have Hj : Hid (∀ (j : Nat) (u : Value), [Value.pointer z.t.ptr, .int .i64 z.n][j]? = some u → cs[off + i * 5 + 2 + j]? = some u) := Lib.hid (by
    intro j u hu
    have := hj (j + 2) u (by
      rcases j with _ | _ | j
      · exact hu
      · exact hu
      · simp at hu)
    rw [← this]
    congr 1
    omega)
  obtain ⟨zp, hzp⟩ : ∃ zp, z.t.ptr = zp := ⟨_, rfl⟩
  obtain ⟨zn, hzn⟩ : ∃ zn, z.n = zn := ⟨_, rfl⟩
  rw [hzp, hzn] at Hj
  have Hzp := Lib.hid hzp
  have Hzn := Lib.hid hzn
  clear hj hx hz hzp hzn
  go_enter Try.func74, Try.ntmps74
  go_wp2
  refine wp_region_run (m := 13) (n := 17) (I := fun K2 W2 => St K0 w0 K2 W2 ∧ Own w0 K2 W2 g (.cells #[.int .i64 id, .int .i64 ten, .pointer t.ptr, .int .i64 n] 90 (0, 0))) (K0 := K)
    (ws := [.is (.pointer (some ⟨g, 0, none⟩)), .is (.pointer (some ⟨gs, 0, none⟩)), .is (.pointer (some ⟨gs, 0, none⟩)), .is (.pointer (some ⟨gs, 1, none⟩)), .is (.slice (some ⟨b, off, none⟩) S.ss.length cap), .is (.int .i64 (i : Nat)), .is (.pointer (some ⟨b, off + i * 5, none⟩)), .is (.pointer (some ⟨b, off + i * 5, none⟩)), .is (.pointer (some ⟨b, off + i * 5 + 2, none⟩)), .is (.agg #[.pointer zp, .int .i64 zn]), .is (.pointer (some ⟨g, 0, none⟩)), .is (.pointer (some ⟨g, 0, none⟩)), .is (.pointer (some ⟨g, 2, none⟩))])
    mixed_ok (by kernel_rfl) rfl rfl ?monor ⟨s.drew, o.drew⟩ ?_
  case monor =>
    simp only [List.forall_mem_cons]
    exact ⟨trivial, trivial, trivial, trivial, trivial, trivial, trivial, trivial, trivial, trivial, trivial, trivial, trivial, fun _ h => by cases h⟩
  apply RunAll.is_
  · intro K3 W3 hE3 hI3 hF3
    go_wp2
    exact step_end ⟨⟨K3, Ext.refl _, hI3⟩, rfl⟩
  · rfl
  apply RunAll.is_
  · intro K3 W3 hE3 hI3 hF3
    go_wp2_with (first | ((with_reducible refine gate_load (T := 24) ?_); refine wpList_loadCell rfl rfl rfl Try.underlying24 rfl (hI3.1.inn.get (hE3 _ _ hB)) rfl ?_) | fail)
    exact step_end ⟨⟨K3, Ext.refl _, hI3⟩, rfl⟩
  · rfl
  apply RunAll.is_
  · intro K3 W3 hE3 hI3 hF3
    go_wp2
    exact step_end ⟨⟨K3, Ext.refl _, hI3⟩, rfl⟩
  · rfl
  apply RunAll.is_
  · intro K3 W3 hE3 hI3 hF3
    go_wp2
    exact step_end ⟨⟨K3, Ext.refl _, hI3⟩, rfl⟩
  · rfl
  apply RunAll.is_
  · intro K3 W3 hE3 hI3 hF3
    go_wp2_with (first | ((with_reducible refine gate_load (T := 75) ?_); refine wpList_loadCell rfl rfl rfl Try.underlying75 rfl (hI3.1.inn.get (hE3 _ _ hb)) rfl ?_) | fail)
    exact step_end ⟨⟨K3, Ext.refl _, hI3⟩, rfl⟩
  · rfl
  apply RunAll.is_
  · intro K3 W3 hE3 hI3 hF3
    go_wp2_with (first | ((with_reducible refine gate_load (T := 3) ?_); refine wpList_loadCell rfl rfl rfl Try.underlying3 rfl (hI3.1.inn.get (hE3 _ _ hC)) rfl ?_) | fail)
    exact step_end ⟨⟨K3, Ext.refl _, hI3⟩, rfl⟩
  · rfl
  apply RunAll.is_
  · intro K3 W3 hE3 hI3 hF3
    go_wp2
    exact step_end ⟨⟨K3, Ext.refl _, hI3⟩, rfl⟩
  · rfl
  apply RunAll.is_
  · intro K3 W3 hE3 hI3 hF3
    go_wp2
    exact step_end ⟨⟨K3, Ext.refl _, hI3⟩, rfl⟩
  · rfl
  apply RunAll.is_
  · intro K3 W3 hE3 hI3 hF3
    go_wp2
    exact step_end ⟨⟨K3, Ext.refl _, hI3⟩, rfl⟩
  · rfl
  apply RunAll.is_
  · intro K3 W3 hE3 hI3 hF3
    go_wp2_with (first | ((with_reducible refine gate_load (T := 86) ?_); refine wpList_loadAgg (vs := [.pointer zp, .int .i64 zn]) (off := off + i * 5 + 2) rfl rfl rfl Try.underlying86 rfl (hI3.1.inn.get (hE3 _ _ hkb)) (by rw [size_Tree]; rfl) (fun j u hu => Hj.out j u hu) ?_) | fail)
    exact step_end ⟨⟨K3, Ext.refl _, hI3⟩, rfl⟩
  · rfl
  apply RunAll.is_
  · intro K3 W3 hE3 hI3 hF3
    go_wp2
    exact step_end ⟨⟨K3, Ext.refl _, hI3⟩, rfl⟩
  · rfl
  apply RunAll.is_
  · intro K3 W3 hE3 hI3 hF3
    go_wp2
    exact step_end ⟨⟨K3, Ext.refl _, hI3⟩, rfl⟩
  · rfl
  apply RunAll.is_
  · intro K3 W3 hE3 hI3 hF3
    go_wp2
    exact step_end ⟨⟨K3, Ext.refl _, hI3⟩, rfl⟩
  · rfl
  intro K5 W5 hE5 hI5 hF5
  have o5 := hI5.2
  have s5 := hI5.1
  change wpList _ _ _ (List.cons _ _) _ _
  go_wp2_with (first | ((with_reducible refine gate_store (T := 86) ?_); refine wpList_storeAt (off := 2) (cs := #[.pointer zp, .int .i64 zn]) rfl rfl rfl rfl rfl o5.at_ (by simp) (by rw [size_Tree]; rfl) (by simp [Value.oneCell']) ?_; intro W6 hu; replace s5 := s5.upd o5 hu; replace o5 := o5.upd hu; clear hu) | fail)
  go_end0
  refine ⟨rfl, K5, ⟨id, ten, z.t, z.n, z.L⟩, s5, hE5, ?_, hTz.ext hE5, hRz, rfl⟩
  show Own _ _ _ _ (.cells #[.int .i64 id, .int .i64 ten, .pointer z.t.ptr, .int .i64 z.n] _ _)
  rw [Hzp.out, Hzn.out]
  exact o5

end Go.Proofs.Ytdaagmhkhfcmdaa
