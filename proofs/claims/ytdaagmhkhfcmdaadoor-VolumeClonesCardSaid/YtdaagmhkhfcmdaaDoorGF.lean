/- volumesAre, snapshotsAre: a new space. -/
import Derived.Test.YtdaagmhkhfcmdaaDoorGE
import Derived.Shelf.SlicesE.Clone
import Derived.Ground.SlgnProg
import Derived.Test.YtdaagmhkhfcmdaaDoorGC
import Derived.Laws.CopyRow
import Derived.Lib.AppendZerosOnto
import Derived.Lib.AppendZeros
import Derived.Lib.Overlaps
import Derived.Laws.Externs
import Derived.Laws.IdiomCopy
import Derived.Laws.NewBlocks
import Derived.Deep.RegionLaw
import Derived.Lib.SliceRun
namespace Go.Proofs.YtdaagmhkhfcmdaaDoor
open Go Go.RowKit
set_option maxHeartbeats 400000

theorem volumesAre_ok (K : Fz) (v : Value) (S : Spc) (lv : Value) (vs : List Vol) (w : World) (hK : K.In w) (hS : SpK K v S) (hL : SlK K 4 encV lv vs) (hT : ∀ x ∈ vs, Tr 122 K x.t) (hF : FlatS lv) :
    Calls Tryd.prog 34 #[v, lv] w (Ret K w fun K' u => SpK K' u ⟨vs, S.ss⟩) := by
  obtain ⟨g, T, sv, ss, rfl, hb, h1, h2, h3, h4, f1, f2⟩ := hS
  have s := St.start hK
  have H2 := Lib.hid h2
  have HL := Lib.hid hL
  have H4 := Lib.hid h4
  have HT := Lib.hid hT
  obtain ⟨a, cap, rfl, _, _⟩ := h2
  obtain ⟨a', cap', rfl, _, _⟩ := hL
  clear h1 h3 h4 hT
  go_enter Tryd.func34, Tryd.ntmps34
  go_wp2_with (first
    | ((with_reducible refine gate_load (T := 48) ?_); refine wpList_loadCell rfl rfl rfl Tryd.underlying48 rfl (s.inn.get hb) rfl ?_)
    | ((with_reducible refine gate_box (T := 50) ?_); refine wpList_boxG rfl rfl rfl (cs := #[.slice a' vs.length cap', .slice a S.ss.length cap]) rfl ?_; intro g1 W1 e hn; have o1 := Own.made s e hn; replace s := s.new hn; clear e hn)
    | fail)
  go_ret
  have hk : ∀ b o, K b = some o → (K.add g1 (.cells #[.slice a' vs.length cap', .slice a S.ss.length cap] 50 (0, 0))) b = some o := fun b o h => by
    rw [Fz.add_other _ _ (by rintro rfl; rw [o1.none_] at h; cases h)]; exact h
  have s1 := s.freeze o1
  exact s1.ret ⟨_, _, _, _, rfl, Fz.add_self _ _ _, HL.out.keep hk, H2.out.keep hk, fun x hx => (HT.out x hx).call hK s1.le, fun x hx => (H4.out x hx).call hK s1.le, hF, f2⟩

theorem snapshotsAre_ok (K : Fz) (v : Value) (S : Spc) (lv : Value) (ls : List Snp) (w : World) (hK : K.In w) (hS : SpK K v S) (hL : SlK K 5 encS lv ls) (hT : ∀ x ∈ ls, Tr 122 K x.t) (hF : FlatS lv) :
    Calls Tryd.prog 45 #[v, lv] w (Ret K w fun K' u => SpK K' u ⟨S.vs, ls⟩) := by
  obtain ⟨g, T, sv, ss, rfl, hb, h1, h2, h3, h4, f1, f2⟩ := hS
  have s := St.start hK
  have H1 := Lib.hid h1
  have HL := Lib.hid hL
  have H3 := Lib.hid h3
  have HT := Lib.hid hT
  obtain ⟨a, cap, rfl, _, _⟩ := h1
  obtain ⟨a', cap', rfl, _, _⟩ := hL
  clear h2 h3 h4 hT
  go_enter Tryd.func45, Tryd.ntmps45
  go_wp2_with (first
    | ((with_reducible refine gate_load (T := 47) ?_); refine wpList_loadCell rfl rfl rfl Tryd.underlying47 rfl (s.inn.get hb) rfl ?_)
    | ((with_reducible refine gate_box (T := 50) ?_); refine wpList_boxG rfl rfl rfl (cs := #[.slice a S.vs.length cap, .slice a' ls.length cap']) rfl ?_; intro g1 W1 e hn; have o1 := Own.made s e hn; replace s := s.new hn; clear e hn)
    | fail)
  go_ret
  have hk : ∀ b o, K b = some o → (K.add g1 (.cells #[.slice a S.vs.length cap, .slice a' ls.length cap'] 50 (0, 0))) b = some o := fun b o h => by
    rw [Fz.add_other _ _ (by rintro rfl; rw [o1.none_] at h; cases h)]; exact h
  have s1 := s.freeze o1
  exact s1.ret ⟨_, _, _, _, rfl, Fz.add_self _ _ _, H1.out.keep hk, HL.out.keep hk, fun x hx => (H3.out x hx).call hK s1.le, fun x hx => (HT.out x hx).call hK s1.le, f1, hF⟩

end Go.Proofs.YtdaagmhkhfcmdaaDoor
/- free: the first number that is not in use. -/
namespace Go.Proofs.YtdaagmhkhfcmdaaDoor
open Go Go.RowKit
set_option maxHeartbeats 400000

theorem zero_Snp (w : World) : (zeroValue 64).run Tryd.prog w = .ok (.agg #[.int .i64 0, .int .i64 0, .pointer none, .int .i64 0, .int .i64 0]) w := by kernel_rfl

set_option maxRecDepth 100000 in
theorem sFree_ok (K : Fz) (sv : Value) (L : List Snp) (w : World) (hK : K.In w) (hS : SlK K 5 encS sv L) (hlen : L.length ≤ 1000000) :
    Calls Tryd.prog 44 #[sv] w fun e w' => e = .returned (.int .i64 (frN Snp.num L 0 : Nat)) ∧ Below w.heap.size w w' := by
  obtain ⟨a, cap, rfl, hcap, hx⟩ := hS
  have s := St.start hK
  have Hx := Lib.hid hx
  clear hx
  go_enter Tryd.func44, Tryd.ntmps44
  go_wp2
  go_loopw [7] (fun i wr => ∃ n : Nat, n ≤ L.length ∧ i = .int .i64 n ∧ St K w K wr ∧ Hid (∀ (j : Nat) (z : Snp), j < n → L[j]? = some z → z.num = ((0 + j : Nat) : Int))) (fun i _ => L.length - (intOf i).toNat)
  case atStart => exact ⟨0, by omega, rfl, s, Lib.hid fun j z hj => by omega⟩
  case round =>
    obtain ⟨n, hn, rfl, s1, hbef⟩ := hrel
    clear s
    by_cases hlt : n < L.length
    · obtain ⟨y, hyn⟩ : ∃ y, L[n]? = some y := ⟨_, List.getElem?_eq_getElem hlt⟩
      obtain ⟨b, off, cs, ty, fr, rfl, hkb, hj⟩ := Hx.out n y hyn
      have Hyn := Lib.hid hyn
      have hj2 : ∀ (j : Nat) (u : Value), ([.int .i64 y.id, .int .i64 y.ten, .pointer y.t.ptr, .int .i64 y.n, .int .i64 y.from_] : List Value)[j]? = some u → cs[off + n * 5 + j]? = some u := hj
      obtain ⟨yi, hyi⟩ : ∃ q, y.id = q := ⟨_, rfl⟩
      generalize y.ten = yt at hj2
      generalize y.t.ptr = yp at hj2
      generalize y.n = yn at hj2
      generalize y.from_ = yf at hj2
      rw [hyi] at hj2
      have Hj := Lib.hid hj2
      have Hyi := Lib.hid hyi
      have hm := sMethod yi yt yn yf yp
      clear hj hj2 hyn hyi
      by_cases hge : yi = (n : Int)
      · subst hge
        go_wp2_with (first
          | ((with_reducible refine gate_load (T := 64) (x := .tmp 10) ?_); refine wpList_loadAgg (vs := [.int .i64 (n : Int), .int .i64 yt, .pointer yp, .int .i64 yn, .int .i64 yf]) (off := off + n * 5) rfl rfl rfl Tryd.underlying64 rfl (s1.inn.get hkb) (by rw [size_Snp]; rfl) (fun j u hu => Hj.out j u hu) ?_)
          | ((with_reducible refine gate_alloc (T := 64) ?_); refine wpList_allocG rfl rfl zero_Snp (cs := #[.int .i64 0, .int .i64 0, .pointer none, .int .i64 0, .int .i64 0]) rfl ?_; intro g1 W1 e hn; have o1 := Own.made s1 e hn; replace s1 := s1.new hn; clear e hn)
          | ((with_reducible refine gate_store (T := 64) ?_); refine wpList_storeAll rfl rfl rfl rfl (cs := #[.int .i64 (n : Int), .int .i64 yt, .pointer yp, .int .i64 yn, .int .i64 yf]) rfl o1.at_ rfl (by rw [size_Snp]; rfl) (by simp [Value.oneCell']) ?_; intro W3 hu; replace s1 := s1.upd o1 hu; replace o1 := o1.upd hu; clear hu)
          | ((with_reducible refine gate_load (T := 64) (x := .tmp 4) ?_); refine wpList_load_row rfl 64 _ rfl _ rfl 64 _ _ _ o1.at_ Tryd.underlying64 rfl (by kernel_rfl) ?_)
          | (go_at_call 98; refine (number_ok (n : Int) yt yn yp _).mono ?_; rintro e W4 ⟨rfl, hb⟩; replace s1 := s1.quiet hb; clear hb)
          | fail)
        go_roundw
        case rel =>
          refine ⟨n + 1, by omega, by go_num, s1, Lib.hid ?_⟩
          intro j z hj hz
          by_cases h : j < n
          · exact hbef.out j z h hz
          · obtain rfl : j = n := by omega
            rw [Hyn.out] at hz
            cases hz
            rw [Nat.zero_add]
            exact Hyi.out
        case measure => simp [intOf]; omega
      · go_wp2_with (first
          | ((with_reducible refine gate_load (T := 64) (x := .tmp 10) ?_); refine wpList_loadAgg (vs := [.int .i64 yi, .int .i64 yt, .pointer yp, .int .i64 yn, .int .i64 yf]) (off := off + n * 5) rfl rfl rfl Tryd.underlying64 rfl (s1.inn.get hkb) (by rw [size_Snp]; rfl) (fun j u hu => Hj.out j u hu) ?_)
          | ((with_reducible refine gate_alloc (T := 64) ?_); refine wpList_allocG rfl rfl zero_Snp (cs := #[.int .i64 0, .int .i64 0, .pointer none, .int .i64 0, .int .i64 0]) rfl ?_; intro g1 W1 e hn; have o1 := Own.made s1 e hn; replace s1 := s1.new hn; clear e hn)
          | ((with_reducible refine gate_store (T := 64) ?_); refine wpList_storeAll rfl rfl rfl rfl (cs := #[.int .i64 yi, .int .i64 yt, .pointer yp, .int .i64 yn, .int .i64 yf]) rfl o1.at_ rfl (by rw [size_Snp]; rfl) (by simp [Value.oneCell']) ?_; intro W3 hu; replace s1 := s1.upd o1 hu; replace o1 := o1.upd hu; clear hu)
          | ((with_reducible refine gate_load (T := 64) (x := .tmp 4) ?_); refine wpList_load_row rfl 64 _ rfl _ rfl 64 _ _ _ o1.at_ Tryd.underlying64 rfl (by kernel_rfl) ?_)
          | (go_at_call 98; refine (number_ok yi yt yn yp _).mono ?_; rintro e W4 ⟨rfl, hb⟩; replace s1 := s1.quiet hb; clear hb)
          | fail)
        go_ret
        have e := frN_stop Snp.num (k := 0) hbef.out Hyn.out (by rw [Nat.zero_add]; show y.id ≠ _; rw [Hyi.out]; exact hge)
        exact ⟨by rw [e]; rfl, s1.below⟩
    · go_wp2
      go_ret
      obtain rfl : n = L.length := by omega
      have e := frN_end Snp.num (k := 0) hbef.out
      exact ⟨by rw [e] <;> rfl, s1.below⟩

end Go.Proofs.YtdaagmhkhfcmdaaDoor
/- free: at volumes. Written by gen_VolH.py. -/
namespace Go.Proofs.YtdaagmhkhfcmdaaDoor
open Go Go.RowKit
set_option maxHeartbeats 400000

theorem zero_Vol (w : World) : (zeroValue 68).run Tryd.prog w = .ok (.agg #[.int .i64 0, .int .i64 0, .pointer none, .int .i64 0]) w := by kernel_rfl

set_option maxRecDepth 100000 in
theorem vFree_ok (K : Fz) (sv : Value) (L : List Vol) (w : World) (hK : K.In w) (hS : SlK K 4 encV sv L) (hlen : L.length ≤ 1000000) :
    Calls Tryd.prog 58 #[sv] w fun e w' => e = .returned (.int .i64 (frN Vol.id L 0 : Nat)) ∧ Below w.heap.size w w' := by
  obtain ⟨a, cap, rfl, hcap, hx⟩ := hS
  have s := St.start hK
  have Hx := Lib.hid hx
  clear hx
  go_enter Tryd.func58, Tryd.ntmps58
  go_wp2
  go_loopw [7] (fun i wr => ∃ n : Nat, n ≤ L.length ∧ i = .int .i64 n ∧ St K w K wr ∧ Hid (∀ (j : Nat) (z : Vol), j < n → L[j]? = some z → z.id = ((0 + j : Nat) : Int))) (fun i _ => L.length - (intOf i).toNat)
  case atStart => exact ⟨0, by omega, rfl, s, Lib.hid fun j z hj => by omega⟩
  case round =>
    obtain ⟨n, hn, rfl, s1, hbef⟩ := hrel
    clear s
    by_cases hlt : n < L.length
    · obtain ⟨y, hyn⟩ : ∃ y, L[n]? = some y := ⟨_, List.getElem?_eq_getElem hlt⟩
      obtain ⟨b, off, cs, ty, fr, rfl, hkb, hj⟩ := Hx.out n y hyn
      have Hyn := Lib.hid hyn
      have hj2 : ∀ (j : Nat) (u : Value), ([.int .i64 y.id, .int .i64 y.ten, .pointer y.t.ptr, .int .i64 y.n] : List Value)[j]? = some u → cs[off + n * 4 + j]? = some u := hj
      obtain ⟨yi, hyi⟩ : ∃ q, y.id = q := ⟨_, rfl⟩
      generalize y.ten = yt at hj2
      generalize y.t.ptr = yp at hj2
      generalize y.n = yn at hj2
      rw [hyi] at hj2
      have Hj := Lib.hid hj2
      have Hyi := Lib.hid hyi
      have hm := vMethod yi yt yn yp
      clear hj hj2 hyn hyi
      by_cases hge : yi = (n : Int)
      · subst hge
        go_wp2_with (first
          | ((with_reducible refine gate_load (T := 68) (x := .tmp 10) ?_); refine wpList_loadAgg (vs := [.int .i64 (n : Int), .int .i64 yt, .pointer yp, .int .i64 yn]) (off := off + n * 4) rfl rfl rfl Tryd.underlying68 rfl (s1.inn.get hkb) (by rw [size_Vol]; rfl) (fun j u hu => Hj.out j u hu) ?_)
          | ((with_reducible refine gate_alloc (T := 68) ?_); refine wpList_allocG rfl rfl zero_Vol (cs := #[.int .i64 0, .int .i64 0, .pointer none, .int .i64 0]) rfl ?_; intro g1 W1 e hn; have o1 := Own.made s1 e hn; replace s1 := s1.new hn; clear e hn)
          | ((with_reducible refine gate_store (T := 68) ?_); refine wpList_storeAll rfl rfl rfl rfl (cs := #[.int .i64 (n : Int), .int .i64 yt, .pointer yp, .int .i64 yn]) rfl o1.at_ rfl (by rw [size_Vol]; rfl) (by simp [Value.oneCell']) ?_; intro W3 hu; replace s1 := s1.upd o1 hu; replace o1 := o1.upd hu; clear hu)
          | ((with_reducible refine gate_load (T := 68) (x := .tmp 4) ?_); refine wpList_load_row rfl 68 _ rfl _ rfl 68 _ _ _ o1.at_ Tryd.underlying68 rfl (by kernel_rfl) ?_)
          | (go_at_call 98; refine (number_ok (n : Int) yt yn yp _).mono ?_; rintro e W4 ⟨rfl, hb⟩; replace s1 := s1.quiet hb; clear hb)
          | fail)
        go_roundw
        case rel =>
          refine ⟨n + 1, by omega, by go_num, s1, Lib.hid ?_⟩
          intro j z hj hz
          by_cases h : j < n
          · exact hbef.out j z h hz
          · obtain rfl : j = n := by omega
            rw [Hyn.out] at hz
            cases hz
            rw [Nat.zero_add]
            exact Hyi.out
        case measure => simp [intOf]; omega
      · go_wp2_with (first
          | ((with_reducible refine gate_load (T := 68) (x := .tmp 10) ?_); refine wpList_loadAgg (vs := [.int .i64 yi, .int .i64 yt, .pointer yp, .int .i64 yn]) (off := off + n * 4) rfl rfl rfl Tryd.underlying68 rfl (s1.inn.get hkb) (by rw [size_Vol]; rfl) (fun j u hu => Hj.out j u hu) ?_)
          | ((with_reducible refine gate_alloc (T := 68) ?_); refine wpList_allocG rfl rfl zero_Vol (cs := #[.int .i64 0, .int .i64 0, .pointer none, .int .i64 0]) rfl ?_; intro g1 W1 e hn; have o1 := Own.made s1 e hn; replace s1 := s1.new hn; clear e hn)
          | ((with_reducible refine gate_store (T := 68) ?_); refine wpList_storeAll rfl rfl rfl rfl (cs := #[.int .i64 yi, .int .i64 yt, .pointer yp, .int .i64 yn]) rfl o1.at_ rfl (by rw [size_Vol]; rfl) (by simp [Value.oneCell']) ?_; intro W3 hu; replace s1 := s1.upd o1 hu; replace o1 := o1.upd hu; clear hu)
          | ((with_reducible refine gate_load (T := 68) (x := .tmp 4) ?_); refine wpList_load_row rfl 68 _ rfl _ rfl 68 _ _ _ o1.at_ Tryd.underlying68 rfl (by kernel_rfl) ?_)
          | (go_at_call 98; refine (number_ok yi yt yn yp _).mono ?_; rintro e W4 ⟨rfl, hb⟩; replace s1 := s1.quiet hb; clear hb)
          | fail)
        go_ret
        have e := frN_stop Vol.id (k := 0) hbef.out Hyn.out (by rw [Nat.zero_add]; show y.id ≠ _; rw [Hyi.out]; exact hge)
        exact ⟨by rw [e]; rfl, s1.below⟩
    · go_wp2
      go_ret
      obtain rfl : n = L.length := by omega
      have e := frN_end Vol.id (k := 0) hbef.out
      exact ⟨by rw [e] <;> rfl, s1.below⟩

end Go.Proofs.YtdaagmhkhfcmdaaDoor
/- slices.Clone at volumes and at snapshots, from the shelf. -/
namespace Go.Proofs
open Go.Shelf Go.RowKit Go.Lib
shelf_lay_g SlLaysE0.n41 Slgn 41 at Tryd 60 as Tryd.cloneVol
shelf_lay_g SlLaysE0.n41 Slgn 41 at Tryd 47 as Tryd.cloneSnp
end Go.Proofs
/- copy and clear at elements of several cells, over a block known whole: no program in sight. -/
namespace Go.Proofs.YtdaagmhkhfcmdaaDoor
open Go Go.RowKit
set_option maxHeartbeats 400000

/-- The cells from o on, written over. -/
def splice (cur : Array Value) (o : Nat) (cs : List Value) : Array Value := (cur.toList.take o ++ cs ++ cur.toList.drop (o + cs.length)).toArray
theorem splice_size {cur : Array Value} {o : Nat} {cs : List Value} (h : o + cs.length ≤ cur.size) : (splice cur o cs).size = cur.size := by
  unfold splice
  simp only [List.size_toArray, List.length_append, List.length_take, List.length_drop, Array.length_toList]
  omega
theorem splice_list (cur : Array Value) (o : Nat) (cs : List Value) : (splice cur o cs).toList = cur.toList.take o ++ cs ++ cur.toList.drop (o + cs.length) := rfl

section
variable {P : Program}
theorem run_copyZ (w : World) (dT sT ty elem : TypeId) (g o dLen dCap : Nat) (a : Addr) (sLen sCap : Nat) (cs : List Value) (sz k : Nat) (cur : Array Value) (t : TypeId)
    (hu : P.underlying dT = some (.slice elem)) (hs : (P.info? elem).map (·.size) = some sz) (hk : Nat.min sLen dLen = k) (hn : cs.length = k * sz)
    (hsrc : ∀ j v, cs[j]? = some v → w.cell? (a.add j) = some v) (hg : w.heap[g]? = some (.cells cur t (0, 0))) (ho : o + cs.length ≤ cur.size) (h1 : ∀ v ∈ cs, v.oneCell' = true) :
    (Builtin.copy_ #[dT, sT] ty #[.slice (some ⟨g, o, none⟩) dLen dCap, .slice (some a) sLen sCap]).run P w = .ok (goInt k) (w.setRow g (splice cur o cs)) := by
  have hl := run_loadCells_list (P := P) w a cs hsrc
  have hst := run_storeCells_at (P := P) g o t cs 0 cur w hg (by simpa using ho) h1
  simp only [Nat.add_zero] at hst
  cases hq : P.info? elem with
  | none => simp [hq] at hs
  | some i =>
    have hi : i.size = sz := by simpa [hq] using hs
    simp [Builtin.copy_, run_underlying hu, Builtin.lenOf, Builtin.firstCells, sizeOf, typeInfo, hq, hi, hk, ← hn, hl, hst, splice]

theorem zeroCells_len (zc : Array Value) (n : Nat) : (Builtin.zeroCells zc n).toList.length = n * zc.size := by simp [Builtin.zeroCells]
theorem zeroCells_one {zc : Array Value} (h1 : ∀ u ∈ zc.toList, u.oneCell' = true) (n : Nat) : ∀ u ∈ (Builtin.zeroCells zc n).toList, u.oneCell' = true := by
  intro u hu
  simp only [Builtin.zeroCells, Array.toList_map, List.mem_map, Array.toList_range, List.mem_range] at hu
  obtain ⟨i, hi, rfl⟩ := hu
  have h0 : 0 < zc.size := by
    rcases Nat.eq_zero_or_pos zc.size with h | h
    · rw [h, Nat.mul_zero] at hi; omega
    · exact h
  have hm : i % zc.size < zc.size := Nat.mod_lt _ h0
  rw [getElem!_pos zc _ hm]
  exact h1 _ (Array.getElem_mem_toList hm)
theorem run_clearZ (w : World) (t e ty : TypeId) (z : Value) (ht : P.underlying t = some (.slice e)) (hv : ∀ w, (zeroValue e).run P w = .ok z w) (g o n c : Nat) (cur : Array Value) (T : TypeId) (hn : 0 < n)
    (hg : w.heap[g]? = some (.cells cur T (0, 0))) (ho : o + n * z.cells.size ≤ cur.size) (h1 : ∀ u ∈ z.cells.toList, u.oneCell' = true) :
    (Builtin.clear_ #[t] ty #[.slice (some ⟨g, o, none⟩) n c]).run P w = .ok (.tuple #[]) (w.setRow g (splice cur o (Builtin.zeroCells z.cells n).toList)) := by
  have hst := run_storeCells_at (P := P) g o T (Builtin.zeroCells z.cells n).toList 0 cur w hg (by rw [zeroCells_len]; omega) (zeroCells_one h1 n)
  simp only [Nat.add_zero] at hst
  obtain ⟨m, rfl⟩ : ∃ m, n = m + 1 := ⟨n - 1, by omega⟩
  simp [Builtin.clear_, run_underlying ht, hv, hst, splice]
end

/-- A block of the row's own, written over. -/
theorem Grown.setRow {w : World} {g : Nat} {cs : Array Value} {v v' : Value} (h : v.ownBlock = some g) (h' : v'.ownBlock = some g) : Grown w (w.setRow g cs) v v' :=
  ⟨⟨rfl, rfl, rfl, by simp, fun k _ hk => setRow_other w g k cs (by rintro rfl; exact hk h.symm)⟩, .inl (h'.trans h.symm)⟩
theorem Grown.trans {w w1 w2 : World} {v v1 v2 : Value} {g : Nat} (h : Grown w w1 v v1) (k : Grown w1 w2 v1 v2) (hg : v.ownBlock = some g) (h1 : v1.ownBlock = some g) (h2 : v2.ownBlock = some g) : Grown w w2 v v2 :=
  ⟨⟨k.by_.os.trans h.by_.os, k.by_.tape.trans h.by_.tape, k.by_.output.trans h.by_.output, Nat.le_trans h.by_.size k.by_.size, fun b hb hne => (k.by_.block b (Nat.lt_of_lt_of_le hb h.by_.size) (by rw [h1, ← hg]; exact hne)).trans (h.by_.block b hb hne)⟩, .inl (h2.trans hg.symm)⟩
theorem Grown.drew {w w' : World} {v v' : Value} (h : Grown w.drew w' v v') : Grown w w' v v' := ⟨⟨h.by_.os, h.by_.tape, h.by_.output, h.by_.size, h.by_.block⟩, h.at_⟩
end Go.Proofs.YtdaagmhkhfcmdaaDoor
/- slices.Clone and slices.Delete at volumes and at snapshots. Written by gen_VolJ.py. -/
namespace Go.Proofs.YtdaagmhkhfcmdaaDoor
open Go Go.RowKit
set_option maxHeartbeats 400000

theorem encV_len (x : Vol) : (encV x).length = 4 := rfl
theorem encS_len (x : Snp) : (encS x).length = 5 := rfl
theorem encV_one (x : Vol) : ∀ u ∈ encV x, u.oneCell' = true := by
  intro u hu
  simp only [encV, List.mem_cons, List.not_mem_nil, or_false] at hu
  rcases hu with rfl | rfl | rfl | rfl <;> rfl
theorem encS_one (x : Snp) : ∀ u ∈ encS x, u.oneCell' = true := by
  intro u hu
  simp only [encS, List.mem_cons, List.not_mem_nil, or_false] at hu
  rcases hu with rfl | rfl | rfl | rfl | rfl <;> rfl
theorem flat_len {α : Type} {enc : α → List Value} {sz : Nat} (hl : ∀ x, (enc x).length = sz) (xs : List α) : (xs.flatMap enc).length = xs.length * sz := by
  induction xs with
  | nil => simp
  | cons x xs ih => rw [List.flatMap_cons, List.length_append, ih, hl, List.length_cons, Nat.succ_mul]; omega
theorem flat_one {α : Type} {enc : α → List Value} (h : ∀ x, ∀ u ∈ enc x, u.oneCell' = true) (xs : List α) : ∀ u ∈ xs.flatMap enc, u.oneCell' = true := by
  intro u hu
  obtain ⟨x, _, hx⟩ := List.mem_flatMap.1 hu
  exact h x u hx
theorem flat_at {α : Type} {enc : α → List Value} {sz : Nat} (hl : ∀ x, (enc x).length = sz) : ∀ {xs : List α} {j : Nat} {u : Value}, (xs.flatMap enc)[j]? = some u → ∃ i x k, xs[i]? = some x ∧ j = i * sz + k ∧ (enc x)[k]? = some u
  | [], j, u, h => by simp at h
  | y :: ys, j, u, h => by
    rw [List.flatMap_cons] at h
    by_cases hj : j < (enc y).length
    · rw [List.getElem?_append_left hj] at h
      exact ⟨0, y, j, rfl, by simp, h⟩
    · rw [List.getElem?_append_right (by omega), hl] at h
      rw [hl] at hj
      obtain ⟨i, x, k, h1, h2, h3⟩ := flat_at hl h
      exact ⟨i + 1, x, k, by simpa using h1, by rw [Nat.succ_mul]; omega, h3⟩
theorem SlK.flat {α : Type} {K : Fz} {sz : Nat} {enc : α → List Value} {b off n c : Nat} {xs : List α} (h : SlK K sz enc (.slice (some ⟨b, off, none⟩) n c) xs) (hl : ∀ x, (enc x).length = sz) {w : World} (hK : K.In w)
    (j : Nat) (u : Value) (hu : (xs.flatMap enc)[j]? = some u) : w.cell? ⟨b, off + j, none⟩ = some u := by
  obtain ⟨a, cap, hv, hc, hx⟩ := h
  cases hv
  obtain ⟨i, x, k, h1, rfl, h3⟩ := flat_at hl hu
  obtain ⟨b', off', cs, t, fr, ha, hk, hj⟩ := hx i x h1
  cases ha
  rw [hK.cell hk, ← Nat.add_assoc]
  exact hj k u h3

/-- What 'ownsRow' says of a slice that has an element. -/
theorem ownsRow_some {W : World} {base e sz : Nat} {v : Value} {n : Nat} {xs : List Value} (h : W.ownsRow base e sz v n xs) (hn : 0 < n) :
    ∃ g cap cur, v = .slice (some ⟨g, 0, none⟩) n cap ∧ base ≤ g ∧ W.heap[g]? = some (.cells cur e (0, 0)) ∧ n ≤ cap ∧ cap ≤ maxLen ∧ cur.size = cap * sz ∧ cur.toList.take (n * sz) = xs := by
  rcases h.2 with ⟨_, h0⟩ | h
  · omega
  · exact h
theorem setCells_row (P : Program) {w : World} {g o : Nat} {t : TypeId} {cur : Array Value} {vs : List Value} (hg : w.heap[g]? = some (.cells cur t (0, 0))) (ho : o + vs.length ≤ cur.size) (h1 : ∀ v ∈ vs, v.oneCell' = true) : w.setCells g o vs = w.setRow g (splice cur o vs) := by
  have a := run_storeCells_at (P := P) g o t vs 0 cur w hg (by simpa using ho) h1
  have hc : ∀ j, j < vs.length → w.cell? ⟨g, o + j, none⟩ = some (cur[o + j]!) := fun j hj => by
    rw [cell_of_row w g (o + j) cur t (0, 0) hg, Array.getElem?_eq_getElem (by omega), getElem!_pos cur (o + j) (by omega)]
  have b := run_storeCells_cells (P := P) g o vs 0 w (fun j hj => by rw [Nat.add_zero, hc j hj]; rfl) (fun j hj => by
    rw [Nat.add_zero]
    exact frozen_of_row w g _ cur t hg) h1
  simp only [Nat.add_zero] at a b
  rw [a] at b
  injection b with _ e
  exact e.symm

section
variable {P : Program} {ops : Array Oper} {rest : List Oper} {o : Oper} {a : Act} {w : World} {Q : Exit → Act → World → Prop}
theorem wpList_clear {x : Operand} {t : TypeId} {v u : Value} {w' : World} (hgd : o.guard = none) (ho : o.op = .call { callee := .builtin .clear, args := #[x], argTypes := #[t] }) (hx : a.eval x = v)
    (hr : (Builtin.clear_ #[t] o.type #[v]).run P w = .ok u w') (h : wpList P ops Q rest (a.put o.dst u) w') : wpList P ops Q (o :: rest) a w := by
  refine wpList_run hgd ?_ h
  unfold execOp
  simp only [ho, resolve, invoke, builtin, Sem.run_bind, Sem.run_pure, Result.andThen_ok, List.map_toArray, List.map_cons, List.map_nil, hx, hr]
theorem wpList_copyR {x y : Operand} {t t' : TypeId} {v u r : Value} {w' : World} (hgd : o.guard = none) (ho : o.op = .call { callee := .builtin .copy, args := #[x, y], argTypes := #[t, t'] }) (hx : a.eval x = v) (hy : a.eval y = u)
    (hr : (Builtin.copy_ #[t, t'] o.type #[v, u]).run P w = .ok r w') (h : wpList P ops Q rest (a.put o.dst r) w') : wpList P ops Q (o :: rest) a w := by
  refine wpList_run hgd ?_ h
  unfold execOp
  simp only [ho, resolve, invoke, builtin, Sem.run_bind, Sem.run_pure, Result.andThen_ok, List.map_toArray, List.map_cons, List.map_nil, hx, hy, hr]
end

/-- The cells behind a Delete. -/
theorem del_cells {cur : Array Value} {n cap sz i : Nat} {xs zs : List Value} (hc : cur.size = cap * sz) (hn : n ≤ cap) (ht : cur.toList.take (n * sz) = xs) (hi : i < n) (hz : zs.length = 1 * sz) :
    (splice (splice cur (i * sz) (xs.drop ((i + 1) * sz))) ((n - 1) * sz) zs).toList.take ((n - 1) * sz) = xs.take (i * sz) ++ xs.drop ((i + 1) * sz) := by
  have hxl : xs.length = n * sz := by
    rw [← ht, List.length_take, Array.length_toList, hc]
    exact Nat.min_eq_left (Nat.mul_le_mul_right _ hn)
  have h1 : i * sz ≤ n * sz := Nat.mul_le_mul_right _ (by omega)
  have h2 : (n - 1) * sz + sz = n * sz := by rw [← Nat.succ_mul]; congr 1; omega
  have h3 : (i + 1) * sz = i * sz + sz := Nat.succ_mul _ _
  have h4 : n * sz ≤ cap * sz := Nat.mul_le_mul_right _ hn
  have h5 : i * sz ≤ (n - 1) * sz := Nat.mul_le_mul_right _ (by omega)
  have hdl : (xs.drop ((i + 1) * sz)).length = (n - 1) * sz - i * sz := by rw [List.length_drop, hxl]; omega
  have htk : cur.toList.take (i * sz) = xs.take (i * sz) := by rw [← ht, List.take_take, Nat.min_eq_left h1]
  have hmid : (splice cur (i * sz) (xs.drop ((i + 1) * sz))).toList.take ((n - 1) * sz) = xs.take (i * sz) ++ xs.drop ((i + 1) * sz) := by
    rw [splice_list, htk, List.take_append_of_le_length, List.take_of_length_le]
    · rw [List.length_append, List.length_take, hdl, hxl]; omega
    · rw [List.length_append, List.length_take, hdl, hxl]; omega
  rw [splice_list, List.take_append_of_le_length, List.take_append_of_le_length, List.take_take, Nat.min_self]
  · exact hmid
  · rw [List.length_take, Array.length_toList, splice_size]
    · rw [hc]; omega
    · rw [hdl, hc]; omega
  · rw [List.length_append, List.length_take, Array.length_toList, splice_size]
    · rw [hc]; omega
    · rw [hdl, hc]; omega

noncomputable def info_V : TypeInfo := (Tryd.prog.info? 68).get (by kernel_rfl)
theorem info_V_eq : Tryd.prog.info? 68 = some info_V := by kernel_rfl
theorem vClone_ok (K : Fz) (sv : Value) (L : List Vol) (w : World) (hK : K.In w) (hS : SlK K 4 encV sv L) (hF : FlatS sv) (hlen : L.length ≤ 1000000) :
    Calls Tryd.prog 60 #[sv] w fun e w' => ∃ v', e = .returned v' ∧ w'.ownsRow w.heap.size 68 4 v' L.length (L.flatMap encV) ∧ Below w.heap.size w w' := by
  have HS := hS
  obtain ⟨a, cap, rfl, hcap, hx⟩ := hS
  rcases hF a _ _ rfl with rfl | ⟨b, off, rfl⟩
  · have h0 : L = [] := by
      cases L with
      | nil => rfl
      | cons y ys => obtain ⟨b, off, cs, t, fr, ha, _⟩ := hx 0 y rfl; cases ha
    subst h0
    refine (AnyE.slices_Clone_nil Tryd.cloneVol _ cap w).mono ?_
    rintro e w' ⟨rfl, rfl⟩
    exact ⟨_, rfl, World.ownsRow_nil _ _ _ _, Below.refl _ _⟩
  · refine (AnyE.slices_Clone Tryd.cloneVol info_V (.agg #[.int .i64 0, .int .i64 0, .pointer none, .int .i64 0]) 4 32 info_V_eq (by kernel_rfl) (by kernel_rfl) (by kernel_rfl) rfl (by decide) Tryd.sizeOf68 b off L.length cap (L.flatMap encV) w (flat_len encV_len L) ?_ ?_ (HS.flat encV_len hK) (flat_one encV_one L)).mono ?_
    · unfold maxLen; omega
    · omega
    · rintro e w' ⟨v', rfl, h1, _, h3⟩
      exact ⟨v', rfl, h1, h3⟩

theorem zeroV_V : ∀ w, (zeroValue 68).run Tryd.prog w = .ok (.agg #[.int .i64 0, .int .i64 0, .pointer none, .int .i64 0]) w := fun w => by kernel_rfl
set_option maxRecDepth 100000 in
set_option maxHeartbeats 4000000 in
theorem vDelete_ok (base : Nat) (v : Value) (n i j : Nat) (xs : List Value) (w : World) (hown : w.ownsRow base 68 4 v n xs) (hj : j = i + 1) (hi : i < n) (hlen : n ≤ 1000000) (h1 : ∀ u ∈ xs, u.oneCell' = true) :
    Calls Tryd.prog 61 #[v, .int .i64 (i : Nat), .int .i64 (j : Nat)] w fun e w' => ∃ v', e = .returned v' ∧ w'.ownsRow base 68 4 v' (n - 1) (xs.take (i * 4) ++ xs.drop (j * 4)) ∧ Grown w w' v v' := by
  have hxl := hown.1
  obtain ⟨g, cap, cur, rfl, hbase, hg, hnc, hcm, hcs, ht⟩ := ownsRow_some hown (by omega)
  clear hown
  obtain ⟨news, hnews⟩ : ∃ news, news = xs.drop (j * 4) := ⟨_, rfl⟩
  have hnl : news.length = (n - j) * 4 := by rw [hnews, List.length_drop, hxl, Nat.sub_mul]
  have hn1 : ∀ u ∈ news, u.oneCell' = true := fun u hu => h1 u (List.mem_of_mem_drop (hnews ▸ hu))
  have hget : ∀ k u, news[k]? = some u → cur[j * 4 + k]? = some u := by
    intro k u hu
    rw [hnews, List.getElem?_drop, ← ht, List.getElem?_take] at hu
    split at hu
    · simpa using hu
    · cases hu
  obtain ⟨A, hA, hsrc⟩ : ∃ A : Addr, (if cap = j then (some ⟨g, 0, none⟩ : Option Addr) else some ⟨g, j * 4, none⟩) = some A ∧ Hid (∀ t u, news[t]? = some u → w.drew.cell? (A.add t) = some u) := by
    by_cases h : cap = j
    · refine ⟨⟨g, 0, none⟩, by simp [h], fun t u hu => ?_⟩
      have h0 : news.length = 0 := by rw [hnl]; omega
      rw [List.length_eq_zero_iff.1 h0] at hu
      simp at hu
    · refine ⟨⟨g, j * 4, none⟩, by simp [h], fun t u hu => ?_⟩
      have hadd : (⟨g, j * 4, none⟩ : Addr).add t = ⟨g, j * 4 + t, none⟩ := by unfold Addr.add; split <;> simp_all
      rw [hadd, cell_of_row w.drew g _ cur 68 (0, 0) hg]
      exact hget t u hu
  have hc63 : cap ≤ 9223372036854775807 := by unfold maxLen at hcm; omega
  have hnl2 : i * 4 + news.length ≤ cur.size := by rw [hnl, hcs]; omega
  have s1 : Hid (news.length = (n - j) * 4) := Lib.hid hnl
  have s2 : Hid (∀ u ∈ news, u.oneCell' = true) := Lib.hid hn1
  have s3 : Hid (∀ t, t < news.length → (w.drew.cell? ⟨g, 0 + i * 4 + t, none⟩).isSome = true ∧ w.drew.frozen? ⟨g, 0 + i * 4 + t, none⟩ = false) := by
    intro t ht
    rw [Nat.zero_add]
    refine ⟨?_, ?_⟩
    · rw [cell_of_row w.drew g _ cur 68 (0, 0) hg, Array.getElem?_eq_getElem (by omega)]; rfl
    · exact frozen_of_row w.drew g _ cur 68 hg
  obtain ⟨cur1, hcur1⟩ : ∃ cur1, cur1 = splice cur (i * 4) news := ⟨_, rfl⟩
  have hcs1 : cur1.size = cap * 4 := by rw [hcur1, splice_size hnl2, hcs]
  obtain ⟨W1, hW1⟩ : ∃ W1, W1 = w.drew.setRow g cur1 := ⟨_, rfl⟩
  have hW : Hid (W1 = w.drew.setCells g (0 + i * 4) news) := by
    refine Lib.hid ?_
    rw [Nat.zero_add, setCells_row Tryd.prog (w := w.drew) (t := 68) hg hnl2 hn1, hW1, hcur1]
  have hg1 : W1.heap[g]? = some (.cells cur1 68 (0, 0)) := by rw [hW1]; exact setRow_heap w.drew g cur cur1 68 (0, 0) hg
  have hcl : Hid (∀ ty c, (Builtin.clear_ #[47] ty #[.slice (some ⟨g, (n - 1) * 4, none⟩) (n - (n - 1)) c]).run Tryd.prog W1 = .ok (.tuple #[]) (W1.setRow g (splice cur1 ((n - 1) * 4) (Builtin.zeroCells #[.int .i64 0, .int .i64 0, .pointer none, .int .i64 0] 1).toList))) :=
    Lib.hid fun ty c => by rw [show n - (n - 1) = 1 by omega]; exact run_clearZ W1 47 68 ty (.agg #[.int .i64 0, .int .i64 0, .pointer none, .int .i64 0]) Tryd.underlying47 zeroV_V g ((n - 1) * 4) 1 c cur1 68 (by omega) hg1 (by rw [hcs1]; show _ + 1 * 4 ≤ _; omega) (by simp [Value.cells, Value.oneCell'])
  have fin : Hid ((W1.setRow g (splice cur1 ((n - 1) * 4) (Builtin.zeroCells #[.int .i64 0, .int .i64 0, .pointer none, .int .i64 0] 1).toList)).ownsRow base 68 4 (.slice (some ⟨g, 0, none⟩) (n - 1) cap) (n - 1) (xs.take (i * 4) ++ xs.drop (j * 4)) ∧
      Grown w (W1.setRow g (splice cur1 ((n - 1) * 4) (Builtin.zeroCells #[.int .i64 0, .int .i64 0, .pointer none, .int .i64 0] 1).toList)) (.slice (some ⟨g, 0, none⟩) n cap) (.slice (some ⟨g, 0, none⟩) (n - 1) cap)) := by
    refine Lib.hid ⟨⟨?_, .inr ⟨g, cap, _, rfl, hbase, setRow_heap W1 g cur1 _ 68 (0, 0) hg1, by omega, hcm, ?_, ?_⟩⟩, ?_⟩
    · rw [List.length_append, List.length_take, List.length_drop, hxl]; omega
    · rw [splice_size (by rw [hcs1, zeroCells_len]; show _ + 1 * 4 ≤ _; omega), hcs1]
    · rw [hcur1, hnews]
      subst hj
      exact del_cells hcs hnc ht hi (zeroCells_len _ _)
    · rw [hW1]
      exact ((Grown.setRow (v := .slice (some ⟨g, 0, none⟩) n cap) (v' := .slice (some ⟨g, 0, none⟩) n cap) rfl rfl).trans (Grown.setRow rfl rfl) rfl rfl rfl).drew
  have hic : i ≤ cap := by omega
  have hjc : j ≤ cap := by omega
  have hij : ¬ ((i : Int) = (j : Int)) := by omega
  have hnn : i + (n - j) = n - 1 := by omega
  have hjn : j ≤ n := by omega
  have mixed := mixed_ok
  clear hW1 hcur1 hnews hget hnl hn1 hnl2 hg1 hcs1 hg ht hcs h1 hxl hj
  go_enter Tryd.func61, Tryd.ntmps61
  go_wp2_with fail
  go_region_law_o (refine step_append_room rfl (.tmp 22) (.tmp 25) 47 rfl 68 info_V 4 Tryd.underlying47 info_V_eq (by kernel_rfl) g 0 i cap (by simp [Act.eval, Act.put]) A (n - j) (cap - j) news (by simp [Act.eval, Act.put]) s1.out hsrc.out s2.out (by omega) s3.out ?_; rw [← hW.out, hnn])
  have hc0 := hcl.out
  go_wp2
  go_ret
  exact ⟨_, rfl, fin.out⟩

noncomputable def info_S : TypeInfo := (Tryd.prog.info? 64).get (by kernel_rfl)
theorem info_S_eq : Tryd.prog.info? 64 = some info_S := by kernel_rfl
theorem sClone_ok (K : Fz) (sv : Value) (L : List Snp) (w : World) (hK : K.In w) (hS : SlK K 5 encS sv L) (hF : FlatS sv) (hlen : L.length ≤ 1000000) :
    Calls Tryd.prog 47 #[sv] w fun e w' => ∃ v', e = .returned v' ∧ w'.ownsRow w.heap.size 64 5 v' L.length (L.flatMap encS) ∧ Below w.heap.size w w' := by
  have HS := hS
  obtain ⟨a, cap, rfl, hcap, hx⟩ := hS
  rcases hF a _ _ rfl with rfl | ⟨b, off, rfl⟩
  · have h0 : L = [] := by
      cases L with
      | nil => rfl
      | cons y ys => obtain ⟨b, off, cs, t, fr, ha, _⟩ := hx 0 y rfl; cases ha
    subst h0
    refine (AnyE.slices_Clone_nil Tryd.cloneSnp _ cap w).mono ?_
    rintro e w' ⟨rfl, rfl⟩
    exact ⟨_, rfl, World.ownsRow_nil _ _ _ _, Below.refl _ _⟩
  · refine (AnyE.slices_Clone Tryd.cloneSnp info_S (.agg #[.int .i64 0, .int .i64 0, .pointer none, .int .i64 0, .int .i64 0]) 5 40 info_S_eq (by kernel_rfl) (by kernel_rfl) (by kernel_rfl) rfl (by decide) Tryd.sizeOf64 b off L.length cap (L.flatMap encS) w (flat_len encS_len L) ?_ ?_ (HS.flat encS_len hK) (flat_one encS_one L)).mono ?_
    · unfold maxLen; omega
    · omega
    · rintro e w' ⟨v', rfl, h1, _, h3⟩
      exact ⟨v', rfl, h1, h3⟩

theorem zeroV_S : ∀ w, (zeroValue 64).run Tryd.prog w = .ok (.agg #[.int .i64 0, .int .i64 0, .pointer none, .int .i64 0, .int .i64 0]) w := fun w => by kernel_rfl
set_option maxRecDepth 100000 in
set_option maxHeartbeats 4000000 in
theorem sDelete_ok (base : Nat) (v : Value) (n i j : Nat) (xs : List Value) (w : World) (hown : w.ownsRow base 64 5 v n xs) (hj : j = i + 1) (hi : i < n) (hlen : n ≤ 1000000) (h1 : ∀ u ∈ xs, u.oneCell' = true) :
    Calls Tryd.prog 68 #[v, .int .i64 (i : Nat), .int .i64 (j : Nat)] w fun e w' => ∃ v', e = .returned v' ∧ w'.ownsRow base 64 5 v' (n - 1) (xs.take (i * 5) ++ xs.drop (j * 5)) ∧ Grown w w' v v' := by
  have hxl := hown.1
  obtain ⟨g, cap, cur, rfl, hbase, hg, hnc, hcm, hcs, ht⟩ := ownsRow_some hown (by omega)
  clear hown
  obtain ⟨news, hnews⟩ : ∃ news, news = xs.drop (j * 5) := ⟨_, rfl⟩
  have hnl : news.length = (n - j) * 5 := by rw [hnews, List.length_drop, hxl, Nat.sub_mul]
  have hn1 : ∀ u ∈ news, u.oneCell' = true := fun u hu => h1 u (List.mem_of_mem_drop (hnews ▸ hu))
  have hget : ∀ k u, news[k]? = some u → cur[j * 5 + k]? = some u := by
    intro k u hu
    rw [hnews, List.getElem?_drop, ← ht, List.getElem?_take] at hu
    split at hu
    · simpa using hu
    · cases hu
  obtain ⟨A, hA, hsrc⟩ : ∃ A : Addr, (if cap = j then (some ⟨g, 0, none⟩ : Option Addr) else some ⟨g, j * 5, none⟩) = some A ∧ Hid (∀ t u, news[t]? = some u → w.drew.cell? (A.add t) = some u) := by
    by_cases h : cap = j
    · refine ⟨⟨g, 0, none⟩, by simp [h], fun t u hu => ?_⟩
      have h0 : news.length = 0 := by rw [hnl]; omega
      rw [List.length_eq_zero_iff.1 h0] at hu
      simp at hu
    · refine ⟨⟨g, j * 5, none⟩, by simp [h], fun t u hu => ?_⟩
      have hadd : (⟨g, j * 5, none⟩ : Addr).add t = ⟨g, j * 5 + t, none⟩ := by unfold Addr.add; split <;> simp_all
      rw [hadd, cell_of_row w.drew g _ cur 64 (0, 0) hg]
      exact hget t u hu
  have hc63 : cap ≤ 9223372036854775807 := by unfold maxLen at hcm; omega
  have hnl2 : i * 5 + news.length ≤ cur.size := by rw [hnl, hcs]; omega
  have s1 : Hid (news.length = (n - j) * 5) := Lib.hid hnl
  have s2 : Hid (∀ u ∈ news, u.oneCell' = true) := Lib.hid hn1
  have s3 : Hid (∀ t, t < news.length → (w.drew.cell? ⟨g, 0 + i * 5 + t, none⟩).isSome = true ∧ w.drew.frozen? ⟨g, 0 + i * 5 + t, none⟩ = false) := by
    intro t ht
    rw [Nat.zero_add]
    refine ⟨?_, ?_⟩
    · rw [cell_of_row w.drew g _ cur 64 (0, 0) hg, Array.getElem?_eq_getElem (by omega)]; rfl
    · exact frozen_of_row w.drew g _ cur 64 hg
  obtain ⟨cur1, hcur1⟩ : ∃ cur1, cur1 = splice cur (i * 5) news := ⟨_, rfl⟩
  have hcs1 : cur1.size = cap * 5 := by rw [hcur1, splice_size hnl2, hcs]
  obtain ⟨W1, hW1⟩ : ∃ W1, W1 = w.drew.setRow g cur1 := ⟨_, rfl⟩
  have hW : Hid (W1 = w.drew.setCells g (0 + i * 5) news) := by
    refine Lib.hid ?_
    rw [Nat.zero_add, setCells_row Tryd.prog (w := w.drew) (t := 64) hg hnl2 hn1, hW1, hcur1]
  have hg1 : W1.heap[g]? = some (.cells cur1 64 (0, 0)) := by rw [hW1]; exact setRow_heap w.drew g cur cur1 64 (0, 0) hg
  have hcl : Hid (∀ ty c, (Builtin.clear_ #[48] ty #[.slice (some ⟨g, (n - 1) * 5, none⟩) (n - (n - 1)) c]).run Tryd.prog W1 = .ok (.tuple #[]) (W1.setRow g (splice cur1 ((n - 1) * 5) (Builtin.zeroCells #[.int .i64 0, .int .i64 0, .pointer none, .int .i64 0, .int .i64 0] 1).toList))) :=
    Lib.hid fun ty c => by rw [show n - (n - 1) = 1 by omega]; exact run_clearZ W1 48 64 ty (.agg #[.int .i64 0, .int .i64 0, .pointer none, .int .i64 0, .int .i64 0]) Tryd.underlying48 zeroV_S g ((n - 1) * 5) 1 c cur1 64 (by omega) hg1 (by rw [hcs1]; show _ + 1 * 5 ≤ _; omega) (by simp [Value.cells, Value.oneCell'])
  have fin : Hid ((W1.setRow g (splice cur1 ((n - 1) * 5) (Builtin.zeroCells #[.int .i64 0, .int .i64 0, .pointer none, .int .i64 0, .int .i64 0] 1).toList)).ownsRow base 64 5 (.slice (some ⟨g, 0, none⟩) (n - 1) cap) (n - 1) (xs.take (i * 5) ++ xs.drop (j * 5)) ∧
      Grown w (W1.setRow g (splice cur1 ((n - 1) * 5) (Builtin.zeroCells #[.int .i64 0, .int .i64 0, .pointer none, .int .i64 0, .int .i64 0] 1).toList)) (.slice (some ⟨g, 0, none⟩) n cap) (.slice (some ⟨g, 0, none⟩) (n - 1) cap)) := by
    refine Lib.hid ⟨⟨?_, .inr ⟨g, cap, _, rfl, hbase, setRow_heap W1 g cur1 _ 64 (0, 0) hg1, by omega, hcm, ?_, ?_⟩⟩, ?_⟩
    · rw [List.length_append, List.length_take, List.length_drop, hxl]; omega
    · rw [splice_size (by rw [hcs1, zeroCells_len]; show _ + 1 * 5 ≤ _; omega), hcs1]
    · rw [hcur1, hnews]
      subst hj
      exact del_cells hcs hnc ht hi (zeroCells_len _ _)
    · rw [hW1]
      exact ((Grown.setRow (v := .slice (some ⟨g, 0, none⟩) n cap) (v' := .slice (some ⟨g, 0, none⟩) n cap) rfl rfl).trans (Grown.setRow rfl rfl) rfl rfl rfl).drew
  have hic : i ≤ cap := by omega
  have hjc : j ≤ cap := by omega
  have hij : ¬ ((i : Int) = (j : Int)) := by omega
  have hnn : i + (n - j) = n - 1 := by omega
  have hjn : j ≤ n := by omega
  have mixed := mixed_ok
  clear hW1 hcur1 hnews hget hnl hn1 hnl2 hg1 hcs1 hg ht hcs h1 hxl hj
  go_enter Tryd.func68, Tryd.ntmps68
  go_wp2_with fail
  go_region_law_o (refine step_append_room rfl (.tmp 22) (.tmp 25) 48 rfl 64 info_S 5 Tryd.underlying48 info_S_eq (by kernel_rfl) g 0 i cap (by simp [Act.eval, Act.put]) A (n - j) (cap - j) news (by simp [Act.eval, Act.put]) s1.out hsrc.out s2.out (by omega) s3.out ?_; rw [← hW.out, hnn])
  have hc0 := hcl.out
  go_wp2
  go_ret
  exact ⟨_, rfl, fin.out⟩
end Go.Proofs.YtdaagmhkhfcmdaaDoor
