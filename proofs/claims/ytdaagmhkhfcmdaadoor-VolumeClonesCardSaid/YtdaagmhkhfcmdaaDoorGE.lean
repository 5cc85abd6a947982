/- Volumes, snapshots and spaces as plain data; the small functions: tenantOK, blockOK, New, get. -/
import Derived.Test.YtdaagmhkhfcmdaaDoorGB
import Derived.Test.YtdaagmhkhfcmdaaDoorGA
import Derived.Test.YtdaagmhkhfcmdaaDoorGD
import Derived.Test.YtdaagmhkhfcmdaaDoorDrawn
namespace Go.Proofs.YtdaagmhkhfcmdaaDoor
open Go Go.RowKit
set_option maxHeartbeats 400000

/-- A volume: its number, its tenant, its tree, its count; and what the tree maps. -/
structure Vol where
  id : Int
  ten : Int
  t : PT
  n : Int
  L : Ents
/-- A snapshot: a volume's state and the volume it was made from. -/
structure Snp extends Vol where
  from_ : Int
def encV (v : Vol) : List Value := [.int .i64 v.id, .int .i64 v.ten, .pointer v.t.ptr, .int .i64 v.n]
def encS (s : Snp) : List Value := [.int .i64 s.id, .int .i64 s.ten, .pointer s.t.ptr, .int .i64 s.n, .int .i64 s.from_]
/-- A space: its volumes and its snapshots. -/
structure Spc where
  vs : List Vol
  ss : List Snp
/-- The slice's address, if it has one, is a plain one. -/
def FlatS (v : Value) : Prop := ∀ a n c, v = .slice a n c → a = none ∨ ∃ b off, a = some ⟨b, off, none⟩
theorem FlatS.nil (n c : Nat) : FlatS (.slice none n c) := fun a _ _ h => by cases h; exact .inl rfl
/-- The space lies frozen in the ghost, with all its trees. -/
def SpK (K : Fz) (v : Value) (S : Spc) : Prop :=
  ∃ b t sv ss, v = .pointer (some ⟨b, 0, none⟩) ∧ K b = some (.cells #[sv, ss] t (0, 0)) ∧ SlK K 4 encV sv S.vs ∧ SlK K 5 encS ss S.ss ∧
    (∀ x ∈ S.vs, Tr 122 K x.t) ∧ (∀ x ∈ S.ss, Tr 122 K x.t) ∧ FlatS sv ∧ FlatS ss

theorem SpK.call {K K' : Fz} {W : World} {v : Value} {S : Spc} (h : SpK K v S) (hi : K.In W) (hl : K.Le W.heap.size K') : SpK K' v S := by
  obtain ⟨b, t, sv, ss, hv, hb, h1, h2, h3, h4, h5⟩ := h
  exact ⟨b, t, sv, ss, hv, hl.keep hi (Nat.le_refl _) hb, h1.call hi hl, h2.call hi hl, fun x hx => (h3 x hx).call hi hl, fun x hx => (h4 x hx).call hi hl, h5⟩

theorem blockOK_ok (n : Int) (w : World) : Calls Tryd.prog 39 #[.int .i64 n] w fun e w' => e = .returned (.bool (decide (0 ≤ n ∧ n < 4096))) ∧ w = w' := by
  by_cases h0 : 0 ≤ n <;> by_cases h1 : n < 4096
  all_goals
    go_enter Tryd.func39, Tryd.ntmps39
    go_wp2
    all_goals go_ret
    all_goals simp [h0, h1]

theorem tenantOK_ok (n : Int) (w : World) : Calls Tryd.prog 37 #[.int .i64 n] w fun e w' => e = .returned (.bool (decide (0 ≤ n ∧ n < 16))) ∧ w = w' := by
  by_cases h0 : 0 ≤ n <;> by_cases h1 : n < 16
  all_goals
    go_enter Tryd.func37, Tryd.ntmps37
    go_wp2
    all_goals go_ret
    all_goals simp [h0, h1]

/-- A chunk and an error number. -/
def intErr (r : Int × Int) : Value := .tuple #[.int .i64 r.1, .int .i64 r.2]
/-- What Get says of a block: the chunk; 1 for a bad block, 12 for one that is not mapped. -/
def PT.at_ (t : PT) (blk : Int) : Int × Int := if 0 ≤ blk ∧ blk < 4096 then (if (t.look blk).2 then ((t.look blk).1, 0) else (0, 12)) else (0, 1)

theorem New_ok (K : Fz) (w : World) (hK : K.In w) : Calls Tryd.prog 5 #[] w (Ret K w fun K' v => SpK K' v ⟨[], []⟩) := by
  have s := St.start hK
  go_enter Tryd.func5, Tryd.ntmps5
  go_wp2_with (first
    | ((with_reducible refine gate_build (T := 50) ?_); refine wpList_build0 rfl rfl (v := .agg #[.slice none 0 0, .slice none 0 0]) (fun w => by kernel_rfl) ?_)
    | ((with_reducible refine gate_box (T := 50) ?_); refine wpList_boxG rfl rfl rfl (cs := #[.slice none 0 0, .slice none 0 0]) rfl ?_; intro g1 W1 e hn; have o1 := Own.made s e hn; replace s := s.new hn; clear e hn)
    | fail)
  go_ret
  exact (s.freeze o1).ret ⟨_, _, _, _, rfl, Fz.add_self _ _ _, SlK.nil _ _ _ _ _, SlK.nil _ _ _ _ _, by simp, by simp, FlatS.nil _ _, FlatS.nil _ _⟩

theorem vget_ok (K : Fz) (t : PT) (n blk : Int) (w : World) (hK : K.In w) (ht : Tr 122 K t) :
    Calls Tryd.prog 30 #[.agg #[.pointer t.ptr, .int .i64 n], .int .i64 blk] w fun e w' => e = .returned (intErr (t.at_ blk)) ∧ Below w.heap.size w w' := by
  have s := St.start hK
  by_cases h0 : 0 ≤ blk ∧ blk < 4096
  · have hb : Hid (decide (0 ≤ blk ∧ blk < 4096) = true) := Lib.hid (by simp [h0])
    have hat : Hid (t.at_ blk = if (t.look blk).2 then ((t.look blk).1, 0) else (0, 12)) := Lib.hid (by rw [PT.at_, if_pos h0])
    obtain ⟨⟨c, ok⟩, hr⟩ : ∃ r, t.look blk = r := ⟨_, rfl⟩
    rw [hr] at hat
    have hg := Lib.hid fun W (hW : K.In W) => get_at K t n blk (c, ok) W hr hW ht
    clear h0 hr ht
    cases ok
    all_goals
      go_enter Tryd.func30, Tryd.ntmps30
      go_wp2_with (first
        | ((with_reducible refine gate_box (T := 60) (x := .tmp 0) ?_); refine wpList_boxG rfl rfl rfl (cs := #[.pointer t.ptr, .int .i64 n]) rfl ?_; intro g1 W1 e hn; have o1 := Own.made s e hn; replace s := s.new hn; clear e hn)
        | ((with_reducible refine gate_load (T := 60) ?_); refine wpList_load_row rfl 60 _ rfl _ rfl 60 _ _ _ o1.at_ Tryd.underlying60 rfl (by kernel_rfl) ?_)
        | (go_at_call 39; refine (blockOK_ok blk _).mono ?_; rw [hb.out]; rintro e W ⟨rfl, rfl⟩)
        | (go_at_call 56; refine (hg.out _ s.inn).mono ?_; rintro e W ⟨rfl, hb2⟩; replace o1 := o1.quiet hb2; replace s := s.quiet hb2; clear hb2)
        | fail)
      go_ret2
      refine ⟨?_, s.below⟩
      rw [hat.out]
      rfl
  · have hb : Hid (decide (0 ≤ blk ∧ blk < 4096) = false) := Lib.hid (by simpa using h0)
    have hat : Hid (t.at_ blk = (0, 1)) := Lib.hid (by rw [PT.at_, if_neg h0])
    clear h0 ht
    go_enter Tryd.func30, Tryd.ntmps30
    go_wp2_with (first
      | ((with_reducible refine gate_box (T := 60) (x := .tmp 0) ?_); refine wpList_boxG rfl rfl rfl (cs := #[.pointer t.ptr, .int .i64 n]) rfl ?_; intro g1 W1 e hn; have o1 := Own.made s e hn; replace s := s.new hn; clear e hn)
      | (go_at_call 39; refine (blockOK_ok blk _).mono ?_; rw [hb.out]; rintro e W ⟨rfl, rfl⟩)
      | fail)
    go_ret2
    refine ⟨?_, s.below⟩
    rw [hat.out]
    rfl

end Go.Proofs.YtdaagmhkhfcmdaaDoor
/- at: the index of a volume or snapshot by its number. -/
namespace Go.Proofs.YtdaagmhkhfcmdaaDoor
open Go Go.RowKit
set_option maxHeartbeats 400000

theorem number_ok (id ten n : Int) (p : Option Addr) (w : World) :
    Calls Tryd.prog 98 #[.agg #[.int .i64 id, .int .i64 ten, .pointer p, .int .i64 n]] w fun e w' => e = .returned (.int .i64 id) ∧ Below w.heap.size w w' := by
  go_enter Tryd.func98, Tryd.ntmps98
  go_wp2
  all_goals go_ret
  exact ⟨rfl, (Below.refl _ _).alloc (Nat.le_refl _) _⟩

theorem vMethod (id ten n : Int) (p : Option Addr) : ∀ (w : World), Sem.run Tryd.prog
    (method 254 68 (.agg #[.int .i64 id, .int .i64 ten, .pointer p, .int .i64 n]) "solvent/volume.number") w = .ok (98, .agg #[.int .i64 id, .int .i64 ten, .pointer p, .int .i64 n]) w := fun _ => by kernel_rfl
theorem sMethod (id ten n fr : Int) (p : Option Addr) : ∀ (w : World), Sem.run Tryd.prog
    (method 254 64 (.agg #[.int .i64 id, .int .i64 ten, .pointer p, .int .i64 n, .int .i64 fr]) "solvent/volume.number") w = .ok (98, .agg #[.int .i64 id, .int .i64 ten, .pointer p, .int .i64 n]) w := fun _ => by kernel_rfl

theorem mixed_ok : Tryd.prog.follows .mixedOrders = true := by kernel_rfl

set_option maxRecDepth 100000 in
/-- The closure of at: is the number of this volume the one looked for? -/
theorem vAt1_ok (v : Vol) (x : Int) (B : Nat) (w : World) (hB : B < w.heap.size) (hc : w.cell? ⟨B, 0, none⟩ = some (.int .i64 x)) :
    Calls Tryd.prog 53 #[.agg (encV v).toArray, .pointer (some ⟨B, 0, none⟩)] w fun e w' => e = .returned (.bool (v.id == x)) ∧ Below w.heap.size w w' := by
  obtain ⟨id, ten, t, n, L⟩ := v
  have s := St.start (K0 := fun _ => none) (w := w) (fun _ _ h => by cases h)
  have Hc := Lib.hid hc
  clear hc
  show Calls Tryd.prog 53 #[.agg #[.int .i64 id, .int .i64 ten, .pointer t.ptr, .int .i64 n], _] w _
  go_enter Tryd.func53, Tryd.ntmps53
  go_wp2_with (first
    | ((with_reducible refine gate_box (T := 68) (x := .tmp 0) ?_); refine wpList_boxG rfl rfl rfl (cs := #[.int .i64 id, .int .i64 ten, .pointer t.ptr, .int .i64 n]) rfl ?_; intro g1 W1 e hn; have o1 := Own.made s e hn; replace s := s.new hn; clear e hn)
    | fail)
  refine wp_region_run (m := 5) (n := 9) (I := fun K2 W => St (fun _ => none) w K2 W ∧ Own w K2 W g1 (.cells #[.int .i64 id, .int .i64 ten, .pointer t.ptr, .int .i64 n] 68 (0, 0))) (K0 := fun _ => none)
    (ws := [.is (.agg #[.int .i64 id, .int .i64 ten, .pointer t.ptr, .int .i64 n]), .is (.iface 68 (.agg #[.int .i64 id, .int .i64 ten, .pointer t.ptr, .int .i64 n])), .is (.int .i64 id), .is (.int .i64 x), .is (.bool (id == x))])
    mixed_ok (by kernel_rfl) rfl rfl ?mono ⟨s.drew, o1.drew⟩ ?_
  case mono =>
    simp only [List.forall_mem_cons]
    exact ⟨trivial, trivial, trivial, trivial, trivial, fun _ h => by cases h⟩
  apply RunAll.is_
  · intro K3 W3 hE3 hI3 hF3
    go_wp2_with (first | ((with_reducible refine gate_load (T := 68) ?_); refine wpList_load_row rfl 68 _ rfl _ rfl 68 _ _ _ hI3.2.at_ Tryd.underlying68 rfl (by kernel_rfl) ?_) | fail)
    exact step_end ⟨⟨K3, Ext.refl _, hI3⟩, rfl⟩
  · rfl
  apply RunAll.is_
  · intro K3 W3 hE3 hI3 hF3
    go_wp2
    exact step_end ⟨⟨K3, Ext.refl _, hI3⟩, rfl⟩
  · rfl
  apply RunAll.is_
  · intro K3 W3 hE3 hI3 hF3
    have hm := vMethod id ten n t.ptr
    go_wp2_with (first | (go_at_call 98; refine (number_ok id ten n t.ptr _).mono ?_; rintro e W4 ⟨rfl, hb⟩) | fail)
    exact step_end ⟨⟨K3, Ext.refl _, hI3.1.quiet hb, hI3.2.quiet hb⟩, rfl⟩
  · rfl
  apply RunAll.is_
  · intro K3 W3 hE3 hI3 hF3
    have c2 := (hI3.1.below.cell (p := ⟨B, 0, none⟩) hB).trans Hc.out
    go_wp2
    exact step_end ⟨⟨K3, Ext.refl _, hI3⟩, rfl⟩
  · rfl
  apply RunAll.is_
  · intro K3 W3 hE3 hI3 hF3
    go_wp2
    exact step_end ⟨⟨K3, Ext.refl _, hI3⟩, rfl⟩
  · rfl
  intro K3 W3 hE3 hI3 hF3
  go_wp2
  go_ret
  exact ⟨rfl, hI3.1.below⟩

end Go.Proofs.YtdaagmhkhfcmdaaDoor
/- at: slices.IndexFunc at volumes and at snapshots. -/
namespace Go.Proofs.YtdaagmhkhfcmdaaDoor
open Go Go.RowKit
set_option maxHeartbeats 400000

theorem size_Vol : (Tryd.prog.info? 68).map (·.size) = some 4 := by kernel_rfl

set_option maxRecDepth 100000 in
theorem vIdx_ok (K : Fz) (sv : Value) (L : List Vol) (x : Int) (B : Nat) (w : World) (hK : K.In w) (hS : SlK K 4 encV sv L) (hlen : L.length ≤ 1000000) (hB : B < w.heap.size) (hc : w.cell? ⟨B, 0, none⟩ = some (.int .i64 x)) :
    Calls Tryd.prog 52 #[sv, .func (.func 53) #[] #[.pointer (some ⟨B, 0, none⟩)]] w fun e w' => e = .returned (.int .i64 (ixV Vol.id L x)) ∧ Below w.heap.size w w' := by
  obtain ⟨a, cap, rfl, hcap, hx⟩ := hS
  have s := St.start hK
  have Hc := Lib.hid hc
  have Hx := Lib.hid hx
  clear hx hc
  go_enter Tryd.func52, Tryd.ntmps52
  go_wp2
  go_loopw [8] (fun i wr => ∃ n : Nat, n ≤ L.length ∧ i = .int .i64 n ∧ St K w K wr ∧ Hid (∀ (j : Nat) (z : Vol), j < n → L[j]? = some z → z.id ≠ x)) (fun i _ => L.length - (intOf i).toNat)
  case atStart => exact ⟨0, by omega, rfl, s, Lib.hid fun j z hj => by omega⟩
  case round =>
    obtain ⟨n, hn, rfl, s1, hbef⟩ := hrel
    clear s
    by_cases hlt : n < L.length
    · obtain ⟨y, hyn⟩ : ∃ y, L[n]? = some y := ⟨_, List.getElem?_eq_getElem hlt⟩
      obtain ⟨b, off, cs, ty, fr, rfl, hkb, hj⟩ := Hx.out n y hyn
      have Hyn := Lib.hid hyn
      have Hj := Lib.hid hj
      clear hj hyn
      by_cases hge : y.id = x
      · have hq : Hid ((y.id == x) = true) := Lib.hid (by simp [hge])
        have Hge := Lib.hid hge
        clear hge
        go_wp2_with (first
          | ((with_reducible refine gate_load (T := 68) ?_); refine wpList_loadAgg (vs := encV y) (off := off + n * 4) rfl rfl rfl Tryd.underlying68 rfl (s1.inn.get hkb) (by rw [size_Vol]; rfl) (fun j u hu => Hj.out j u hu) ?_)
          | (go_at_call 53; refine (vAt1_ok y x B _ (Nat.lt_of_lt_of_le hB s1.size) ((s1.below.cell (p := ⟨B, 0, none⟩) hB).trans Hc.out)).mono ?_; rw [hq.out]; rintro e W4 ⟨rfl, hb⟩; replace s1 := s1.quiet hb; clear hb)
          | fail)
        go_ret
        have e := ixN_stop Vol.id hbef.out Hyn.out Hge.out
        exact ⟨by rw [ixV, e, if_pos hlt]; rfl, s1.below⟩
      · have hq : Hid ((y.id == x) = false) := Lib.hid (by simpa using hge)
        have Hge := Lib.hid hge
        clear hge
        go_wp2_with (first
          | ((with_reducible refine gate_load (T := 68) ?_); refine wpList_loadAgg (vs := encV y) (off := off + n * 4) rfl rfl rfl Tryd.underlying68 rfl (s1.inn.get hkb) (by rw [size_Vol]; rfl) (fun j u hu => Hj.out j u hu) ?_)
          | (go_at_call 53; refine (vAt1_ok y x B _ (Nat.lt_of_lt_of_le hB s1.size) ((s1.below.cell (p := ⟨B, 0, none⟩) hB).trans Hc.out)).mono ?_; rw [hq.out]; rintro e W4 ⟨rfl, hb⟩; replace s1 := s1.quiet hb; clear hb)
          | fail)
        go_roundw
        case rel =>
          refine ⟨n + 1, by omega, by go_num, s1, Lib.hid ?_⟩
          intro j z hj hz
          by_cases h : j < n
          · exact hbef.out j z h hz
          · obtain rfl : j = n := by omega
            rw [Hyn.out] at hz
            cases hz
            exact Hge.out
        case measure => simp [intOf]; omega
    · go_wp2
      go_ret
      obtain rfl : n = L.length := by omega
      have e := ixN_end Vol.id hbef.out
      exact ⟨by rw [ixV, e, if_neg (by omega)] <;> rfl, s1.below⟩

set_option maxRecDepth 100000 in
theorem vAt_ok (K : Fz) (sv : Value) (L : List Vol) (x : Int) (w : World) (hK : K.In w) (hS : SlK K 4 encV sv L) (hlen : L.length ≤ 1000000) :
    Calls Tryd.prog 27 #[sv, .int .i64 x] w fun e w' => e = .returned (.int .i64 (ixV Vol.id L x)) ∧ Below w.heap.size w w' := by
  have s := St.start hK
  have HS := Lib.hid hS
  clear hS
  go_enter Tryd.func27, Tryd.ntmps27
  go_wp2_with (first
    | ((with_reducible refine gate_box (T := 3) ?_); refine wpList_boxG rfl rfl rfl (cs := #[.int .i64 x]) rfl ?_; intro g1 W1 e hn; have o1 := Own.made s e hn; replace s := s.new hn; clear e hn)
    | (go_at_call 52; refine (vIdx_ok K sv L x g1 _ s.inn HS.out hlen o1.lt (cell_of_row _ _ 0 _ _ _ o1.at_)).mono ?_; rintro e W4 ⟨rfl, hb⟩; replace s := s.quiet hb; clear hb)
    | fail)
  go_ret
  exact ⟨rfl, s.below⟩

end Go.Proofs.YtdaagmhkhfcmdaaDoor
/- at: at snapshots. Written by gen_VolD.py. -/
namespace Go.Proofs.YtdaagmhkhfcmdaaDoor
open Go Go.RowKit
set_option maxHeartbeats 400000

abbrev Snp.num (s : Snp) : Int := s.id

set_option maxRecDepth 100000 in
/-- The closure of at: is the number of this volume the one looked for? -/
theorem sAt1_ok (v : Snp) (x : Int) (B : Nat) (w : World) (hB : B < w.heap.size) (hc : w.cell? ⟨B, 0, none⟩ = some (.int .i64 x)) :
    Calls Tryd.prog 51 #[.agg (encS v).toArray, .pointer (some ⟨B, 0, none⟩)] w fun e w' => e = .returned (.bool (v.num == x)) ∧ Below w.heap.size w w' := by
  obtain ⟨⟨id, ten, t, n, L⟩, fm⟩ := v
  have s := St.start (K0 := fun _ => none) (w := w) (fun _ _ h => by cases h)
  have Hc := Lib.hid hc
  clear hc
  show Calls Tryd.prog 51 #[.agg #[.int .i64 id, .int .i64 ten, .pointer t.ptr, .int .i64 n, .int .i64 fm], _] w _
  go_enter Tryd.func51, Tryd.ntmps51
  go_wp2_with (first
    | ((with_reducible refine gate_box (T := 64) (x := .tmp 0) ?_); refine wpList_boxG rfl rfl rfl (cs := #[.int .i64 id, .int .i64 ten, .pointer t.ptr, .int .i64 n, .int .i64 fm]) rfl ?_; intro g1 W1 e hn; have o1 := Own.made s e hn; replace s := s.new hn; clear e hn)
    | fail)
  refine wp_region_run (m := 5) (n := 9) (I := fun K2 W => St (fun _ => none) w K2 W ∧ Own w K2 W g1 (.cells #[.int .i64 id, .int .i64 ten, .pointer t.ptr, .int .i64 n, .int .i64 fm] 64 (0, 0))) (K0 := fun _ => none)
    (ws := [.is (.agg #[.int .i64 id, .int .i64 ten, .pointer t.ptr, .int .i64 n, .int .i64 fm]), .is (.iface 64 (.agg #[.int .i64 id, .int .i64 ten, .pointer t.ptr, .int .i64 n, .int .i64 fm])), .is (.int .i64 id), .is (.int .i64 x), .is (.bool (id == x))])
    mixed_ok (by kernel_rfl) rfl rfl ?mono ⟨s.drew, o1.drew⟩ ?_
  case mono =>
    simp only [List.forall_mem_cons]
    exact ⟨trivial, trivial, trivial, trivial, trivial, fun _ h => by cases h⟩
  apply RunAll.is_
  · intro K3 W3 hE3 hI3 hF3
    go_wp2_with (first | ((with_reducible refine gate_load (T := 64) ?_); refine wpList_load_row rfl 64 _ rfl _ rfl 64 _ _ _ hI3.2.at_ Tryd.underlying64 rfl (by kernel_rfl) ?_) | fail)
    exact step_end ⟨⟨K3, Ext.refl _, hI3⟩, rfl⟩
  · rfl
  apply RunAll.is_
  · intro K3 W3 hE3 hI3 hF3
    go_wp2
    exact step_end ⟨⟨K3, Ext.refl _, hI3⟩, rfl⟩
  · rfl
  apply RunAll.is_
  · intro K3 W3 hE3 hI3 hF3
    have hm := sMethod id ten n fm t.ptr
    go_wp2_with (first | (go_at_call 98; refine (number_ok id ten n t.ptr _).mono ?_; rintro e W4 ⟨rfl, hb⟩) | fail)
    exact step_end ⟨⟨K3, Ext.refl _, hI3.1.quiet hb, hI3.2.quiet hb⟩, rfl⟩
  · rfl
  apply RunAll.is_
  · intro K3 W3 hE3 hI3 hF3
    have c2 := (hI3.1.below.cell (p := ⟨B, 0, none⟩) hB).trans Hc.out
    go_wp2
    exact step_end ⟨⟨K3, Ext.refl _, hI3⟩, rfl⟩
  · rfl
  apply RunAll.is_
  · intro K3 W3 hE3 hI3 hF3
    go_wp2
    exact step_end ⟨⟨K3, Ext.refl _, hI3⟩, rfl⟩
  · rfl
  intro K3 W3 hE3 hI3 hF3
  go_wp2
  go_ret
  exact ⟨rfl, hI3.1.below⟩

theorem size_Snp : (Tryd.prog.info? 64).map (·.size) = some 5 := by kernel_rfl

set_option maxRecDepth 100000 in
theorem sIdx_ok (K : Fz) (sv : Value) (L : List Snp) (x : Int) (B : Nat) (w : World) (hK : K.In w) (hS : SlK K 5 encS sv L) (hlen : L.length ≤ 1000000) (hB : B < w.heap.size) (hc : w.cell? ⟨B, 0, none⟩ = some (.int .i64 x)) :
    Calls Tryd.prog 50 #[sv, .func (.func 51) #[] #[.pointer (some ⟨B, 0, none⟩)]] w fun e w' => e = .returned (.int .i64 (ixV Snp.num L x)) ∧ Below w.heap.size w w' := by
  obtain ⟨a, cap, rfl, hcap, hx⟩ := hS
  have s := St.start hK
  have Hc := Lib.hid hc
  have Hx := Lib.hid hx
  clear hx hc
  go_enter Tryd.func50, Tryd.ntmps50
  go_wp2
  go_loopw [8] (fun i wr => ∃ n : Nat, n ≤ L.length ∧ i = .int .i64 n ∧ St K w K wr ∧ Hid (∀ (j : Nat) (z : Snp), j < n → L[j]? = some z → z.num ≠ x)) (fun i _ => L.length - (intOf i).toNat)
  case atStart => exact ⟨0, by omega, rfl, s, Lib.hid fun j z hj => by omega⟩
  case round =>
    obtain ⟨n, hn, rfl, s1, hbef⟩ := hrel
    clear s
    by_cases hlt : n < L.length
    · obtain ⟨y, hyn⟩ : ∃ y, L[n]? = some y := ⟨_, List.getElem?_eq_getElem hlt⟩
      obtain ⟨b, off, cs, ty, fr, rfl, hkb, hj⟩ := Hx.out n y hyn
      have Hyn := Lib.hid hyn
      have Hj := Lib.hid hj
      clear hj hyn
      by_cases hge : y.num = x
      · have hq : Hid ((y.num == x) = true) := Lib.hid (by simp [hge])
        have Hge := Lib.hid hge
        clear hge
        go_wp2_with (first
          | ((with_reducible refine gate_load (T := 64) ?_); refine wpList_loadAgg (vs := encS y) (off := off + n * 5) rfl rfl rfl Tryd.underlying64 rfl (s1.inn.get hkb) (by rw [size_Snp]; rfl) (fun j u hu => Hj.out j u hu) ?_)
          | (go_at_call 51; refine (sAt1_ok y x B _ (Nat.lt_of_lt_of_le hB s1.size) ((s1.below.cell (p := ⟨B, 0, none⟩) hB).trans Hc.out)).mono ?_; rw [hq.out]; rintro e W4 ⟨rfl, hb⟩; replace s1 := s1.quiet hb; clear hb)
          | fail)
        go_ret
        have e := ixN_stop Snp.num hbef.out Hyn.out Hge.out
        exact ⟨by rw [ixV, e, if_pos hlt]; rfl, s1.below⟩
      · have hq : Hid ((y.num == x) = false) := Lib.hid (by simpa using hge)
        have Hge := Lib.hid hge
        clear hge
        go_wp2_with (first
          | ((with_reducible refine gate_load (T := 64) ?_); refine wpList_loadAgg (vs := encS y) (off := off + n * 5) rfl rfl rfl Tryd.underlying64 rfl (s1.inn.get hkb) (by rw [size_Snp]; rfl) (fun j u hu => Hj.out j u hu) ?_)
          | (go_at_call 51; refine (sAt1_ok y x B _ (Nat.lt_of_lt_of_le hB s1.size) ((s1.below.cell (p := ⟨B, 0, none⟩) hB).trans Hc.out)).mono ?_; rw [hq.out]; rintro e W4 ⟨rfl, hb⟩; replace s1 := s1.quiet hb; clear hb)
          | fail)
        go_roundw
        case rel =>
          refine ⟨n + 1, by omega, by go_num, s1, Lib.hid ?_⟩
          intro j z hj hz
          by_cases h : j < n
          · exact hbef.out j z h hz
          · obtain rfl : j = n := by omega
            rw [Hyn.out] at hz
            cases hz
            exact Hge.out
        case measure => simp [intOf]; omega
    · go_wp2
      go_ret
      obtain rfl : n = L.length := by omega
      have e := ixN_end Snp.num hbef.out
      exact ⟨by rw [ixV, e, if_neg (by omega)] <;> rfl, s1.below⟩

set_option maxRecDepth 100000 in
theorem sAt_ok (K : Fz) (sv : Value) (L : List Snp) (x : Int) (w : World) (hK : K.In w) (hS : SlK K 5 encS sv L) (hlen : L.length ≤ 1000000) :
    Calls Tryd.prog 25 #[sv, .int .i64 x] w fun e w' => e = .returned (.int .i64 (ixV Snp.num L x)) ∧ Below w.heap.size w w' := by
  have s := St.start hK
  have HS := Lib.hid hS
  clear hS
  go_enter Tryd.func25, Tryd.ntmps25
  go_wp2_with (first
    | ((with_reducible refine gate_box (T := 3) ?_); refine wpList_boxG rfl rfl rfl (cs := #[.int .i64 x]) rfl ?_; intro g1 W1 e hn; have o1 := Own.made s e hn; replace s := s.new hn; clear e hn)
    | (go_at_call 50; refine (sIdx_ok K sv L x g1 _ s.inn HS.out hlen o1.lt (cell_of_row _ _ 0 _ _ _ o1.at_)).mono ?_; rintro e W4 ⟨rfl, hb⟩; replace s := s.quiet hb; clear hb)
    | fail)
  go_ret
  exact ⟨rfl, s.below⟩

end Go.Proofs.YtdaagmhkhfcmdaaDoor
/- Look and Get. -/
namespace Go.Proofs.YtdaagmhkhfcmdaaDoor
open Go Go.RowKit
set_option maxHeartbeats 400000

/-- The block of a snapshot's tree. -/
def Spc.look (S : Spc) (x blk : Int) : Int × Int := match S.ss[ixN Snp.num S.ss x]? with
  | some s => s.t.at_ blk
  | none => (0, 12)

theorem vget_at (K : Fz) (t : PT) (n blk : Int) (r : Int × Int) (w : World) (hr : t.at_ blk = r) (hK : K.In w) (ht : Tr 122 K t) :
    Calls Tryd.prog 30 #[.agg #[.pointer t.ptr, .int .i64 n], .int .i64 blk] w fun e w' => e = .returned (.tuple #[.int .i64 r.1, .int .i64 r.2]) ∧ Below w.heap.size w w' := by
  subst hr; exact vget_ok K t n blk w hK ht

set_option maxRecDepth 100000 in
theorem Look_ok (K : Fz) (v : Value) (S : Spc) (x blk : Int) (w : World) (hK : K.In w) (hS : SpK K v S) (hlen : S.ss.length ≤ 1000000) :
    Calls Tryd.prog 12 #[v, .int .i64 x, .int .i64 blk] w fun e w' => e = .returned (intErr (S.look x blk)) ∧ Below w.heap.size w w' := by
  obtain ⟨g, T, sv, ss, rfl, hb, h1, h2, h3, h4, f1, f2⟩ := hS
  have s := St.start hK
  have Hat := Lib.hid fun W (hW : K.In W) => sAt_ok K ss S.ss x W hW h2 hlen
  clear h1 h3
  obtain ⟨a, cap, rfl, hcap, hx⟩ := h2
  have hle := ixN_le Snp.num S.ss x
  obtain ⟨n, hn⟩ : ∃ n, ixN Snp.num S.ss x = n := ⟨_, rfl⟩
  rw [hn] at hle
  by_cases hlt : n < S.ss.length
  · obtain ⟨y, hyn⟩ : ∃ y, S.ss[n]? = some y := ⟨_, List.getElem?_eq_getElem hlt⟩
    obtain ⟨r, hr⟩ : ∃ r, y.t.at_ blk = r := ⟨_, rfl⟩
    have hl : Hid (S.look x blk = r) := Lib.hid (by rw [Spc.look, hn, hyn, ← hr])
    have hv : Hid (ixV Snp.num S.ss x = (n : Int)) := Lib.hid (by rw [ixV, hn, if_pos hlt])
    obtain ⟨b, off, cs, ty, fr, rfl, hkb, hj⟩ := hx n y hyn
    have Hj : Hid (∀ (j : Nat) (u : Value), [Value.pointer y.t.ptr, .int .i64 y.n][j]? = some u → cs[off + n * 5 + 2 + j]? = some u) := Lib.hid (by
      intro j u hu
      have := hj (j + 2) u (by
        rcases j with _ | _ | j
        · exact hu
        · exact hu
        · simp at hu)
      rw [← this]
      congr 1
      omega)
    have Ht := Lib.hid fun W (hW : K.In W) => vget_at K y.t y.n blk r W hr hW (h4 y (List.mem_of_getElem? hyn))
    clear hj hyn hx h4 hn hr
    go_enter Tryd.func12, Tryd.ntmps12
    go_wp2_with (first
      | ((with_reducible refine gate_load (T := 48) ?_); refine wpList_loadCell rfl rfl rfl Tryd.underlying48 rfl (s.inn.get hb) rfl ?_)
      | (go_at_call 25; refine (Hat.out _ s.inn).mono ?_; rw [hv.out]; rintro e W4 ⟨rfl, hb4⟩; replace s := s.quiet hb4; clear hb4)
      | ((with_reducible refine gate_load (T := 60) ?_); refine wpList_loadAgg (vs := [.pointer y.t.ptr, .int .i64 y.n]) (off := off + n * 5 + 2) rfl rfl rfl Tryd.underlying60 rfl (s.inn.get hkb) (by rw [size_Tree]; rfl) (fun j u hu => Hj.out j u hu) ?_)
      | (go_at_call 30; refine (Ht.out _ s.inn).mono ?_; rintro e W5 ⟨rfl, hb4⟩; replace s := s.quiet hb4; clear hb4)
      | fail)
    go_ret2
    exact ⟨by rw [hl.out]; rfl, s.below⟩
  · have hl : Hid (S.look x blk = (0, 12)) := Lib.hid (by rw [Spc.look, hn, List.getElem?_eq_none (by omega)])
    have hv : Hid (ixV Snp.num S.ss x = -1) := Lib.hid (by rw [ixV, hn, if_neg hlt])
    clear hx h4 hn
    go_enter Tryd.func12, Tryd.ntmps12
    go_wp2_with (first
      | ((with_reducible refine gate_load (T := 48) ?_); refine wpList_loadCell rfl rfl rfl Tryd.underlying48 rfl (s.inn.get hb) rfl ?_)
      | (go_at_call 25; refine (Hat.out _ s.inn).mono ?_; rw [hv.out]; rintro e W4 ⟨rfl, hb4⟩; replace s := s.quiet hb4; clear hb4)
      | fail)
    go_ret2
    exact ⟨by rw [hl.out]; rfl, s.below⟩

/-- The block of a volume's tree. -/
def Spc.got (S : Spc) (x blk : Int) : Int × Int := match S.vs[ixN Vol.id S.vs x]? with
  | some s => s.t.at_ blk
  | none => (0, 12)

set_option maxRecDepth 100000 in
theorem Get_ok (K : Fz) (v : Value) (S : Spc) (x blk : Int) (w : World) (hK : K.In w) (hS : SpK K v S) (hlen : S.vs.length ≤ 1000000) :
    Calls Tryd.prog 13 #[v, .int .i64 x, .int .i64 blk] w fun e w' => e = .returned (intErr (S.got x blk)) ∧ Below w.heap.size w w' := by
  obtain ⟨g, T, sv, ss, rfl, hb, h1, h2, h3, h4, f1, f2⟩ := hS
  have s := St.start hK
  have Hat := Lib.hid fun W (hW : K.In W) => vAt_ok K sv S.vs x W hW h1 hlen
  clear h2 h4
  obtain ⟨a, cap, rfl, hcap, hx⟩ := h1
  have hle := ixN_le Vol.id S.vs x
  obtain ⟨n, hn⟩ : ∃ n, ixN Vol.id S.vs x = n := ⟨_, rfl⟩
  rw [hn] at hle
  by_cases hlt : n < S.vs.length
  · obtain ⟨y, hyn⟩ : ∃ y, S.vs[n]? = some y := ⟨_, List.getElem?_eq_getElem hlt⟩
    obtain ⟨r, hr⟩ : ∃ r, y.t.at_ blk = r := ⟨_, rfl⟩
    have hl : Hid (S.got x blk = r) := Lib.hid (by rw [Spc.got, hn, hyn, ← hr])
    have hv : Hid (ixV Vol.id S.vs x = (n : Int)) := Lib.hid (by rw [ixV, hn, if_pos hlt])
    obtain ⟨b, off, cs, ty, fr, rfl, hkb, hj⟩ := hx n y hyn
    have Hj : Hid (∀ (j : Nat) (u : Value), [Value.pointer y.t.ptr, .int .i64 y.n][j]? = some u → cs[off + n * 4 + 2 + j]? = some u) := Lib.hid (by
      intro j u hu
      have := hj (j + 2) u (by
        rcases j with _ | _ | j
        · exact hu
        · exact hu
        · simp at hu)
      rw [← this]
      congr 1
      omega)
    have Ht := Lib.hid fun W (hW : K.In W) => vget_at K y.t y.n blk r W hr hW (h3 y (List.mem_of_getElem? hyn))
    clear hj hyn hx h3 hn hr
    go_enter Tryd.func13, Tryd.ntmps13
    go_wp2_with (first
      | ((with_reducible refine gate_load (T := 47) ?_); refine wpList_loadCell rfl rfl rfl Tryd.underlying47 rfl (s.inn.get hb) rfl ?_)
      | (go_at_call 27; refine (Hat.out _ s.inn).mono ?_; rw [hv.out]; rintro e W4 ⟨rfl, hb4⟩; replace s := s.quiet hb4; clear hb4)
      | ((with_reducible refine gate_load (T := 60) ?_); refine wpList_loadAgg (vs := [.pointer y.t.ptr, .int .i64 y.n]) (off := off + n * 4 + 2) rfl rfl rfl Tryd.underlying60 rfl (s.inn.get hkb) (by rw [size_Tree]; rfl) (fun j u hu => Hj.out j u hu) ?_)
      | (go_at_call 30; refine (Ht.out _ s.inn).mono ?_; rintro e W5 ⟨rfl, hb4⟩; replace s := s.quiet hb4; clear hb4)
      | fail)
    go_ret2
    exact ⟨by rw [hl.out]; rfl, s.below⟩
  · have hl : Hid (S.got x blk = (0, 12)) := Lib.hid (by rw [Spc.got, hn, List.getElem?_eq_none (by omega)])
    have hv : Hid (ixV Vol.id S.vs x = -1) := Lib.hid (by rw [ixV, hn, if_neg hlt])
    clear hx h3 hn
    go_enter Tryd.func13, Tryd.ntmps13
    go_wp2_with (first
      | ((with_reducible refine gate_load (T := 47) ?_); refine wpList_loadCell rfl rfl rfl Tryd.underlying47 rfl (s.inn.get hb) rfl ?_)
      | (go_at_call 27; refine (Hat.out _ s.inn).mono ?_; rw [hv.out]; rintro e W4 ⟨rfl, hb4⟩; replace s := s.quiet hb4; clear hb4)
      | fail)
    go_ret2
    exact ⟨by rw [hl.out]; rfl, s.below⟩

end Go.Proofs.YtdaagmhkhfcmdaaDoor
