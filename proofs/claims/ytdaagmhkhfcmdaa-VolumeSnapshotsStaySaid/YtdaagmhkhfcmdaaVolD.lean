/- at: at snapshots. Written by gen_VolD.py. -/
import Derived.Test.YtdaagmhkhfcmdaaVolC
namespace Go.Proofs.Ytdaagmhkhfcmdaa
open Go Go.RowKit
set_option maxHeartbeats 400000

abbrev Snp.num (s : Snp) : Int := s.id

set_option maxRecDepth 100000 in
/-- The closure of at: is the number of this volume the one looked for? -/
theorem sAt1_ok (v : Snp) (x : Int) (B : Nat) (w : World) (hB : B < w.heap.size) (hc : w.cell? ⟨B, 0, none⟩ = some (.int .i64 x)) :
    Calls Try.prog 84 #[.agg (encS v).toArray, .pointer (some ⟨B, 0, none⟩)] w fun e w' => e = .returned (.bool (v.num == x)) ∧ Below w.heap.size w w' := by
  obtain ⟨⟨id, ten, t, n, L⟩, fm⟩ := v
  have s := St.start (K0 := fun _ => none) (w := w) (fun _ _ h => by cases h)
  have Hc := Lib.hid hc
  clear hc
  show Calls Try.prog 84 #[.agg #[.int .i64 id, .int .i64 ten, .pointer t.ptr, .int .i64 n, .int .i64 fm], _] w _
  go_enter Try.func84, Try.ntmps84
  go_wp2_with (first
    | ((with_reducible refine gate_box (T := 98) (x := .tmp 0) ?_); refine wpList_boxG rfl rfl rfl (cs := #[.int .i64 id, .int .i64 ten, .pointer t.ptr, .int .i64 n, .int .i64 fm]) rfl ?_; intro g1 W1 e hn; have o1 := Own.made s e hn; replace s := s.new hn; clear e hn)
    | fail)
  refine wp_region_run (m := 5) (n := 9) (I := fun K2 W => St (fun _ => none) w K2 W ∧ Own w K2 W g1 (.cells #[.int .i64 id, .int .i64 ten, .pointer t.ptr, .int .i64 n, .int .i64 fm] 98 (0, 0))) (K0 := fun _ => none)
    (ws := [.is (.agg #[.int .i64 id, .int .i64 ten, .pointer t.ptr, .int .i64 n, .int .i64 fm]), .is (.iface 98 (.agg #[.int .i64 id, .int .i64 ten, .pointer t.ptr, .int .i64 n, .int .i64 fm])), .is (.int .i64 id), .is (.int .i64 x), .is (.bool (id == x))])
    mixed_ok (by kernel_rfl) rfl rfl ?mono ⟨s.drew, o1.drew⟩ ?_
  case mono =>
    simp only [List.forall_mem_cons]
    exact ⟨trivial, trivial, trivial, trivial, trivial, fun _ h => by cases h⟩
  apply RunAll.is_
  · intro K3 W3 hE3 hI3 hF3
    go_wp2_with (first | ((with_reducible refine gate_load (T := 98) ?_); refine wpList_load_row rfl 98 _ rfl _ rfl 98 _ _ _ hI3.2.at_ Try.underlying98 rfl (by kernel_rfl) ?_) | fail)
    exact step_end ⟨⟨K3, Ext.refl _, hI3⟩, rfl⟩
  · rfl
  apply RunAll.is_
  · intro K3 W3 hE3 hI3 hF3
    go_wp2
    exact step_end ⟨⟨K3, Ext.refl _, hI3⟩, rfl⟩
  · rfl
  apply RunAll.is_
  · intro K3 W3 hE3 hI3 hF3
    have hm := sMethod id ten n fm t.ptr
    go_wp2_with (first | (go_at_call 123; refine (number_ok id ten n t.ptr _).mono ?_; rintro e W4 ⟨rfl, hb⟩) | fail)
    exact step_end ⟨⟨K3, Ext.refl _, hI3.1.quiet hb, hI3.2.quiet hb⟩, rfl⟩
  · rfl
  apply RunAll.is_
  · intro K3 W3 hE3 hI3 hF3
    have c2 := (hI3.1.below.cell (p := ⟨B, 0, none⟩) hB).trans Hc.out
    go_wp2
    exact step_end ⟨⟨K3, Ext.refl _, hI3⟩, rfl⟩
  · rfl
  apply RunAll.is_
  · intro K3 W3 hE3 hI3 hF3
    go_wp2
    exact step_end ⟨⟨K3, Ext.refl _, hI3⟩, rfl⟩
  · rfl
  intro K3 W3 hE3 hI3 hF3
  go_wp2
  go_ret
  exact ⟨rfl, hI3.1.below⟩

theorem size_Snp : (Try.prog.info? 98).map (·.size) = some 5 := by kernel_rfl

set_option maxRecDepth 100000 in
theorem sIdx_ok (K : Fz) (sv : Value) (L : List Snp) (x : Int) (B : Nat) (w : World) (hK : K.In w) (hS : SlK K 5 encS sv L) (hlen : L.length ≤ 1000000) (hB : B < w.heap.size) (hc : w.cell? ⟨B, 0, none⟩ = some (.int .i64 x)) :
    Calls Try.prog 83 #[sv, .func (.func 84) #[] #[.pointer (some ⟨B, 0, none⟩)]] w fun e w' => e = .returned (.int .i64 (ixV Snp.num L x)) ∧ Below w.heap.size w w' := by
  obtain ⟨a, cap, rfl, hcap, hx⟩ := hS
  have s := St.start hK
  have Hc := Lib.hid hc
  have Hx := Lib.hid hx
  clear hx hc
  go_enter Try.func83, Try.ntmps83
  go_wp2
  go_loopw [8] (fun i wr => ∃ n : Nat, n ≤ L.length ∧ i = .int .i64 n ∧ St K w K wr ∧ Hid (∀ (j : Nat) (z : Snp), j < n → L[j]? = some z → z.num ≠ x)) (fun i _ => L.length - (intOf i).toNat)
  case atStart => exact ⟨0, by omega, rfl, s, Lib.hid fun j z hj => by omega⟩
  case round =>
    obtain ⟨n, hn, rfl, s1, hbef⟩ := hrel
    clear s
    by_cases hlt : n < L.length
    · obtain ⟨y, hyn⟩ : ∃ y, L[n]? = some y := ⟨_, List.getElem?_eq_getElem hlt⟩
      obtain ⟨b, off, cs, ty, fr, rfl, hkb, hj⟩ := Hx.out n y hyn
      have Hyn := Lib.hid hyn
      have Hj := Lib.hid hj
      clear hj hyn
      by_cases hge : y.num = x
      · have hq : Hid ((y.num == x) = true) := Lib.hid (by simp [hge])
        have Hge := Lib.hid hge
        clear hge
        go_wp2_with (first
          | ((with_reducible refine gate_load (T := 98) ?_); refine wpList_loadAgg (vs := encS y) (off := off + n * 5) rfl rfl rfl Try.underlying98 rfl (s1.inn.get hkb) (by rw [size_Snp]; rfl) (fun j u hu => Hj.out j u hu) ?_)
          | (go_at_call 84; refine (sAt1_ok y x B _ (Nat.lt_of_lt_of_le hB s1.size) ((s1.below.cell (p := ⟨B, 0, none⟩) hB).trans Hc.out)).mono ?_; rw [hq.out]; rintro e W4 ⟨rfl, hb⟩; replace s1 := s1.quiet hb; clear hb)
          | fail)
        go_ret
        have e := ixN_stop Snp.num hbef.out Hyn.out Hge.out
        exact ⟨by rw [ixV, e, if_pos hlt]; rfl, s1.below⟩
      · have hq : Hid ((y.num == x) = false) := Lib.hid (by simpa using hge)
        have Hge := Lib.hid hge
        clear hge
        go_wp2_with (first
          | ((with_reducible refine gate_load (T := 98) ?_); refine wpList_loadAgg (vs := encS y) (off := off + n * 5) rfl rfl rfl Try.underlying98 rfl (s1.inn.get hkb) (by rw [size_Snp]; rfl) (fun j u hu => Hj.out j u hu) ?_)
          | (go_at_call 84; refine (sAt1_ok y x B _ (Nat.lt_of_lt_of_le hB s1.size) ((s1.below.cell (p := ⟨B, 0, none⟩) hB).trans Hc.out)).mono ?_; rw [hq.out]; rintro e W4 ⟨rfl, hb⟩; replace s1 := s1.quiet hb; clear hb)
          | fail)
        go_roundw
        case rel =>
          refine ⟨n + 1, by omega, by go_num, s1, Lib.hid ?_⟩
          intro j z hj hz
          by_cases h : j < n
          · exact hbef.out j z h hz
          · obtain rfl : j = n := by omega
            rw [Hyn.out] at hz
            cases hz
            exact Hge.out
        case measure => simp [intOf]; omega
    · go_wp2
      go_ret
      obtain rfl : n = L.length := by omega
      have e := ixN_end Snp.num hbef.out
      exact ⟨by rw [ixV, e, if_neg (by omega)] <;> rfl, s1.below⟩

set_option maxRecDepth 100000 in
theorem sAt_ok (K : Fz) (sv : Value) (L : List Snp) (x : Int) (w : World) (hK : K.In w) (hS : SlK K 5 encS sv L) (hlen : L.length ≤ 1000000) :
    Calls Try.prog 48 #[sv, .int .i64 x] w fun e w' => e = .returned (.int .i64 (ixV Snp.num L x)) ∧ Below w.heap.size w w' := by
  have s := St.start hK
  have HS := Lib.hid hS
  clear hS
  go_enter Try.func48, Try.ntmps48
  go_wp2_with (first
    | ((with_reducible refine gate_box (T := 3) ?_); refine wpList_boxG rfl rfl rfl (cs := #[.int .i64 x]) rfl ?_; intro g1 W1 e hn; have o1 := Own.made s e hn; replace s := s.new hn; clear e hn)
    | (go_at_call 83; refine (sIdx_ok K sv L x g1 _ s.inn HS.out hlen o1.lt (cell_of_row _ _ 0 _ _ _ o1.at_)).mono ?_; rintro e W4 ⟨rfl, hb⟩; replace s := s.quiet hb; clear hb)
    | fail)
  go_ret
  exact ⟨rfl, s.below⟩

end Go.Proofs.Ytdaagmhkhfcmdaa
