/- at: slices.IndexFunc at volumes and at snapshots. -/
import Derived.Test.YtdaagmhkhfcmdaaVolB
namespace Go.Proofs.Ytdaagmhkhfcmdaa
open Go Go.RowKit
set_option maxHeartbeats 400000

theorem size_Vol : (Try.prog.info? 90).map (·.size) = some 4 := by kernel_rfl

set_option maxRecDepth 100000 in
theorem vIdx_ok (K : Fz) (sv : Value) (L : List Vol) (x : Int) (B : Nat) (w : World) (hK : K.In w) (hS : SlK K 4 encV sv L) (hlen : L.length ≤ 1000000) (hB : B < w.heap.size) (hc : w.cell? ⟨B, 0, none⟩ = some (.int .i64 x)) :
    Calls Try.prog 80 #[sv, .func (.func 81) #[] #[.pointer (some ⟨B, 0, none⟩)]] w fun e w' => e = .returned (.int .i64 (ixV Vol.id L x)) ∧ Below w.heap.size w w' := by
  obtain ⟨a, cap, rfl, hcap, hx⟩ := hS
  have s := St.start hK
  have Hc := Lib.hid hc
  have Hx := Lib.hid hx
  clear hx hc
  go_enter Try.func80, Try.ntmps80
  go_wp2
  go_loopw [8] (fun i wr => ∃ n : Nat, n ≤ L.length ∧ i = .int .i64 n ∧ St K w K wr ∧ Hid (∀ (j : Nat) (z : Vol), j < n → L[j]? = some z → z.id ≠ x)) (fun i _ => L.length - (intOf i).toNat)
  case atStart => exact ⟨0, by omega, rfl, s, Lib.hid fun j z hj => by omega⟩
  case round =>
    obtain ⟨n, hn, rfl, s1, hbef⟩ := hrel
    clear s
    by_cases hlt : n < L.length
    · obtain ⟨y, hyn⟩ : ∃ y, L[n]? = some y := ⟨_, List.getElem?_eq_getElem hlt⟩
      obtain ⟨b, off, cs, ty, fr, rfl, hkb, hj⟩ := Hx.out n y hyn
      have Hyn := Lib.hid hyn
      have Hj := Lib.hid hj
      clear hj hyn
      by_cases hge : y.id = x
      · have hq : Hid ((y.id == x) = true) := Lib.hid (by simp [hge])
        have Hge := Lib.hid hge
        clear hge
        go_wp2_with (first
          | ((with_reducible refine gate_load (T := 90) ?_); refine wpList_loadAgg (vs := encV y) (off := off + n * 4) rfl rfl rfl Try.underlying90 rfl (s1.inn.get hkb) (by rw [size_Vol]; rfl) (fun j u hu => Hj.out j u hu) ?_)
          | (go_at_call 81; refine (vAt1_ok y x B _ (Nat.lt_of_lt_of_le hB s1.size) ((s1.below.cell (p := ⟨B, 0, none⟩) hB).trans Hc.out)).mono ?_; rw [hq.out]; rintro e W4 ⟨rfl, hb⟩; replace s1 := s1.quiet hb; clear hb)
          | fail)
        go_ret
        have e := ixN_stop Vol.id hbef.out Hyn.out Hge.out
        exact ⟨by rw [ixV, e, if_pos hlt]; rfl, s1.below⟩
      · have hq : Hid ((y.id == x) = false) := Lib.hid (by simpa using hge)
        have Hge := Lib.hid hge
        clear hge
        go_wp2_with (first
          | ((with_reducible refine gate_load (T := 90) ?_); refine wpList_loadAgg (vs := encV y) (off := off + n * 4) rfl rfl rfl Try.underlying90 rfl (s1.inn.get hkb) (by rw [size_Vol]; rfl) (fun j u hu => Hj.out j u hu) ?_)
          | (go_at_call 81; refine (vAt1_ok y x B _ (Nat.lt_of_lt_of_le hB s1.size) ((s1.below.cell (p := ⟨B, 0, none⟩) hB).trans Hc.out)).mono ?_; rw [hq.out]; rintro e W4 ⟨rfl, hb⟩; replace s1 := s1.quiet hb; clear hb)
          | fail)
        go_roundw
        case rel =>
          refine ⟨n + 1, by omega, by go_num, s1, Lib.hid ?_⟩
          intro j z hj hz
          by_cases h : j < n
          · exact hbef.out j z h hz
          · obtain rfl : j = n := by omega
            rw [Hyn.out] at hz
            cases hz
            exact Hge.out
        case measure => simp [intOf]; omega
    · go_wp2
      go_ret
      obtain rfl : n = L.length := by omega
      have e := ixN_end Vol.id hbef.out
      exact ⟨by rw [ixV, e, if_neg (by omega)] <;> rfl, s1.below⟩

set_option maxRecDepth 100000 in
theorem vAt_ok (K : Fz) (sv : Value) (L : List Vol) (x : Int) (w : World) (hK : K.In w) (hS : SlK K 4 encV sv L) (hlen : L.length ≤ 1000000) :
    Calls Try.prog 42 #[sv, .int .i64 x] w fun e w' => e = .returned (.int .i64 (ixV Vol.id L x)) ∧ Below w.heap.size w w' := by
  have s := St.start hK
  have HS := Lib.hid hS
  clear hS
  go_enter Try.func42, Try.ntmps42
  go_wp2_with (first
    | ((with_reducible refine gate_box (T := 3) ?_); refine wpList_boxG rfl rfl rfl (cs := #[.int .i64 x]) rfl ?_; intro g1 W1 e hn; have o1 := Own.made s e hn; replace s := s.new hn; clear e hn)
    | (go_at_call 80; refine (vIdx_ok K sv L x g1 _ s.inn HS.out hlen o1.lt (cell_of_row _ _ 0 _ _ _ o1.at_)).mono ?_; rintro e W4 ⟨rfl, hb⟩; replace s := s.quiet hb; clear hb)
    | fail)
  go_ret
  exact ⟨rfl, s.below⟩

end Go.Proofs.Ytdaagmhkhfcmdaa
