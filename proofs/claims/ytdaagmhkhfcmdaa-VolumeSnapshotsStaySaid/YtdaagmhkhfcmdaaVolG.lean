/- free: the first number that is not in use. -/
import Derived.Test.YtdaagmhkhfcmdaaVolF
namespace Go.Proofs.Ytdaagmhkhfcmdaa
open Go Go.RowKit
set_option maxHeartbeats 400000

theorem zero_Snp (w : World) : (zeroValue 98).run Try.prog w = .ok (.agg #[.int .i64 0, .int .i64 0, .pointer none, .int .i64 0, .int .i64 0]) w := by kernel_rfl

set_option maxRecDepth 100000 in
theorem sFree_ok (K : Fz) (sv : Value) (L : List Snp) (w : World) (hK : K.In w) (hS : SlK K 5 encS sv L) (hlen : L.length ≤ 1000000) :
    Calls Try.prog 69 #[sv] w fun e w' => e = .returned (.int .i64 (frN Snp.num L 0 : Nat)) ∧ Below w.heap.size w w' := by
  obtain ⟨a, cap, rfl, hcap, hx⟩ := hS
  have s := St.start hK
  have Hx := Lib.hid hx
  clear hx
  go_enter Try.func69, Try.ntmps69
  go_wp2
  go_loopw [7] (fun i wr => ∃ n : Nat, n ≤ L.length ∧ i = .int .i64 n ∧ St K w K wr ∧ Hid (∀ (j : Nat) (z : Snp), j < n → L[j]? = some z → z.num = ((0 + j : Nat) : Int))) (fun i _ => L.length - (intOf i).toNat)
  case atStart => exact ⟨0, by omega, rfl, s, Lib.hid fun j z hj => by omega⟩
  case round =>
    obtain ⟨n, hn, rfl, s1, hbef⟩ := hrel
    clear s
    by_cases hlt : n < L.length
    · obtain ⟨y, hyn⟩ : ∃ y, L[n]? = some y := ⟨_, List.getElem?_eq_getElem hlt⟩
      obtain ⟨b, off, cs, ty, fr, rfl, hkb, hj⟩ := Hx.out n y hyn
      have Hyn := Lib.hid hyn
      have hj2 : ∀ (j : Nat) (u : Value), ([.int .i64 y.id, .int .i64 y.ten, .pointer y.t.ptr, .int .i64 y.n, .int .i64 y.from_] : List Value)[j]? = some u → cs[off + n * 5 + j]? = some u := hj
      obtain ⟨yi, hyi⟩ : ∃ q, y.id = q := ⟨_, rfl⟩
      generalize y.ten = yt at hj2
      generalize y.t.ptr = yp at hj2
      generalize y.n = yn at hj2
      generalize y.from_ = yf at hj2
      rw [hyi] at hj2
      have Hj := Lib.hid hj2
      have Hyi := Lib.hid hyi
      have hm := sMethod yi yt yn yf yp
      clear hj hj2 hyn hyi
      by_cases hge : yi = (n : Int)
      · subst hge
        go_wp2_with (first
          | ((with_reducible refine gate_load (T := 98) (x := .tmp 10) ?_); refine wpList_loadAgg (vs := [.int .i64 (n : Int), .int .i64 yt, .pointer yp, .int .i64 yn, .int .i64 yf]) (off := off + n * 5) rfl rfl rfl Try.underlying98 rfl (s1.inn.get hkb) (by rw [size_Snp]; rfl) (fun j u hu => Hj.out j u hu) ?_)
          | ((with_reducible refine gate_alloc (T := 98) ?_); refine wpList_allocG rfl rfl zero_Snp (cs := #[.int .i64 0, .int .i64 0, .pointer none, .int .i64 0, .int .i64 0]) rfl ?_; intro g1 W1 e hn; have o1 := Own.made s1 e hn; replace s1 := s1.new hn; clear e hn)
          | ((with_reducible refine gate_store (T := 98) ?_); refine wpList_storeAll rfl rfl rfl rfl (cs := #[.int .i64 (n : Int), .int .i64 yt, .pointer yp, .int .i64 yn, .int .i64 yf]) rfl o1.at_ rfl (by rw [size_Snp]; rfl) (by simp [Value.oneCell']) ?_; intro W3 hu; replace s1 := s1.upd o1 hu; replace o1 := o1.upd hu; clear hu)
          | ((with_reducible refine gate_load (T := 98) (x := .tmp 4) ?_); refine wpList_load_row rfl 98 _ rfl _ rfl 98 _ _ _ o1.at_ Try.underlying98 rfl (by kernel_rfl) ?_)
          | (go_at_call 123; refine (number_ok (n : Int) yt yn yp _).mono ?_; rintro e W4 ⟨rfl, hb⟩; replace s1 := s1.quiet hb; clear hb)
          | fail)
        go_roundw
        case rel =>
          refine ⟨n + 1, by omega, by go_num, s1, Lib.hid ?_⟩
          intro j z hj hz
          by_cases h : j < n
          · exact hbef.out j z h hz
          · obtain rfl : j = n := by omega
            rw [Hyn.out] at hz
            cases hz
            rw [Nat.zero_add]
            exact Hyi.out
        case measure => simp [intOf]; omega
      · go_wp2_with (first
          | ((with_reducible refine gate_load (T := 98) (x := .tmp 10) ?_); refine wpList_loadAgg (vs := [.int .i64 yi, .int .i64 yt, .pointer yp, .int .i64 yn, .int .i64 yf]) (off := off + n * 5) rfl rfl rfl Try.underlying98 rfl (s1.inn.get hkb) (by rw [size_Snp]; rfl) (fun j u hu => Hj.out j u hu) ?_)
          | ((with_reducible refine gate_alloc (T := 98) ?_); refine wpList_allocG rfl rfl zero_Snp (cs := #[.int .i64 0, .int .i64 0, .pointer none, .int .i64 0, .int .i64 0]) rfl ?_; intro g1 W1 e hn; have o1 := Own.made s1 e hn; replace s1 := s1.new hn; clear e hn)
          | ((with_reducible refine gate_store (T := 98) ?_); refine wpList_storeAll rfl rfl rfl rfl (cs := #[.int .i64 yi, .int .i64 yt, .pointer yp, .int .i64 yn, .int .i64 yf]) rfl o1.at_ rfl (by rw [size_Snp]; rfl) (by simp [Value.oneCell']) ?_; intro W3 hu; replace s1 := s1.upd o1 hu; replace o1 := o1.upd hu; clear hu)
          | ((with_reducible refine gate_load (T := 98) (x := .tmp 4) ?_); refine wpList_load_row rfl 98 _ rfl _ rfl 98 _ _ _ o1.at_ Try.underlying98 rfl (by kernel_rfl) ?_)
          | (go_at_call 123; refine (number_ok yi yt yn yp _).mono ?_; rintro e W4 ⟨rfl, hb⟩; replace s1 := s1.quiet hb; clear hb)
          | fail)
        go_ret
        have e := frN_stop Snp.num (k := 0) hbef.out Hyn.out (by rw [Nat.zero_add]; show y.id ≠ _; rw [Hyi.out]; exact hge)
        exact ⟨by rw [e]; rfl, s1.below⟩
    · go_wp2
      go_ret
      obtain rfl : n = L.length := by omega
      have e := frN_end Snp.num (k := 0) hbef.out
      exact ⟨by rw [e] <;> rfl, s1.below⟩

end Go.Proofs.Ytdaagmhkhfcmdaa
