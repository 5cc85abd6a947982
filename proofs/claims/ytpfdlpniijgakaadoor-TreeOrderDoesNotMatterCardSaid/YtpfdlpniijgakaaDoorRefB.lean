/- What Range and All of the specification do. -/
import Derived.Test.YtpfdlpniijgakaaDoorRefA
namespace Go.Proofs.YtpfdlpniijgakaaDoor
open Go Go.RowKit
set_option maxHeartbeats 400000

def inR (f t : Int) (x : Int × Int) : Bool := decide (f ≤ x.1) && decide (x.1 < t)
theorem info_ent : (Tryd.prog.info? 59).map (fun i => (i.zero, i.size, i.bytes)) = some (some (.agg #[.int .i64 0, .int .i64 0]), 2, 16) := by kernel_rfl
theorem encE_len (x : Int × Int) : (encE x).length = 2 := rfl
theorem filter_take (p : Int × Int → Bool) (L : Ents) (n : Nat) (x : Int × Int) (h : L[n]? = some x) : (L.take (n + 1)).filter p = (L.take n).filter p ++ (if p x then [x] else []) := by
  rw [List.take_add_one, h]
  simp [List.filter_append]
  split <;> simp_all
theorem encE_one (x : Int × Int) : ∀ u ∈ encE x, u.oneCell' = true := by simp [encE, Value.oneCell']

set_option maxRecDepth 100000 in
theorem rRange_ok (K : Fz) (sv : Value) (L : Ents) (f t : Int) (w : World) (hK : K.In w) (hS : SlK K 2 encE sv L) (hlen : L.length ≤ 1000000) :
    Calls Tryd.prog 26 #[.agg #[sv], .int .i64 f, .int .i64 t] w (Ret K w fun K' v => SlK K' 2 encE v (L.filter (inR f t)) ∧ Ext K K') := by
  obtain ⟨a, cap, rfl, hcap, hx⟩ := hS
  have s := St.start hK
  have Hx := Lib.hid hx
  clear hx
  go_enter Tryd.func26, Tryd.ntmps26
  go_wp2_with (first
    | ((with_reducible refine gate_box (T := 35) (x := .tmp 0) ?_); refine wpList_boxG rfl rfl rfl (cs := #[.slice a L.length cap]) rfl ?_; intro g1 W1 e hn; have o1 := Own.made s e hn; replace s := s.new hn; clear e hn)
    | fail)
  go_loopw [7, 8] (fun v i wr => ∃ n : Nat, n ≤ L.length ∧ i = .int .i64 n ∧ St K w K wr ∧ Own w K wr g1 (.cells #[.slice a L.length cap] 35 (0, 0)) ∧
      Row w K wr 59 2 v ((L.take n).filter (inR f t)).length (((L.take n).filter (inR f t)).flatMap encE) ∧ v.ownBlock ≠ some g1 ∧ ∃ a n c, v = .slice a n c) (fun _ i _ => L.length - (intOf i).toNat)
  case atStart => exact ⟨0, by omega, rfl, s, o1, by simpa using Row.nil _ _ _ _ _, by rintro ⟨⟩, _, _, _, rfl⟩
  case round =>
    clear s o1
    obtain ⟨n, hn, rfl, s, o1, rw, hne, va, vn, vc, rfl⟩ := hrel
    have c1 := cell_of_row _ _ 0 _ _ _ o1.at_
    simp only [List.getElem?_toArray, List.getElem?_cons_zero] at c1
    by_cases hlt : n < L.length
    · obtain ⟨x, hxn⟩ : ∃ x, L[n]? = some x := ⟨_, List.getElem?_eq_getElem hlt⟩
      obtain ⟨b, off, cs, ty, fr, rfl, hkb, hj⟩ := Hx.out n x hxn
      have c2 := (s.inn.cell hkb (off + n * 2)).trans (hj 0 _ rfl)
      have hf := Lib.hid (filter_take (inR f t) L n x hxn)
      have Hj := Lib.hid hj
      have hml : ((L.take n).filter (inR f t)).length ≤ 1000000 := Nat.le_trans (List.length_filter_le _ _) (by simp; omega)
      clear hxn hj
      by_cases h1 : f ≤ x.1
      · by_cases h2 : x.1 < t
        · have hp : Hid (inR f t x = true) := Lib.hid (by simp [inR, h1, h2])
          go_wp2_with (first
            | ((with_reducible refine gate_load (T := 59) ?_); refine wpList_loadAgg (vs := encE x) (off := off + n * 2) rfl rfl rfl Tryd.underlying59 rfl (s.inn.get hkb) (by kernel_rfl) (fun j u hu => Hj.out j u hu) ?_)
            | ((with_reducible refine gate_buildSlice (T := 33) ?_); refine wpList_buildSlice1 rfl rfl rfl (cs := (encE x).toArray) Tryd.underlying33 info_ent (by decide) (by decide) (by kernel_rfl) ?_; intro gn W5 e hn; have hnew := hn.here; rw [← e] at hnew; replace s := s.new hn; replace o1 := o1.new hn; replace rw := rw.new hn; clear hn e c1 c2)
            | ((with_reducible refine gate_append ?_); refine wpList_appendRow rfl rfl Tryd.underlying33 info_ent rfl (by decide) rfl s rw rfl (news := encE x) rfl (by simp) (cells_here hnew) (encE_one x) (by omega) (by decide) ?_; intro v2 W6 r2 gr; have hne2 := o1.apart gr hne; replace s := s.grown rw gr; replace o1 := o1.grown gr hne; obtain ⟨a2, n2, c2, rfl⟩ := r2.form; clear gr rw hnew)
            | fail)
          go_roundw
          case rel =>
            refine ⟨n + 1, by omega, by go_num, s, o1, ?_, hne2, _, _, _, rfl⟩
            rw [hf.out, hp.out]
            simpa [List.flatMap_append] using r2
          case measure => simp [intOf]; omega
        · have hp : Hid (inR f t x = false) := Lib.hid (by simp [inR, h1, h2])
          go_wp2
          go_roundw
          case rel =>
            refine ⟨n + 1, by omega, by go_num, s, o1, ?_, hne, _, _, _, rfl⟩
            rw [hf.out, hp.out]
            simpa using rw
          case measure => simp [intOf]; omega
      · have hp : Hid (inR f t x = false) := Lib.hid (by simp [inR, h1])
        go_wp2
        go_roundw
        case rel =>
          refine ⟨n + 1, by omega, by go_num, s, o1, ?_, hne, _, _, _, rfl⟩
          rw [hf.out, hp.out]
          simpa using rw
        case measure => simp [intOf]; omega
    · obtain rfl : n = L.length := by omega
      go_wp2
      go_ret
      rw [List.take_length] at rw
      obtain ⟨K3, s3, hE3, hS, hK3⟩ := rw.fix s (enc := encE) (fun _ => rfl) rfl rfl
      exact s3.ret ⟨hS, hE3⟩

set_option maxRecDepth 100000 in
theorem rAll_ok (K : Fz) (sv : Value) (L : Ents) (w : World) (hK : K.In w) (hS : SlK K 2 encE sv L) (hlen : L.length ≤ 1000000) :
    Calls Tryd.prog 25 #[.agg #[sv]] w (Ret K w fun K' v => SlK K' 2 encE v (L.filter (inR 0 4096)) ∧ Ext K K') := by
  have hr := fun W (hW : K.In W) => rRange_ok K sv L 0 4096 W hW hS hlen
  obtain ⟨a, cap, rfl, hcap, hx⟩ := hS
  have s := St.start hK
  have Hx := Lib.hid hx
  clear hx
  go_enter Tryd.func25, Tryd.ntmps25
  go_wp2_with (first
    | ((with_reducible refine gate_box (T := 35) (x := .tmp 0) ?_); refine wpList_boxG rfl rfl rfl (cs := #[.slice a L.length cap]) rfl ?_; intro g1 W1 e hn; have o1 := Own.made s e hn; replace s := s.new hn; clear e hn)
    | ((with_reducible refine gate_load (T := 35) ?_); refine wpList_load_row rfl 35 _ rfl _ rfl 35 _ _ _ o1.at_ Tryd.underlying35 rfl (by kernel_rfl) ?_)
    | (go_at_call 26; refine (hr _ s.inn).mono ?_; rintro e W4 ⟨v, K', rfl, hi, hl, hb', hS, hE⟩; replace s := s.call hi hl hb'; clear o1; obtain ⟨va, vc, rfl, hS⟩ := hS)
    | fail)
  go_ret
  exact s.ret ⟨⟨_, _, rfl, hS⟩, hE⟩
end Go.Proofs.YtpfdlpniijgakaaDoor
