/- What find, Get and Len of the specification do. -/
import Derived.Test.YtpfdlpniijgakaaDoorTreeA
import Derived.Test.YtpfdlpniijgakaaDoorRow
namespace Go.Proofs.YtpfdlpniijgakaaDoor
open Go Go.RowKit
set_option maxHeartbeats 400000

abbrev Ents := List (Int × Int)
def encE (x : Int × Int) : List Value := [.int .i64 x.1, .int .i64 x.2]

/-- The index of a block, or of the first greater one. -/
def fnd : Ents → Int → Nat
  | [], _ => 0
  | x :: xs, b => if b ≤ x.1 then 0 else fnd xs b + 1
def hit (L : Ents) (b : Int) : Bool := match L[fnd L b]? with | some x => x.1 == b | none => false
def rget (L : Ents) (b : Int) : Int × Bool := match L[fnd L b]? with | some x => if x.1 == b then (x.2, true) else (0, false) | none => (0, false)

theorem fnd_le : ∀ (L : Ents) (b : Int), fnd L b ≤ L.length
  | [], _ => Nat.le_refl _
  | x :: xs, b => by
    unfold fnd
    split
    · exact Nat.zero_le _
    · simp
      exact fnd_le xs b
theorem fnd_stop : ∀ {L : Ents} {b : Int} {i : Nat} {x : Int × Int}, (∀ (j : Nat) y, j < i → L[j]? = some y → y.1 < b) → L[i]? = some x → b ≤ x.1 → fnd L b = i
  | [], _, _, _, _, h, _ => by simp at h
  | y :: ys, b, 0, x, _, h, hb => by
    obtain rfl : y = x := by simpa using h
    simp [fnd, hb]
  | y :: ys, b, i + 1, x, hl, h, hb => by
    have h0 := hl 0 y (by omega) rfl
    have : ¬ b ≤ y.1 := by omega
    simp only [fnd, this, if_false, Nat.add_right_cancel_iff]
    exact fnd_stop (fun j z hj hz => hl (j + 1) z (by omega) (by simpa using hz)) (by simpa using h) hb
theorem fnd_end : ∀ {L : Ents} {b : Int}, (∀ (j : Nat) y, j < L.length → L[j]? = some y → y.1 < b) → fnd L b = L.length
  | [], _, _ => rfl
  | y :: ys, b, hl => by
    have h0 := hl 0 y (by simp) rfl
    have : ¬ b ≤ y.1 := by omega
    simp only [fnd, this, if_false, List.length_cons, Nat.add_right_cancel_iff]
    exact fnd_end (fun j z hj hz => hl (j + 1) z (by simpa using hj) (by simpa using hz))

def findV (L : Ents) (b : Int) : Value := .tuple #[.int .i64 (fnd L b : Nat), .bool (hit L b)]

set_option maxRecDepth 100000 in
theorem find_ok (K : Fz) (sv : Value) (L : Ents) (blk : Int) (w : World) (hK : K.In w) (hS : SlK K 2 encE sv L) (hlen : L.length ≤ 1000000) :
    Calls Tryd.prog 40 #[.agg #[sv], .int .i64 blk] w fun e w' => e = .returned (findV L blk) ∧ Below w.heap.size w w' := by
  obtain ⟨a, cap, rfl, hcap, hx⟩ := hS
  have s := St.start hK
  have Hx := Lib.hid hx
  clear hx
  go_enter Tryd.func40, Tryd.ntmps40
  go_wp2_with (first
    | ((with_reducible refine gate_box (T := 35) (x := .tmp 0) ?_); refine wpList_boxG rfl rfl rfl (cs := #[.slice a L.length cap]) rfl ?_; intro g1 W1 e hn; have o1 := Own.made s e hn; replace s := s.new hn; clear e hn; have c1 := cell_of_row _ _ 0 _ _ _ o1.at_)
    | fail)
  have hb := s.below
  have hi := s.inn
  simp only [List.getElem?_toArray, List.getElem?_cons_zero] at c1
  clear s o1
  go_loop [6] (fun i => ∃ n : Nat, n ≤ L.length ∧ i = .int .i64 n ∧ Hid (∀ (j : Nat) y, j < n → L[j]? = some y → y.1 < blk)) (fun i => L.length - (intOf i).toNat)
  case atStart => exact ⟨0, by omega, rfl, fun j y hj => by omega⟩
  case round =>
    obtain ⟨n, hn, rfl, hbef⟩ := hrel
    by_cases hlt : n < L.length
    · obtain ⟨x, hxn⟩ : ∃ x, L[n]? = some x := ⟨_, List.getElem?_eq_getElem hlt⟩
      obtain ⟨b, off, cs, ty, fr, rfl, hkb, hj⟩ := Hx.out n x hxn
      have c2 := (hi.cell hkb (off + n * 2)).trans (hj 0 _ rfl)
      have Hxn := Lib.hid hxn
      clear hj hxn
      by_cases hge : blk ≤ x.1
      · go_wp2
        go_quiet (fail)
        go_wp2
        go_ret2
        have e := fnd_stop hbef.out Hxn.out hge
        refine ⟨?_, hb.drewN' _⟩
        rw [findV, e, hit, e, Hxn.out]; rfl
      · go_wp2
        go_roundw
        case rel =>
          refine ⟨n + 1, by omega, by go_num, ?_⟩
          intro j y hj hy
          by_cases h : j < n
          · exact hbef.out j y h hy
          · obtain rfl : j = n := by omega
            rw [Hxn.out] at hy
            cases hy
            omega
        case measure => simp [intOf]; omega
    · go_wp2
      go_ret2
      obtain rfl : n = L.length := by omega
      have e := fnd_end hbef.out
      refine ⟨?_, hb⟩
      rw [findV, e, hit, e, List.getElem?_eq_none (Nat.le_refl _)]; rfl

set_option maxRecDepth 100000 in
theorem rLen_ok (K : Fz) (sv : Value) (L : Ents) (w : World) (hK : K.In w) (hS : SlK K 2 encE sv L) :
    Calls Tryd.prog 28 #[.agg #[sv]] w fun e w' => e = .returned (.int .i64 (L.length : Nat)) ∧ Below w.heap.size w w' := by
  obtain ⟨a, cap, rfl, hcap, hx⟩ := hS
  have s := St.start hK
  go_enter Tryd.func28, Tryd.ntmps28
  go_wp2_with (first
    | ((with_reducible refine gate_box (T := 35) (x := .tmp 0) ?_); refine wpList_boxG rfl rfl rfl (cs := #[.slice a L.length cap]) rfl ?_; intro g1 W1 e hn; have o1 := Own.made s e hn; replace s := s.new hn; clear e hn)
    | ((with_reducible refine gate_load (T := 33) ?_); refine wpList_loadCell rfl rfl rfl Tryd.underlying33 rfl o1.at_ rfl ?_)
    | fail)
  go_ret
  exact ⟨rfl, s.below⟩

set_option maxRecDepth 100000 in
theorem rGet_ok (K : Fz) (sv : Value) (L : Ents) (blk : Int) (w : World) (hK : K.In w) (hS : SlK K 2 encE sv L) (hlen : L.length ≤ 1000000) :
    Calls Tryd.prog 29 #[.agg #[sv], .int .i64 blk] w fun e w' => e = .returned (getV (rget L blk)) ∧ Below w.heap.size w w' := by
  have hf := fun W (hW : K.In W) => find_ok K sv L blk W hW hS hlen
  obtain ⟨a, cap, rfl, hcap, hx⟩ := hS
  have s := St.start hK
  have hle := fnd_le L blk
  have Hx := Lib.hid hx
  clear hx
  obtain ⟨n, hn⟩ : ∃ n, fnd L blk = n := ⟨_, rfl⟩
  have Hn := Lib.hid hn
  rw [hn] at hle
  have hfV : Hid (findV L blk = .tuple #[.int .i64 (n : Nat), .bool (hit L blk)]) := Lib.hid (by rw [findV, hn])
  clear hn
  cases hh : hit L blk with
  | false =>
    have hr : Hid (rget L blk = (0, false)) := Lib.hid (by
      unfold hit at hh; unfold rget
      cases h : L[fnd L blk]? with
      | none => rfl
      | some x => rw [h] at hh; simp only at hh ⊢; rw [hh]; rfl)
    rw [hh] at hfV
    clear hh
    go_enter Tryd.func29, Tryd.ntmps29
    go_wp2_with (first
      | ((with_reducible refine gate_box (T := 35) (x := .tmp 0) ?_); refine wpList_boxG rfl rfl rfl (cs := #[.slice a L.length cap]) rfl ?_; intro g1 W1 e hn; have o1 := Own.made s e hn; replace s := s.new hn; clear e hn)
      | ((with_reducible refine gate_load (T := 35) ?_); refine wpList_load_row rfl 35 _ rfl _ rfl 35 _ _ _ o1.at_ Tryd.underlying35 rfl (by kernel_rfl) ?_)
      | (go_at_call 40; refine (hf _ s.inn).mono ?_; rw [hfV.out]; rintro e W ⟨rfl, hb⟩; replace o1 := o1.quiet hb; replace s := s.quiet hb; clear hb)
      | fail)
    go_ret2
    refine ⟨?_, s.below⟩
    rw [hr.out]
    rfl
  | true =>
    obtain ⟨x, hxn, hr⟩ : ∃ x, L[n]? = some x ∧ Hid (rget L blk = (x.2, true)) := by
      have e := Hn.out
      unfold hit at hh
      unfold rget
      rw [e] at hh ⊢
      cases h : L[n]? with
      | none => rw [h] at hh; simp at hh
      | some x => rw [h] at hh; simp only at hh ⊢; rw [hh]; exact ⟨x, rfl, Lib.hid rfl⟩
    obtain ⟨b, off, cs, ty, fr, rfl, hkb, hj⟩ := Hx.out n x hxn
    have hlt : n < L.length := (List.getElem?_eq_some_iff.1 hxn).1
    have hj1 := Lib.hid (hj 1 _ rfl)
    rw [hh] at hfV
    clear hh hj hxn
    go_enter Tryd.func29, Tryd.ntmps29
    go_wp2_with (first
      | ((with_reducible refine gate_box (T := 35) (x := .tmp 0) ?_); refine wpList_boxG rfl rfl rfl (cs := #[.slice (some ⟨b, off, none⟩) L.length cap]) rfl ?_; intro g1 W1 e hn; have o1 := Own.made s e hn; replace s := s.new hn; clear e hn)
      | ((with_reducible refine gate_load (T := 35) ?_); refine wpList_load_row rfl 35 _ rfl _ rfl 35 _ _ _ o1.at_ Tryd.underlying35 rfl (by kernel_rfl) ?_)
      | (go_at_call 40; refine (hf _ s.inn).mono ?_; rw [hfV.out]; rintro e W ⟨rfl, hb⟩; replace o1 := o1.quiet hb; replace s := s.quiet hb; clear hb)
      | ((with_reducible refine gate_load (T := 33) ?_); refine wpList_loadCell rfl rfl rfl Tryd.underlying33 rfl o1.at_ rfl ?_)
      | ((with_reducible refine gate_load (T := 3) ?_); refine wpList_loadCell rfl rfl rfl Tryd.underlying3 rfl (s.inn.get hkb) hj1.out ?_)
      | fail)
    go_ret2
    refine ⟨?_, s.below⟩
    rw [hr.out]
    rfl
end Go.Proofs.YtpfdlpniijgakaaDoor
