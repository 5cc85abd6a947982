/- What Path and Same of the specification do. -/
import Derived.Test.YtpfdlpniijgakaaDoorRefD
namespace Go.Proofs.YtpfdlpniijgakaaDoor
open Go Go.RowKit
set_option maxHeartbeats 400000



/-- How many nodes a tree has for ranges that contain a block. -/
def rpath (L : Ents) (b : Int) : Nat :=
  if L = [] then 0 else 1 + (if (L.filter (inR (b / 256 * 256) (b / 256 * 256 + 256))) = [] then 0 else 1) + (if (L.filter (inR (b / 16 * 16) (b / 16 * 16 + 16))) = [] then 0 else 1)

set_option maxRecDepth 100000 in
set_option maxHeartbeats 1000000 in
theorem rPath_ok (K : Fz) (sv : Value) (L : Ents) (blk : Int) (w : World) (hK : K.In w) (hS : SlK K 2 encE sv L) (hlen : L.length ≤ 1000000) (h0 : 0 ≤ blk) (h1 : blk < 4096) :
    Calls Tryd.prog 18 #[.agg #[sv], .int .i64 blk] w fun e w' => e = .returned (.int .i64 (rpath L blk : Nat)) ∧ Below w.heap.size w w' := by
  have hr := fun K1 W f t (hW : K1.In W) (hE : Ext K K1) => rRange_ok K1 sv L f t W hW (hS.keep hE) hlen
  obtain ⟨a, cap, rfl, hcap, hx⟩ := hS
  have s := St.start hK
  clear hx
  by_cases hnil : L = []
  · subst hnil
    go_enter Tryd.func18, Tryd.ntmps18
    go_wp2_with (first
      | ((with_reducible refine gate_box (T := 35) (x := .tmp 0) ?_); refine wpList_boxG rfl rfl rfl (cs := #[.slice a 0 cap]) rfl ?_; intro g1 W1 e hn; have o1 := Own.made s e hn; replace s := s.new hn; clear e hn)
      | ((with_reducible refine gate_load (T := 33) ?_); refine wpList_loadCell rfl rfl rfl Tryd.underlying33 rfl o1.at_ rfl ?_)
      | fail)
    go_ret
    exact ⟨rfl, s.below⟩
  · have hb0 : (((L.length : Nat) : Int) == 0) = false := by cases L with | nil => exact (hnil rfl).elim | cons x xs => simp; omega
    have hL0 : 0 < L.length := by cases L with | nil => exact (hnil rfl).elim | cons x xs => simp
    obtain ⟨p, hp⟩ : ∃ p : Nat, (if (L.filter (inR (blk / 256 * 256) (blk / 256 * 256 + 256))) = [] then 0 else 1) = p := ⟨_, rfl⟩
    obtain ⟨q, hq⟩ : ∃ q : Nat, (if (L.filter (inR (blk / 16 * 16) (blk / 16 * 16 + 16))) = [] then 0 else 1) = q := ⟨_, rfl⟩
    have hres : Hid (rpath L blk = 1 + p + q) := Lib.hid (by rw [rpath, if_neg hnil, hp, hq])
    have len0 : ∀ {M : Ents} {p : Nat}, (if M = [] then 0 else 1) = p → (M.length = 0 ∧ p = 0) ∨ (0 < M.length ∧ p = 1) := by
      intro M p h
      cases M with
      | nil => left; exact ⟨rfl, h.symm⟩
      | cons x xs => right; exact ⟨by simp, h.symm⟩
    have hp' := len0 hp
    have hq' := len0 hq
    clear len0 hp hq
    rcases hp' with ⟨hp, rfl⟩ | ⟨hp, rfl⟩ <;> rcases hq' with ⟨hq, rfl⟩ | ⟨hq, rfl⟩
    all_goals
      go_enter Tryd.func18, Tryd.ntmps18
      go_wp2_with (first
        | ((with_reducible refine gate_box (T := 35) (x := .tmp 0) ?_); refine wpList_boxG rfl rfl rfl (cs := #[.slice a L.length cap]) rfl ?_; intro g1 W1 e hn; have o1 := Own.made s e hn; replace s := s.new hn; clear e hn)
        | ((with_reducible refine gate_load (T := 33) ?_); refine wpList_loadCell rfl rfl rfl Tryd.underlying33 rfl o1.at_ rfl ?_)
        | ((with_reducible refine gate_load (T := 35) (x := .tmp 2) ?_); refine wpList_load_row rfl 35 _ rfl _ rfl 35 _ _ _ o1.at_ Tryd.underlying35 rfl (by kernel_rfl) ?_)
        | (go_at_call 26; refine (hr _ _ _ _ s.inn (Ext.of_st hK s)).mono ?_; rintro e W4 ⟨v, K', rfl, hi, hl, hb', ⟨va, vc, rfl, _⟩, _⟩; replace o1 := o1.call hl hb'; replace s := s.call hi hl hb')
        | fail)
      go_ret
      exact ⟨by rw [hres.out]; rfl, s.below⟩

def eqZ (xs ys : List Int) : Bool := xs == ys

set_option maxRecDepth 100000 in
set_option maxHeartbeats 1000000 in
theorem rSame_ok (K : Fz) (sa sb : Value) (A B : List Int) (w : World) (hK : K.In w) (hSa : SlK K 1 encZ sa A) (hSb : SlK K 1 encZ sb B) (hA : A.length ≤ 2000000) (hB : B.length ≤ 2000000) :
    Calls Tryd.prog 19 #[sa, sb] w fun e w' => e = .returned (.bool (decide (A = B))) ∧ Below w.heap.size w w' := by
  obtain ⟨a, cap, rfl, hcap, hx⟩ := hSa
  obtain ⟨b, cap', rfl, hcap', hy⟩ := hSb
  have hb := Below.refl w.heap.size w
  have Hx := Lib.hid hx
  have Hy := Lib.hid hy
  clear hx hy
  by_cases hl : A.length = B.length
  · have hlb : (((A.length : Nat) : Int) == ((B.length : Nat) : Int)) = true := by simp [hl]
    have hlb2 : (((A.length : Nat) : Int) != ((B.length : Nat) : Int)) = false := by simp [hl]
    have Hl := Lib.hid hl
    clear hl
    go_enter Tryd.func19, Tryd.ntmps19
    go_wp2
    go_loopw [5] (fun vi wr => ∃ i : Nat, i ≤ A.length ∧ vi = .int .i64 i ∧ K.In wr ∧ Below w.heap.size w wr ∧ Hid (A.take i = B.take i)) (fun vi _ => A.length - (intOf vi).toNat)
    case atStart => exact ⟨0, by omega, rfl, hK, hb, Lib.hid (by simp)⟩
    case round =>
      clear hb
      obtain ⟨i, hi, rfl, hin, hb, ht⟩ := hrel
      by_cases hlt : i < A.length
      · obtain ⟨x, hxn⟩ : ∃ x, A[i]? = some x := ⟨_, List.getElem?_eq_getElem hlt⟩
        obtain ⟨y, hyn⟩ : ∃ y, B[i]? = some y := ⟨_, List.getElem?_eq_getElem (by have := Hl.out; omega)⟩
        have hltB : i < B.length := by have := Hl.out; omega
        obtain ⟨ba, oa, csa, tya, fra, rfl, hkba, hja⟩ := Hx.out i x hxn
        obtain ⟨bb, ob, csb, tyb, frb, rfl, hkbb, hjb⟩ := Hy.out i y hyn
        have ca0 := (hin.cell hkba (oa + i * 1)).trans (hja 0 _ rfl)
        have cb0 := (hin.cell hkbb (ob + i * 1)).trans (hjb 0 _ rfl)
        have Hxn := Lib.hid hxn
        have Hyn := Lib.hid hyn
        clear hja hjb hxn hyn
        simp only [Nat.mul_one] at ca0 cb0
        by_cases hxy : x = y
        · have hB1 : (x == y) = true := by simp [hxy]
          have hB2 : (x != y) = false := by simp [hxy]
          have Hxy := Lib.hid hxy
          clear hxy
          go_wp2
          go_quiet (fail)
          go_wp2
          go_roundw
          case rel =>
            refine ⟨i + 1, by omega, by go_num, hin.drewN _, hb.drewN' _, Lib.hid ?_⟩
            rw [List.take_add_one, List.take_add_one, ht.out, Hxn.out, Hyn.out, Hxy.out]
          case measure => simp [intOf]; omega
        · have hB1 : (x == y) = false := by simp [hxy]
          have hB2 : (x != y) = true := by simp [hxy]
          have Hxy := Lib.hid hxy
          clear hxy
          go_wp2
          go_quiet (fail)
          go_wp2
          go_ret
          have hne : A ≠ B := by
            rintro rfl
            have := Hxn.out.symm.trans Hyn.out
            exact Hxy.out (Option.some.inj this)
          exact ⟨by rw [decide_eq_false hne]; rfl, hb.drewN' _⟩
      · obtain rfl : i = A.length := by omega
        go_wp2
        go_ret
        have he : A = B := by
          have h := ht.out
          rw [List.take_length, Hl.out, List.take_length] at h
          exact h
        exact ⟨by rw [decide_eq_true he]; rfl, hb⟩
  · have hlb : (((A.length : Nat) : Int) == ((B.length : Nat) : Int)) = false := by simp; omega
    have hlb2 : (((A.length : Nat) : Int) != ((B.length : Nat) : Int)) = true := by simp; omega
    go_enter Tryd.func19, Tryd.ntmps19
    go_wp2
    go_ret
    have hne : A ≠ B := by rintro rfl; exact hl rfl
    exact ⟨by rw [decide_eq_false hne]; rfl, hb⟩
end Go.Proofs.YtpfdlpniijgakaaDoor
