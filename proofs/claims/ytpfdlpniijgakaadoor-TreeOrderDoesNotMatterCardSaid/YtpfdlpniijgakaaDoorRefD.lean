/- What Diff and Equal of the specification do. -/
import Derived.Test.YtpfdlpniijgakaaDoorRefB
import Derived.Test.YtpfdlpniijgakaaDoorDiffW
namespace Go.Proofs.YtpfdlpniijgakaaDoor
open Go Go.RowKit
set_option maxHeartbeats 400000

def encZ (x : Int) : List Value := [.int .i64 x]

/-- The blocks that two lists do not map alike. -/
def rdiff : Ents → Ents → List Int
  | [], [] => []
  | x :: xs, [] => x.1 :: rdiff xs []
  | [], y :: ys => y.1 :: rdiff [] ys
  | x :: xs, y :: ys => if x.1 < y.1 then x.1 :: rdiff xs (y :: ys) else if y.1 < x.1 then y.1 :: rdiff (x :: xs) ys else if x.2 = y.2 then rdiff xs ys else x.1 :: rdiff xs ys
termination_by a b => a.length + b.length

theorem rdiff_len : ∀ (a b : Ents), (rdiff a b).length ≤ a.length + b.length
  | [], [] => by simp [rdiff]
  | x :: xs, [] => by have := rdiff_len xs []; simp [rdiff] at *; omega
  | [], y :: ys => by have := rdiff_len [] ys; simp [rdiff] at *; omega
  | x :: xs, y :: ys => by
    have h1 := rdiff_len xs (y :: ys)
    have h2 := rdiff_len (x :: xs) ys
    have h3 := rdiff_len xs ys
    rw [rdiff]
    simp only [List.length_cons] at *
    split
    · simp; omega
    · split
      · simp; omega
      · split
        · omega
        · simp; omega
termination_by a b => a.length + b.length

theorem drop_cons {α : Type} {L : List α} {n : Nat} {x : α} (h : L[n]? = some x) : L.drop n = x :: L.drop (n + 1) := by
  have hn := (List.getElem?_eq_some_iff.1 h).1
  rw [List.drop_eq_getElem_cons hn, (List.getElem?_eq_some_iff.1 h).2]

section
variable {A B : Ents} {i k : Nat} {os : List Int}
theorem rd_left {x : Int × Int} (h : Hid (os ++ rdiff (A.drop i) (B.drop k) = rdiff A B)) (hx : A[i]? = some x) (hy : B.length ≤ k ∨ ∃ y, B[k]? = some y ∧ x.1 < y.1) :
    Hid ((os ++ [x.1]) ++ rdiff (A.drop (i + 1)) (B.drop k) = rdiff A B) := by
  refine Lib.hid ?_
  rw [← h.out, drop_cons hx]
  rcases hy with hy | ⟨y, hy, hlt⟩
  · rw [List.drop_eq_nil_of_le hy, rdiff, List.append_assoc]; rfl
  · rw [drop_cons hy, rdiff, if_pos hlt, List.append_assoc]; rfl
theorem rd_right {y : Int × Int} (h : Hid (os ++ rdiff (A.drop i) (B.drop k) = rdiff A B)) (hy : B[k]? = some y) (hx : A.length ≤ i ∨ ∃ x, A[i]? = some x ∧ y.1 < x.1) :
    Hid ((os ++ [y.1]) ++ rdiff (A.drop i) (B.drop (k + 1)) = rdiff A B) := by
  refine Lib.hid ?_
  rw [← h.out, drop_cons hy]
  rcases hx with hx | ⟨x, hx, hlt⟩
  · rw [List.drop_eq_nil_of_le hx, rdiff, List.append_assoc]; rfl
  · rw [drop_cons hx, rdiff, if_neg (by omega), if_pos hlt, List.append_assoc]; rfl
theorem rd_same {x y : Int × Int} (h : Hid (os ++ rdiff (A.drop i) (B.drop k) = rdiff A B)) (hx : A[i]? = some x) (hy : B[k]? = some y) (he : x.1 = y.1) (hc : x.2 = y.2) :
    Hid (os ++ rdiff (A.drop (i + 1)) (B.drop (k + 1)) = rdiff A B) := by
  refine Lib.hid ?_
  rw [← h.out, drop_cons hx, drop_cons hy, rdiff, if_neg (by omega), if_neg (by omega), if_pos hc]
theorem rd_both {x y : Int × Int} (h : Hid (os ++ rdiff (A.drop i) (B.drop k) = rdiff A B)) (hx : A[i]? = some x) (hy : B[k]? = some y) (he : x.1 = y.1) (hc : x.2 ≠ y.2) :
    Hid ((os ++ [x.1]) ++ rdiff (A.drop (i + 1)) (B.drop (k + 1)) = rdiff A B) := by
  refine Lib.hid ?_
  rw [← h.out, drop_cons hx, drop_cons hy, rdiff, if_neg (by omega), if_neg (by omega), if_neg hc, List.append_assoc]; rfl
theorem rd_len (h : Hid (os ++ rdiff (A.drop i) (B.drop k) = rdiff A B)) (hA : A.length ≤ 1000000) (hB : B.length ≤ 1000000) : os.length ≤ 2000000 := by
  have := congrArg List.length h.out
  have h2 := rdiff_len A B
  simp at this
  omega
end

set_option maxRecDepth 100000 in
set_option maxHeartbeats 4000000 in
theorem rDiff_ok (K : Fz) (sa sb : Value) (A B : Ents) (w : World) (hK : K.In w) (hSa : SlK K 2 encE sa A) (hSb : SlK K 2 encE sb B) (hA : A.length ≤ 1000000) (hB : B.length ≤ 1000000) :
    Calls Tryd.prog 21 #[.agg #[sa], .agg #[sb]] w (Ret K w fun K' v => SlK K' 1 encZ v (rdiff A B) ∧ Ext K K') := by
  obtain ⟨a, cap, rfl, hcap, hx⟩ := hSa
  obtain ⟨b, cap', rfl, hcap', hy⟩ := hSb
  have s := St.start hK
  have Hx := Lib.hid hx
  have Hy := Lib.hid hy
  clear hx hy
  go_enter Tryd.func21, Tryd.ntmps21
  go_wp2_with (first
    | ((with_reducible refine gate_box (T := 35) (x := .tmp 0) ?_); refine wpList_boxG rfl rfl rfl (cs := #[.slice a A.length cap]) rfl ?_; intro g1 W1 e hn; have o1 := Own.made s e hn; replace s := s.new hn; clear e hn)
    | ((with_reducible refine gate_box (T := 35) (x := .tmp 1) ?_); refine wpList_boxG rfl rfl rfl (cs := #[.slice b B.length cap']) rfl ?_; intro g2 W2 e hn; have o2 := Own.made s e hn; replace s := s.new hn; replace o1 := o1.new hn; clear e hn)
    | fail)
  go_loopw [5, 6, 7] (fun v vi vk wr => ∃ (i k : Nat) (os : List Int), i ≤ A.length ∧ k ≤ B.length ∧ vi = .int .i64 i ∧ vk = .int .i64 k ∧ Hid (os ++ rdiff (A.drop i) (B.drop k) = rdiff A B) ∧ St K w K wr ∧
      Own w K wr g1 (.cells #[.slice a A.length cap] 35 (0, 0)) ∧ Own w K wr g2 (.cells #[.slice b B.length cap'] 35 (0, 0)) ∧
      Row w K wr 3 1 v os.length (os.flatMap encZ) ∧ v.ownBlock ≠ some g1 ∧ v.ownBlock ≠ some g2 ∧ ∃ a n c, v = .slice a n c) (fun _ vi vk _ => A.length - (intOf vi).toNat + (B.length - (intOf vk).toNat))
  case atStart => exact ⟨0, 0, [], by omega, by omega, rfl, rfl, Lib.hid (by simp), s, o1, o2, Row.nil _ _ _ _ _, by rintro ⟨⟩, by rintro ⟨⟩, _, _, _, rfl⟩
  case round =>
    clear s o1 o2
    obtain ⟨i, k, os, hi, hk, rfl, rfl, hout, s, o1, o2, rw, hn1, hn2, va, vn, vc, rfl⟩ := hrel
    have ca := cell_of_row _ _ 0 _ _ _ o1.at_
    have cb := cell_of_row _ _ 0 _ _ _ o2.at_
    simp only [List.getElem?_toArray, List.getElem?_cons_zero] at ca cb
    have hol := rd_len hout hA hB
    by_cases hiA : i < A.length
    · obtain ⟨x, hxn⟩ : ∃ x, A[i]? = some x := ⟨_, List.getElem?_eq_getElem hiA⟩
      obtain ⟨ba, oa, csa, tya, fra, rfl, hkba, hja⟩ := Hx.out i x hxn
      have ca0 := (s.inn.cell hkba (oa + i * 2)).trans (hja 0 _ rfl)
      have ca1 := (s.inn.cell hkba (oa + i * 2 + 1)).trans (hja 1 _ rfl)
      have Hxn := Lib.hid hxn
      clear hja hxn
      by_cases hkB : k < B.length
      · obtain ⟨y, hyn⟩ : ∃ y, B[k]? = some y := ⟨_, List.getElem?_eq_getElem hkB⟩
        obtain ⟨bb, ob, csb, tyb, frb, rfl, hkbb, hjb⟩ := Hy.out k y hyn
        have cb0 := (s.inn.cell hkbb (ob + k * 2)).trans (hjb 0 _ rfl)
        have cb1 := (s.inn.cell hkbb (ob + k * 2 + 1)).trans (hjb 1 _ rfl)
        have Hyn := Lib.hid hyn
        clear hjb hyn
        have bk : ((k : Int) == (B.length : Int)) = false := by simp; omega
        have bi : ((i : Int) == (A.length : Int)) = false := by simp; omega
        by_cases hlt : x.1 < y.1
        · go_wp2
          go_quiet (fail)
          replace s := s.drewN nq; replace o1 := o1.drewN nq; replace o2 := o2.drewN nq; replace rw := rw.drewN nq
          go_wp2_with (first
            | ((with_reducible refine gate_buildSlice (T := 46) ?_); refine wpList_buildSlice1 rfl rfl rfl (cs := #[.int .i64 x.1]) Tryd.underlying46 info_int (by decide) (by decide) (by kernel_rfl) ?_; intro gn W5 e hn; have hnew := hn.here; rw [← e] at hnew; replace s := s.new hn; replace o1 := o1.new hn; replace o2 := o2.new hn; replace rw := rw.new hn; clear hn e ca cb ca0 ca1 cb0 cb1)
            | ((with_reducible refine gate_append ?_); refine wpList_appendRow rfl rfl Tryd.underlying46 info_int rfl (by decide) rfl s rw rfl (news := [.int .i64 x.1]) rfl (by simp) (cells_here hnew) (by simp [Value.oneCell']) (by omega) (by decide) ?_; intro v2 W6 r2 gr; have hn12 := o1.apart gr hn1; have hn22 := o2.apart gr hn2; replace s := s.grown rw gr; replace o1 := o1.grown gr hn1; replace o2 := o2.grown gr hn2; obtain ⟨a2, n2, c2, rfl⟩ := r2.form; clear gr rw hnew)
            | fail)
          go_roundw
          case rel => exact ⟨i + 1, k, os ++ [x.1], by omega, by omega, by go_num, by go_num, rd_left hout Hxn.out (.inr ⟨y, Hyn.out, hlt⟩), s, o1, o2, by simpa [encZ, List.flatMap_append] using r2, hn12, hn22, _, _, _, rfl⟩
          case measure => simp [intOf]; omega
        · by_cases hgt : y.1 < x.1
          · go_wp2
            go_quiet (fail)
            replace s := s.drewN nq; replace o1 := o1.drewN nq; replace o2 := o2.drewN nq; replace rw := rw.drewN nq
            go_wp2
            go_quiet (fail)
            replace s := s.drewN nq; replace o1 := o1.drewN nq; replace o2 := o2.drewN nq; replace rw := rw.drewN nq
            simp only [World.drewN_drewN] at s o1 o2 rw
            go_wp2_with (first
            | ((with_reducible refine gate_buildSlice (T := 46) ?_); refine wpList_buildSlice1 rfl rfl rfl (cs := #[.int .i64 y.1]) Tryd.underlying46 info_int (by decide) (by decide) (by kernel_rfl) ?_; intro gn W5 e hn; have hnew := hn.here; rw [← e] at hnew; replace s := s.new hn; replace o1 := o1.new hn; replace o2 := o2.new hn; replace rw := rw.new hn; clear hn e ca cb ca0 ca1 cb0 cb1)
            | ((with_reducible refine gate_append ?_); refine wpList_appendRow rfl rfl Tryd.underlying46 info_int rfl (by decide) rfl s rw rfl (news := [.int .i64 y.1]) rfl (by simp) (cells_here hnew) (by simp [Value.oneCell']) (by omega) (by decide) ?_; intro v2 W6 r2 gr; have hn12 := o1.apart gr hn1; have hn22 := o2.apart gr hn2; replace s := s.grown rw gr; replace o1 := o1.grown gr hn1; replace o2 := o2.grown gr hn2; obtain ⟨a2, n2, c2, rfl⟩ := r2.form; clear gr rw hnew)
            | fail)
            go_roundw
            case rel => exact ⟨i, k + 1, os ++ [y.1], by omega, by omega, by go_num, by go_num, rd_right hout Hyn.out (.inr ⟨x, Hxn.out, hgt⟩), s, o1, o2, by simpa [encZ, List.flatMap_append] using r2, hn12, hn22, _, _, _, rfl⟩
            case measure => simp [intOf]; omega
          · have heq : Hid (x.1 = y.1) := Lib.hid (by omega)
            by_cases hc : x.2 = y.2
            · have bc : (x.2 != y.2) = false := by simp [hc]
              have bc2 : (x.2 == y.2) = true := by simp [hc]
              have Hc := Lib.hid hc
              clear hc
              go_wp2
              go_quiet (fail)
              replace s := s.drewN nq; replace o1 := o1.drewN nq; replace o2 := o2.drewN nq; replace rw := rw.drewN nq
              go_wp2
              go_quiet (fail)
              replace s := s.drewN nq; replace o1 := o1.drewN nq; replace o2 := o2.drewN nq; replace rw := rw.drewN nq
              simp only [World.drewN_drewN] at s o1 o2 rw
              go_wp2
              go_quiet (fail)
              replace s := s.drewN nq; replace o1 := o1.drewN nq; replace o2 := o2.drewN nq; replace rw := rw.drewN nq
              simp only [World.drewN_drewN] at s o1 o2 rw
              go_wp2
              go_roundw
              case rel => exact ⟨i + 1, k + 1, os, by omega, by omega, by go_num, by go_num, rd_same hout Hxn.out Hyn.out heq.out Hc.out, s, o1, o2, by simpa [encZ, List.flatMap_append] using rw, hn1, hn2, _, _, _, rfl⟩
              case measure => simp [intOf]; omega
            · have bc : (x.2 != y.2) = true := by simp [hc]
              have bc2 : (x.2 == y.2) = false := by simp [hc]
              have Hc := Lib.hid hc
              clear hc
              go_wp2
              go_quiet (fail)
              replace s := s.drewN nq; replace o1 := o1.drewN nq; replace o2 := o2.drewN nq; replace rw := rw.drewN nq
              go_wp2
              go_quiet (fail)
              replace s := s.drewN nq; replace o1 := o1.drewN nq; replace o2 := o2.drewN nq; replace rw := rw.drewN nq
              simp only [World.drewN_drewN] at s o1 o2 rw
              go_wp2
              go_quiet (fail)
              replace s := s.drewN nq; replace o1 := o1.drewN nq; replace o2 := o2.drewN nq; replace rw := rw.drewN nq
              simp only [World.drewN_drewN] at s o1 o2 rw
              go_wp2_with (first
            | ((with_reducible refine gate_buildSlice (T := 46) ?_); refine wpList_buildSlice1 rfl rfl rfl (cs := #[.int .i64 x.1]) Tryd.underlying46 info_int (by decide) (by decide) (by kernel_rfl) ?_; intro gn W5 e hn; have hnew := hn.here; rw [← e] at hnew; replace s := s.new hn; replace o1 := o1.new hn; replace o2 := o2.new hn; replace rw := rw.new hn; clear hn e ca cb ca0 ca1 cb0 cb1)
            | ((with_reducible refine gate_append ?_); refine wpList_appendRow rfl rfl Tryd.underlying46 info_int rfl (by decide) rfl s rw rfl (news := [.int .i64 x.1]) rfl (by simp) (cells_here hnew) (by simp [Value.oneCell']) (by omega) (by decide) ?_; intro v2 W6 r2 gr; have hn12 := o1.apart gr hn1; have hn22 := o2.apart gr hn2; replace s := s.grown rw gr; replace o1 := o1.grown gr hn1; replace o2 := o2.grown gr hn2; obtain ⟨a2, n2, c2, rfl⟩ := r2.form; clear gr rw hnew)
            | fail)
              go_roundw
              case rel => exact ⟨i + 1, k + 1, os ++ [x.1], by omega, by omega, by go_num, by go_num, rd_both hout Hxn.out Hyn.out heq.out Hc.out, s, o1, o2, by simpa [encZ, List.flatMap_append] using r2, hn12, hn22, _, _, _, rfl⟩
              case measure => simp [intOf]; omega
      · have bk : ((k : Int) == (B.length : Int)) = true := by simp; omega
        go_wp2
        go_quiet (fail)
        replace s := s.drewN nq; replace o1 := o1.drewN nq; replace o2 := o2.drewN nq; replace rw := rw.drewN nq
        go_wp2_with (first
            | ((with_reducible refine gate_buildSlice (T := 46) ?_); refine wpList_buildSlice1 rfl rfl rfl (cs := #[.int .i64 x.1]) Tryd.underlying46 info_int (by decide) (by decide) (by kernel_rfl) ?_; intro gn W5 e hn; have hnew := hn.here; rw [← e] at hnew; replace s := s.new hn; replace o1 := o1.new hn; replace o2 := o2.new hn; replace rw := rw.new hn; clear hn e ca cb ca0 ca1)
            | ((with_reducible refine gate_append ?_); refine wpList_appendRow rfl rfl Tryd.underlying46 info_int rfl (by decide) rfl s rw rfl (news := [.int .i64 x.1]) rfl (by simp) (cells_here hnew) (by simp [Value.oneCell']) (by omega) (by decide) ?_; intro v2 W6 r2 gr; have hn12 := o1.apart gr hn1; have hn22 := o2.apart gr hn2; replace s := s.grown rw gr; replace o1 := o1.grown gr hn1; replace o2 := o2.grown gr hn2; obtain ⟨a2, n2, c2, rfl⟩ := r2.form; clear gr rw hnew)
            | fail)
        go_roundw
        case rel => exact ⟨i + 1, k, os ++ [x.1], by omega, by omega, by go_num, by go_num, rd_left hout Hxn.out (.inl (by omega)), s, o1, o2, by simpa [encZ, List.flatMap_append] using r2, hn12, hn22, _, _, _, rfl⟩
        case measure => simp [intOf]; omega
    · have bi : ((i : Int) == (A.length : Int)) = true := by simp; omega
      by_cases hkB : k < B.length
      · obtain ⟨y, hyn⟩ : ∃ y, B[k]? = some y := ⟨_, List.getElem?_eq_getElem hkB⟩
        obtain ⟨bb, ob, csb, tyb, frb, rfl, hkbb, hjb⟩ := Hy.out k y hyn
        have cb0 := (s.inn.cell hkbb (ob + k * 2)).trans (hjb 0 _ rfl)
        have cb1 := (s.inn.cell hkbb (ob + k * 2 + 1)).trans (hjb 1 _ rfl)
        have Hyn := Lib.hid hyn
        clear hjb hyn
        have bk : ((k : Int) == (B.length : Int)) = false := by simp; omega
        go_wp2
        go_quiet (fail)
        replace s := s.drewN nq; replace o1 := o1.drewN nq; replace o2 := o2.drewN nq; replace rw := rw.drewN nq
        go_wp2
        go_quiet (fail)
        replace s := s.drewN nq; replace o1 := o1.drewN nq; replace o2 := o2.drewN nq; replace rw := rw.drewN nq
        simp only [World.drewN_drewN] at s o1 o2 rw
        go_wp2_with (first
            | ((with_reducible refine gate_buildSlice (T := 46) ?_); refine wpList_buildSlice1 rfl rfl rfl (cs := #[.int .i64 y.1]) Tryd.underlying46 info_int (by decide) (by decide) (by kernel_rfl) ?_; intro gn W5 e hn; have hnew := hn.here; rw [← e] at hnew; replace s := s.new hn; replace o1 := o1.new hn; replace o2 := o2.new hn; replace rw := rw.new hn; clear hn e ca cb cb0 cb1)
            | ((with_reducible refine gate_append ?_); refine wpList_appendRow rfl rfl Tryd.underlying46 info_int rfl (by decide) rfl s rw rfl (news := [.int .i64 y.1]) rfl (by simp) (cells_here hnew) (by simp [Value.oneCell']) (by omega) (by decide) ?_; intro v2 W6 r2 gr; have hn12 := o1.apart gr hn1; have hn22 := o2.apart gr hn2; replace s := s.grown rw gr; replace o1 := o1.grown gr hn1; replace o2 := o2.grown gr hn2; obtain ⟨a2, n2, c2, rfl⟩ := r2.form; clear gr rw hnew)
            | fail)
        go_roundw
        case rel => exact ⟨i, k + 1, os ++ [y.1], by omega, by omega, by go_num, by go_num, rd_right hout Hyn.out (.inl (by omega)), s, o1, o2, by simpa [encZ, List.flatMap_append] using r2, hn12, hn22, _, _, _, rfl⟩
        case measure => simp [intOf]; omega
      · go_wp2
        go_ret
        obtain ⟨K3, s3, hE3, hS, hK3⟩ := rw.fix s (enc := encZ) (fun _ => rfl) rfl rfl
        have e := hout.out
        rw [List.drop_eq_nil_of_le (by omega), List.drop_eq_nil_of_le (by omega)] at e
        simp only [rdiff, List.append_nil] at e
        subst e
        exact s3.ret ⟨hS, hE3⟩

set_option maxRecDepth 100000 in
theorem rEqual_ok (K : Fz) (sa sb : Value) (A B : Ents) (w : World) (hK : K.In w) (hSa : SlK K 2 encE sa A) (hSb : SlK K 2 encE sb B) (hA : A.length ≤ 1000000) (hB : B.length ≤ 1000000) :
    Calls Tryd.prog 17 #[.agg #[sa], .agg #[sb]] w fun e w' => e = .returned (.bool (rdiff A B).isEmpty) ∧ Below w.heap.size w w' := by
  have hr := fun W (hW : K.In W) => rDiff_ok K sa sb A B W hW hSa hSb hA hB
  obtain ⟨a, cap, rfl, hcap, hx⟩ := hSa
  obtain ⟨b, cap', rfl, hcap', hy⟩ := hSb
  have s := St.start hK
  have Hx : Hid ((rdiff A B).isEmpty = ((((rdiff A B).length : Nat) : Int) == 0)) := Lib.hid (by cases rdiff A B with | nil => rfl | cons x xs => simp; omega)
  clear hx hy
  go_enter Tryd.func17, Tryd.ntmps17
  go_wp2_with (first
    | ((with_reducible refine gate_box (T := 35) (x := .tmp 0) ?_); refine wpList_boxG rfl rfl rfl (cs := #[.slice a A.length cap]) rfl ?_; intro g1 W1 e hn; have o1 := Own.made s e hn; replace s := s.new hn; clear e hn)
    | ((with_reducible refine gate_box (T := 35) (x := .tmp 1) ?_); refine wpList_boxG rfl rfl rfl (cs := #[.slice b B.length cap']) rfl ?_; intro g2 W2 e hn; have o2 := Own.made s e hn; replace s := s.new hn; replace o1 := o1.new hn; clear e hn)
    | ((with_reducible refine gate_load (T := 35) (x := .tmp 2) ?_); refine wpList_load_row rfl 35 _ rfl _ rfl 35 _ _ _ o1.at_ Tryd.underlying35 rfl (by kernel_rfl) ?_)
    | ((with_reducible refine gate_load (T := 35) (x := .tmp 3) ?_); refine wpList_load_row rfl 35 _ rfl _ rfl 35 _ _ _ o2.at_ Tryd.underlying35 rfl (by kernel_rfl) ?_)
    | (go_at_call 21; refine (hr _ s.inn).mono ?_; rintro e W4 ⟨v, K', rfl, hi, hl, hb', ⟨va, vc, rfl, _⟩, _⟩; replace s := s.call hi hl hb'; clear o1 o2)
    | fail)
  go_ret
  exact ⟨by rw [Hx.out]; rfl, s.below⟩
end Go.Proofs.YtpfdlpniijgakaaDoor
