/- What a walk yields: no program in sight. -/
import Derived.Test.YtdaagmhkhfcmdaaPureB
import Derived.Test.YtdaagmhkhfcmdaaWalkW
namespace Go.Proofs.Ytdaagmhkhfcmdaa
open Go

theorem or_off {a b : Bool} (h : (a || b) = false) : a = false ∧ b = false := by simpa using h
theorem pow_step (i M r : Nat) (hi : i < 16) (hr : r < M) : i * M + r < M * 16 := by
  calc i * M + r < i * M + M := by omega
    _ = (i + 1) * M := by rw [Nat.succ_mul]
    _ ≤ 16 * M := Nat.mul_le_mul_right _ (by omega)
    _ = M * 16 := Nat.mul_comm _ _

/-- What a walk yields of the blocks from f to u. -/
def walks : Nat → PT → Int → Int → Int → List (Int × Int)
  | 0, t, first, f, u => (List.range 16).flatMap fun i => if t.has.testBit i && !(decide (first + (i : Nat) + 1 ≤ f) || decide (u ≤ first + (i : Nat))) then [(first + (i : Nat), t.chunk i)] else []
  | L + 1, t, first, f, u => (List.range 16).flatMap fun i => if t.has.testBit i && !(decide (first + ((i * 16 ^ (L + 1) : Nat) : Int) + ((16 ^ (L + 1) : Nat) : Int) ≤ f) || decide (u ≤ first + ((i * 16 ^ (L + 1) : Nat) : Int))) then walks L (t.kid i) (first + ((i * 16 ^ (L + 1) : Nat) : Int)) f u else []

theorem walks_mem : ∀ (L : Nat) (t : PT) (first f u : Int), t.Wf L → ∀ x c, (x, c) ∈ walks L t first f u ↔ ∃ r : Nat, r < 16 ^ (L + 1) ∧ x = first + (r : Int) ∧ t.get L r = (c, true) ∧ f ≤ x ∧ x < u
  | 0, t, first, f, u, wt, x, c => by
    unfold walks
    simp only [List.mem_flatMap, List.mem_range]
    constructor
    · rintro ⟨i, hi, h⟩
      split at h
      · rename_i h2
        simp only [Bool.and_eq_true, Bool.not_eq_true', Bool.or_eq_false_iff, decide_eq_false_iff_not] at h2
        have hx : x = first + (i : Nat) ∧ c = t.chunk i := by simpa using h
        refine ⟨i, hi, hx.1, ?_, by omega, by omega⟩
        rw [get_low t hi, hx.2, h2.1]
      · simp at h
    · rintro ⟨i, hi, rfl, h, h1, h2⟩
      have hi : i < 16 := hi
      rw [get_low t hi] at h
      obtain ⟨e1, e2⟩ := Prod.mk.inj h
      refine ⟨i, hi, ?_⟩
      rw [if_pos]
      · simp [e1]
      · simp only [Bool.and_eq_true, Bool.not_eq_true', Bool.or_eq_false_iff, decide_eq_false_iff_not]
        exact ⟨e2, by omega, by omega⟩
  | L + 1, t, first, f, u, wt, x, c => by
    unfold walks
    simp only [List.mem_flatMap, List.mem_range]
    constructor
    · rintro ⟨i, hi, h⟩
      split at h
      · obtain ⟨r, hr, rfl, hg, h1, h2⟩ := (walks_mem L _ _ f u (wt.kid i) x c).1 h
        refine ⟨i * 16 ^ (L + 1) + r, ?_, by rw [Int.natCast_add]; omega, ?_, h1, h2⟩
        · rw [Nat.pow_succ 16 (L + 1)]; exact pow_step _ _ _ hi hr
        · rw [get_kid t hi hr]; exact hg
      · simp at h
    · rintro ⟨q, hq, rfl, hg, h1, h2⟩
      have hM : 0 < 16 ^ (L + 1) := Nat.pow_pos (by omega)
      have hi : q / 16 ^ (L + 1) < 16 := by
        rw [Nat.div_lt_iff_lt_mul hM, Nat.mul_comm, ← Nat.pow_succ]; exact hq
      have hr : q % 16 ^ (L + 1) < 16 ^ (L + 1) := Nat.mod_lt _ hM
      have e : q / 16 ^ (L + 1) * 16 ^ (L + 1) + q % 16 ^ (L + 1) = q := Nat.div_add_mod' _ _
      rw [← e, get_kid t hi hr] at hg
      have hbit : t.has.testBit (q / 16 ^ (L + 1)) = true := by
        cases hb : t.has.testBit (q / 16 ^ (L + 1)) with
        | true => rfl
        | false => rw [(wt.kid_nil hi).1 hb, get_nil] at hg; cases hg
      refine ⟨q / 16 ^ (L + 1), hi, ?_⟩
      have hx : first + (q : Int) = first + ((q / 16 ^ (L + 1) * 16 ^ (L + 1) : Nat) : Int) + ((q % 16 ^ (L + 1) : Nat) : Int) := by
        rw [Int.add_assoc, ← Int.natCast_add, e]
      rw [hx] at h1 h2 ⊢
      generalize q % 16 ^ (L + 1) = r at *
      generalize q / 16 ^ (L + 1) = i at *
      generalize he : 16 ^ (L + 1) = M at *
      rw [if_pos]
      · exact (walks_mem L _ _ f u (wt.kid i) _ c).2 ⟨r, by omega, rfl, hg, h1, h2⟩
      · rw [hbit]
        simp only [Bool.and_eq_true, Bool.not_eq_true', Bool.or_eq_false_iff, decide_eq_false_iff_not]
        exact ⟨trivial, by omega, by omega⟩

theorem flat_srt2 {f : Nat → Ents} {first : Int} {M : Nat} : ∀ n, (∀ i, i < n → Srt (f i)) → (∀ i, i < n → ∀ x ∈ f i, first + ((i * M : Nat) : Int) ≤ x.1 ∧ x.1 < first + ((i * M : Nat) : Int) + M) → Srt ((List.range n).flatMap f)
  | 0, _, _ => by simp [Srt]
  | n + 1, h1, h2 => by
    unfold Srt
    rw [List.range_succ, List.flatMap_append, List.pairwise_append]
    refine ⟨flat_srt2 n (fun i hi => h1 i (by omega)) (fun i hi => h2 i (by omega)), by simpa [Srt] using h1 n (by omega), ?_⟩
    intro x hx y hy
    obtain ⟨i, hi, hx⟩ := List.mem_flatMap.1 hx
    rw [List.mem_range] at hi
    have h3 := h2 i (by omega) x hx
    have h4 := h2 n (by omega) y (by simpa using hy)
    have h5 : (i + 1) * M ≤ n * M := Nat.mul_le_mul_right _ hi
    rw [Nat.succ_mul] at h5
    generalize i * M = a at *
    generalize n * M = b at *
    omega
theorem walks_srt : ∀ (L : Nat) (t : PT) (first f u : Int), t.Wf L → Srt (walks L t first f u)
  | 0, t, first, f, u, wt => by
    unfold walks
    refine flat_srt2 (first := first) (M := 1) 16 (fun i hi => ?_) (fun i hi x hx => ?_)
    · split <;> simp [Srt]
    · split at hx
      · obtain rfl := List.mem_singleton.1 hx
        simp only
        omega
      · simp at hx
  | L + 1, t, first, f, u, wt => by
    unfold walks
    refine flat_srt2 (first := first) (M := 16 ^ (L + 1)) 16 (fun i hi => ?_) (fun i hi x hx => ?_)
    · split
      · exact walks_srt L _ _ f u (wt.kid i)
      · simp [Srt]
    · split at hx
      · obtain ⟨r, hr, e, _⟩ := (walks_mem L _ _ f u (wt.kid i) x.1 x.2).1 hx
        rw [e]
        generalize 16 ^ (L + 1) = M at *
        generalize i * M = a at *
        omega
      · simp at hx

/-- What Range yields. -/
theorem Rep.walks {t : PT} {n : Int} {L : Ents} (h : Rep t n L) (f u : Int) : Go.Proofs.Ytdaagmhkhfcmdaa.walks 2 t 0 f u = L.filter (inR f u) := by
  refine sorted_ext Prod.fst _ _ (walks_srt 2 t 0 f u h.wf) (List.Pairwise.filter _ h.srt) fun x => ?_
  obtain ⟨x, c⟩ := x
  rw [walks_mem 2 t 0 f u h.wf, List.mem_filter, ← rget_mem h.srt, ← h.look]
  simp only [inR, Bool.and_eq_true, decide_eq_true_eq]
  constructor
  · rintro ⟨r, hr, rfl, hg, h1, h2⟩
    have hr : r < 4096 := hr
    refine ⟨?_, h1, h2⟩
    unfold PT.look
    rw [if_pos (by omega)]
    have : (0 + (r : Int)).toNat = r := by omega
    rw [this]; exact hg
  · rintro ⟨hl, h1, h2⟩
    unfold PT.look at hl
    by_cases hv : 0 ≤ x ∧ x < 4096
    · rw [if_pos hv] at hl
      exact ⟨x.toNat, by have : (16 : Nat) ^ (2 + 1) = 4096 := rfl; omega, by omega, hl, h1, h2⟩
    · rw [if_neg hv] at hl; cases hl
theorem walkPart_walks : ∀ (L : Nat) (t : PT) (first f u : Int), walkTo L t first f u 16 = walks L t first f u
  | 0, t, first, f, u => by
    unfold walkTo walks
    congr 1
    funext i
    unfold walkIf walkPart
    simp
  | L + 1, t, first, f, u => by
    unfold walkTo walks
    congr 1
    funext i
    unfold walkIf
    rw [walkPart_succ, walkPart_walks L]

end Go.Proofs.Ytdaagmhkhfcmdaa
