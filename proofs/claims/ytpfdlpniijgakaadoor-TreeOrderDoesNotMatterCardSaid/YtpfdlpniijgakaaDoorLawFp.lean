/- The plain law of TreeOrderDoesNotMatter: no program in sight. -/
import Derived.Test.YtpfdlpniijgakaaDoorLawD
import Derived.Test.YtpfdlpniijgakaaDoorLawE
namespace Go.Proofs.YtpfdlpniijgakaaDoor
open Go Go.RowKit
set_option maxHeartbeats 400000

/-! the plain law -/
def setAll (M : Ents) (E : Ents) : Ents := E.foldl (fun M x => rset M x.1 x.2) M
theorem rset_srt {M : Ents} (h : Srt M) (b c : Int) : Srt (rset M b c) := by
  by_cases hb : 0 ≤ b ∧ b ≤ 4095
  · rw [rset_eq M b c hb]; exact insE_srt h
  · unfold rset; rw [if_neg hb]; exact h
theorem rset_get2 {M : Ents} (hM : Srt M) (b c z : Int) : rget (rset M b c) z = if (0 ≤ b ∧ b < 4096) ∧ z = b then (c, true) else rget M z := by
  by_cases hb : 0 ≤ b ∧ b ≤ 4095
  · rw [rset_eq M b c hb, insE_get hM]
    by_cases hz : z = b
    · rw [if_pos hz, if_pos ⟨by omega, hz⟩]
    · rw [if_neg hz, if_neg (fun h => hz h.2)]
  · have : rset M b c = M := by unfold rset; rw [if_neg hb]
    rw [this, if_neg (fun h => hb (by omega))]
theorem setAll_srt : ∀ (E : Ents) {M : Ents}, Srt M → Srt (setAll M E)
  | [], _, h => h
  | x :: E, _, h => setAll_srt E (rset_srt h _ _)
theorem setAll_get : ∀ (E : Ents) {M : Ents}, Srt M → ∀ z, rget (setAll M E) z = if (rget (setAll [] E) z).2 = true then rget (setAll [] E) z else rget M z
  | [], M, h, z => by simp [setAll, rget_nil]
  | y :: E, M, h, z => by
    have e1 : setAll M (y :: E) = setAll (rset M y.1 y.2) E := rfl
    have e2 : setAll [] (y :: E) = setAll (rset [] y.1 y.2) E := rfl
    have s0 : Srt ([] : Ents) := List.Pairwise.nil
    rw [e1, e2, setAll_get E (rset_srt h _ _) z, setAll_get E (rset_srt s0 _ _) z]
    by_cases hg : (rget (setAll [] E) z).2 = true
    · simp only [hg, if_true]
    · simp only [hg, if_false]
      rw [rset_get2 h, rset_get2 s0, rget_nil]
      by_cases hc : (0 ≤ y.1 ∧ y.1 < 4096) ∧ z = y.1
      · simp [hc]
      · simp only [hc, if_false]
        simp
theorem setAll_snoc (E : Ents) (i : Nat) (x : Int × Int) (h : E[i]? = some x) : setAll [] (E.take (i + 1)) = rset (setAll [] (E.take i)) x.1 x.2 := by
  unfold setAll
  rw [List.take_add_one, h, List.foldl_append]
  rfl
theorem setAll_len : ∀ (E M : Ents), (setAll M E).length ≤ M.length + E.length
  | [], M => by simp [setAll]
  | x :: E, M => by
    have h1 := setAll_len E (rset M x.1 x.2)
    have h2 := rset_len M x.1 x.2
    have e : setAll M (x :: E) = setAll (rset M x.1 x.2) E := rfl
    rw [e, List.length_cons]; omega
theorem rget_eq_none {M : Ents} {z : Int} (h : ¬ (rget M z).2 = true) : rget M z = (0, false) := rget_none (by simpa using h)

/-- The tree c while the entries are laid in. -/
def CInv (F M : Ents) (O : List Int) : Prop := ∀ z, ((rget F z).2 = true → rget M z = rget F z) ∧ ((rget F z).2 = false → (rget M z).2 = true → z ∈ O)
theorem CInv.set {F M : Ents} {O : List Int} (hF : Srt F) (hM : Srt M) (h : CInv F M O) (b c : Int) : CInv (rset F b c) (rset M b c) O := by
  intro z
  rw [rset_get2 hF, rset_get2 hM]
  by_cases hc : (0 ≤ b ∧ b < 4096) ∧ z = b
  · rw [if_pos hc, if_pos hc]; simp
  · rw [if_neg hc, if_neg hc]; exact h z
theorem CInv.clear {F M : Ents} {O : List Int} {i : Nat} {e : Int} (hM : Srt M) (h : CInv F M (O.drop i)) (he : O[i]? = some e) : CInv F (if (rget F e).2 then M else rclr M e) (O.drop (i + 1)) := by
  have hd : O.drop i = e :: O.drop (i + 1) := by
    obtain ⟨hlt, rfl⟩ := List.getElem?_eq_some_iff.1 he
    exact List.drop_eq_getElem_cons hlt
  intro z
  have hz := h z
  rw [hd] at hz
  cases hF : (rget F e).2 with
  | true =>
    refine ⟨fun h1 => by simpa using hz.1 h1, fun h1 h2 => ?_⟩
    rcases List.mem_cons.1 (hz.2 h1 (by simpa using h2)) with rfl | h3
    · rw [hF] at h1; cases h1
    · exact h3
  | false =>
    simp only [Bool.false_eq_true, if_false]
    rw [rclr_get hM]
    by_cases hze : z = e
    · subst hze
      rw [if_pos rfl]
      exact ⟨fun h1 => (by rw [hF] at h1; cases h1), fun _ h2 => (by cases h2)⟩
    · rw [if_neg hze]
      refine ⟨hz.1, fun h1 h2 => ?_⟩
      rcases List.mem_cons.1 (hz.2 h1 h2) with rfl | h3
      · exact (hze rfl).elim
      · exact h3
theorem CInv.done {F M : Ents} (hF : Srt F) (hM : Srt M) (h : CInv F M []) : M = F := by
  refine ents_ext hM hF fun z => ?_
  by_cases h1 : (rget F z).2 = true
  · exact (h z).1 h1
  · rw [rget_eq_none h1]
    apply rget_none
    cases h2 : (rget M z).2 with
    | false => rfl
    | true => have := (h z).2 (by simpa using h1) h2; simp at this
/-- The tree b while the entries are laid in from the end. -/
theorem back_step {E M : Ents} {m : Nat} {x : Int × Int} (hM : Srt M) (hx : E[m]? = some x) (h : ∀ z, rget M z = rget (setAll [] (E.drop (m + 1))) z) :
    ∀ z, rget (if (rget M x.1).2 then M else rset M x.1 x.2) z = rget (setAll [] (E.drop m)) z := by
  have hd : E.drop m = x :: E.drop (m + 1) := by
    obtain ⟨hlt, rfl⟩ := List.getElem?_eq_some_iff.1 hx
    exact List.drop_eq_getElem_cons hlt
  have s0 : Srt ([] : Ents) := List.Pairwise.nil
  intro z
  have e : setAll [] (E.drop m) = setAll (rset [] x.1 x.2) (E.drop (m + 1)) := by rw [hd]; rfl
  rw [e, setAll_get (E.drop (m + 1)) (rset_srt s0 _ _) z, rset_get2 s0, rget_nil, ← h z]
  cases hh : (rget M x.1).2 with
  | true =>
    simp only [if_true]
    by_cases hz : (rget M z).2 = true
    · rw [if_pos hz]
    · rw [if_neg hz, if_neg, rget_eq_none hz]
      rintro ⟨_, rfl⟩
      exact hz hh
  | false =>
    simp only [Bool.false_eq_true, if_false]
    rw [rset_get2 hM]
    by_cases hc : (0 ≤ x.1 ∧ x.1 < 4096) ∧ z = x.1
    · have hz : ¬ (rget M z).2 = true := by rw [hc.2, hh]; simp
      rw [if_pos hc, if_neg hz, if_pos hc]
    · rw [if_neg hc, if_neg hc]
      by_cases h1 : (rget M z).2 = true
      · rw [if_pos h1]
      · rw [if_neg h1]; exact rget_eq_none h1

end Go.Proofs.YtpfdlpniijgakaaDoor
