/- A slice in frozen memory, read as a list: no program in sight. -/
import Derived.Test.YtdaagmhkhfcmdaaOps
namespace Go.Proofs.Ytdaagmhkhfcmdaa
open Go Go.RowKit

/-- The value v is a slice whose elements are xs; an element takes sz cells. -/
def SlK {α : Type} (K : Fz) (sz : Nat) (enc : α → List Value) (v : Value) (xs : List α) : Prop :=
  ∃ a cap, v = .slice a xs.length cap ∧ xs.length ≤ cap ∧
    ∀ (i : Nat) (x : α), xs[i]? = some x → ∃ b off cs t fr, a = some ⟨b, off, none⟩ ∧ K b = some (.cells cs t fr) ∧ ∀ (j : Nat) (u : Value), (enc x)[j]? = some u → cs[off + i * sz + j]? = some u

section
variable {α : Type} {K K' : Fz} {sz : Nat} {enc : α → List Value} {v : Value} {xs : List α}
theorem SlK.nil (K : Fz) (sz : Nat) (enc : α → List Value) (a : Option Addr) (c : Nat) : SlK K sz enc (.slice a 0 c) ([] : List α) := ⟨a, c, rfl, Nat.zero_le _, fun i x h => by simp at h⟩
theorem SlK.keep (h : SlK K sz enc v xs) (hk : ∀ b o, K b = some o → K' b = some o) : SlK K' sz enc v xs := by
  obtain ⟨a, cap, rfl, hc, hx⟩ := h
  refine ⟨a, cap, rfl, hc, fun i x hi => ?_⟩
  obtain ⟨b, off, cs, t, fr, ha, hb, hj⟩ := hx i x hi
  exact ⟨b, off, cs, t, fr, ha, hk _ _ hb, hj⟩
theorem SlK.call {W : World} (h : SlK K sz enc v xs) (hi : K.In W) (hl : K.Le W.heap.size K') : SlK K' sz enc v xs :=
  h.keep fun b o hk => hl.keep hi (Nat.le_refl _) hk
theorem SlK.add {g : Nat} {o : Obj} (h : SlK K sz enc v xs) (hg : K g = none) : SlK (K.add g o) sz enc v xs :=
  h.keep fun b o' hk => by rw [Fz.add_other _ _ (by rintro rfl; rw [hg] at hk; cases hk)]; exact hk
/-- An own row, frozen. -/
theorem SlK.made {W : World} {base g e n cap : Nat} {cells : List Value} (ho : W.ownsRow base e sz (.slice (some ⟨g, 0, none⟩) n cap) n cells) (hn : n = xs.length)
    (hl : ∀ x, (enc x).length = sz) (hc : cells = xs.flatMap enc) : ∃ cur t, W.heap[g]? = some (.cells cur t (0, 0)) ∧ base ≤ g ∧ ∀ K : Fz, SlK (K.add g (.cells cur t (0, 0))) sz enc (.slice (some ⟨g, 0, none⟩) n cap) xs := by
  subst hn hc
  obtain ⟨hlen, (⟨h1, h2⟩ | ⟨g', cap', cur, h1, hb, hg, hnc, hcm, hcs, ht⟩)⟩ := ho
  · cases h1
  · cases h1
    refine ⟨_, _, hg, hb, fun K => ⟨_, _, rfl, hnc, fun i x hi => ⟨g, 0, cur, e, _, rfl, Fz.add_self _ _ _, fun j u hu => ?_⟩⟩⟩
    have hj : j < sz := by rw [← hl x]; exact (List.getElem?_eq_some_iff.1 hu).1
    have hi' : i < xs.length := (List.getElem?_eq_some_iff.1 hi).1
    have key : ∀ (ys : List α) (i : Nat) (x : α), ys[i]? = some x → (ys.flatMap enc)[i * sz + j]? = (enc x)[j]? := by
      intro ys
      induction ys with
      | nil => intro i x h; simp at h
      | cons y ys ih =>
        intro i x h
        cases i with
        | zero =>
          obtain rfl : y = x := by simpa using h
          simp only [List.flatMap_cons, Nat.zero_mul, Nat.zero_add]
          rw [List.getElem?_append_left (by rw [hl]; exact hj)]
        | succ i =>
          have h' : ys[i]? = some x := by simpa using h
          rw [List.flatMap_cons, List.getElem?_append_right (by rw [hl, Nat.succ_mul]; omega), hl, ← ih i x h']
          congr 1
          rw [Nat.succ_mul]; omega
    have hk := key xs i x hi
    rw [hu, ← ht, List.getElem?_take] at hk
    split at hk
    · rw [Nat.zero_add]; simpa using hk
    · cases hk
end
end Go.Proofs.Ytdaagmhkhfcmdaa
