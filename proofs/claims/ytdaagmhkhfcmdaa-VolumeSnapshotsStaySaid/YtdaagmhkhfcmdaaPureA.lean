/- Sorted lists of entries: no program in sight. -/
import Derived.Test.YtdaagmhkhfcmdaaWf
import Derived.Lib.Hide
namespace Go.Proofs.Ytdaagmhkhfcmdaa
open Go Go.RowKit

abbrev Ents := List (Int × Int)
def encE (x : Int × Int) : List Value := [.int .i64 x.1, .int .i64 x.2]

/-- The index of a block, or of the first greater one. -/
def fnd : Ents → Int → Nat
  | [], _ => 0
  | x :: xs, b => if b ≤ x.1 then 0 else fnd xs b + 1
def hit (L : Ents) (b : Int) : Bool := match L[fnd L b]? with | some x => x.1 == b | none => false
def rget (L : Ents) (b : Int) : Int × Bool := match L[fnd L b]? with | some x => if x.1 == b then (x.2, true) else (0, false) | none => (0, false)

theorem fnd_le : ∀ (L : Ents) (b : Int), fnd L b ≤ L.length
  | [], _ => Nat.le_refl _
  | x :: xs, b => by
    unfold fnd
    split
    · exact Nat.zero_le _
    · simp
      exact fnd_le xs b
theorem fnd_stop : ∀ {L : Ents} {b : Int} {i : Nat} {x : Int × Int}, (∀ (j : Nat) y, j < i → L[j]? = some y → y.1 < b) → L[i]? = some x → b ≤ x.1 → fnd L b = i
  | [], _, _, _, _, h, _ => by simp at h
  | y :: ys, b, 0, x, _, h, hb => by
    obtain rfl : y = x := by simpa using h
    simp [fnd, hb]
  | y :: ys, b, i + 1, x, hl, h, hb => by
    have h0 := hl 0 y (by omega) rfl
    have : ¬ b ≤ y.1 := by omega
    simp only [fnd, this, if_false, Nat.add_right_cancel_iff]
    exact fnd_stop (fun j z hj hz => hl (j + 1) z (by omega) (by simpa using hz)) (by simpa using h) hb
theorem fnd_end : ∀ {L : Ents} {b : Int}, (∀ (j : Nat) y, j < L.length → L[j]? = some y → y.1 < b) → fnd L b = L.length
  | [], _, _ => rfl
  | y :: ys, b, hl => by
    have h0 := hl 0 y (by simp) rfl
    have : ¬ b ≤ y.1 := by omega
    simp only [fnd, this, if_false, List.length_cons, Nat.add_right_cancel_iff]
    exact fnd_end (fun j z hj hz => hl (j + 1) z (by simpa using hj) (by simpa using hz))

def inR (f t : Int) (x : Int × Int) : Bool := decide (f ≤ x.1) && decide (x.1 < t)
/-- The blocks that two lists do not map alike. -/
def rdiff : Ents → Ents → List Int
  | [], [] => []
  | x :: xs, [] => x.1 :: rdiff xs []
  | [], y :: ys => y.1 :: rdiff [] ys
  | x :: xs, y :: ys => if x.1 < y.1 then x.1 :: rdiff xs (y :: ys) else if y.1 < x.1 then y.1 :: rdiff (x :: xs) ys else if x.2 = y.2 then rdiff xs ys else x.1 :: rdiff xs ys
termination_by a b => a.length + b.length

theorem rdiff_len : ∀ (a b : Ents), (rdiff a b).length ≤ a.length + b.length
  | [], [] => by simp [rdiff]
  | x :: xs, [] => by have := rdiff_len xs []; simp [rdiff] at *; omega
  | [], y :: ys => by have := rdiff_len [] ys; simp [rdiff] at *; omega
  | x :: xs, y :: ys => by
    have h1 := rdiff_len xs (y :: ys)
    have h2 := rdiff_len (x :: xs) ys
    have h3 := rdiff_len xs ys
    rw [rdiff]
    simp only [List.length_cons] at *
    split
    · simp; omega
    · split
      · simp; omega
      · split
        · omega
        · simp; omega
termination_by a b => a.length + b.length

def rset (L : Ents) (b c : Int) : Ents := if 0 ≤ b ∧ b ≤ 4095 then L.take (fnd L b) ++ [(b, c)] ++ L.drop (fnd L b + (if hit L b then 1 else 0)) else L
def rclr (L : Ents) (b : Int) : Ents := if hit L b then L.take (fnd L b) ++ L.drop (fnd L b + 1) else L

theorem rset_len (L : Ents) (b c : Int) : (rset L b c).length ≤ L.length + 1 := by
  unfold rset
  have := fnd_le L b
  split
  · split <;> simp <;> omega
  · omega
theorem rclr_len (L : Ents) (b : Int) : (rclr L b).length ≤ L.length := by
  unfold rclr
  have := fnd_le L b
  split
  · simp; omega
  · omega
/-- Increasing blocks. -/
def Srt (L : Ents) : Prop := L.Pairwise fun x y => x.1 < y.1
/-- Blocks that can be mapped. -/
def InB (L : Ents) : Prop := ∀ x ∈ L, 0 ≤ x.1 ∧ x.1 < 4096

theorem sorted_ext {α : Type} (f : α → Int) : ∀ (A B : List α), (A.Pairwise fun x y => f x < f y) → (B.Pairwise fun x y => f x < f y) → (∀ x, x ∈ A ↔ x ∈ B) → A = B
  | [], [], _, _, _ => rfl
  | [], y :: ys, _, _, h => by have := (h y).2 (by simp); simp at this
  | x :: xs, [], _, _, h => by have := (h x).1 (by simp); simp at this
  | x :: xs, y :: ys, hA, hB, h => by
    have hA' := List.pairwise_cons.1 hA
    have hB' := List.pairwise_cons.1 hB
    have e : x = y := by
      rcases List.mem_cons.1 ((h x).1 (by simp)) with e | e
      · exact e
      · rcases List.mem_cons.1 ((h y).2 (by simp)) with e2 | e2
        · exact e2.symm
        · have h1 := hB'.1 x e
          have h2 := hA'.1 y e2
          omega
    subst e
    rw [sorted_ext f xs ys hA'.2 hB'.2 fun z => ?_]
    constructor
    · intro hz
      rcases List.mem_cons.1 ((h z).1 (by simp [hz])) with e | e
      · subst e; have := hA'.1 _ hz; omega
      · exact e
    · intro hz
      rcases List.mem_cons.1 ((h z).2 (by simp [hz])) with e | e
      · subst e; have := hB'.1 _ hz; omega
      · exact e

theorem fnd_cons (x : Int × Int) (xs : Ents) (b : Int) : fnd (x :: xs) b = if b ≤ x.1 then 0 else fnd xs b + 1 := rfl
theorem hit_nil (b : Int) : hit [] b = false := rfl
theorem hit_cons (x : Int × Int) (xs : Ents) (b : Int) : hit (x :: xs) b = if b ≤ x.1 then x.1 == b else hit xs b := by
  by_cases h : b ≤ x.1
  · simp [hit, fnd_cons, h]
  · simp [hit, fnd_cons, h]
theorem rget_nil (b : Int) : rget [] b = (0, false) := rfl
theorem rget_cons (x : Int × Int) (xs : Ents) (b : Int) : rget (x :: xs) b = if b ≤ x.1 then (if x.1 = b then (x.2, true) else (0, false)) else rget xs b := by
  by_cases h : b ≤ x.1
  · simp [rget, fnd_cons, h]
  · simp [rget, fnd_cons, h]
theorem hit_rget : ∀ (L : Ents) (b : Int), hit L b = (rget L b).2
  | [], b => rfl
  | x :: xs, b => by
    rw [hit_cons, rget_cons]
    split
    · by_cases e : x.1 = b
      · simp [e]
      · simp [e]
    · exact hit_rget xs b
theorem rget_none {L : Ents} {b : Int} (h : (rget L b).2 = false) : rget L b = (0, false) := by
  induction L with
  | nil => rfl
  | cons x xs ih =>
    rw [rget_cons] at h ⊢
    split
    · rename_i hle
      rw [if_pos hle] at h
      split
      · rename_i e; simp [e] at h
      · rfl
    · rename_i hle
      rw [if_neg hle] at h
      exact ih h
theorem rget_low {L : Ents} {b : Int} (h : ∀ y ∈ L, b < y.1) : rget L b = (0, false) := by
  cases L with
  | nil => rfl
  | cons x xs =>
    have := h x (by simp)
    rw [rget_cons, if_pos (by omega), if_neg (by omega)]
theorem rget_mem {L : Ents} (hs : Srt L) {b c : Int} : rget L b = (c, true) ↔ (b, c) ∈ L := by
  induction L with
  | nil => simp [rget_nil]
  | cons x xs ih =>
    have hs' := List.pairwise_cons.1 hs
    rw [rget_cons, List.mem_cons]
    split
    · rename_i hle
      split
      · rename_i e
        constructor
        · intro h; exact .inl (by cases h; rw [← e])
        · rintro (h | h)
          · rw [← h]
          · have := hs'.1 _ h; simp only at this; omega
      · rename_i e
        constructor
        · intro h; cases h
        · rintro (h | h)
          · exact (e (by rw [← h])).elim
          · have := hs'.1 _ h; simp only at this; omega
    · rename_i hle
      rw [ih hs'.2]
      constructor
      · exact .inr
      · rintro (h | h)
        · exact (hle (by rw [← h]; exact Int.le_refl _)).elim
        · exact h
theorem rget_out {L : Ents} (hs : Srt L) (hb : InB L) {b : Int} (h : ¬ (0 ≤ b ∧ b < 4096)) : rget L b = (0, false) := by
  apply rget_none
  cases e : (rget L b).2 with
  | false => rfl
  | true =>
    have : rget L b = ((rget L b).1, true) := by rw [← e]
    exact (h (hb _ ((rget_mem hs).1 this))).elim

theorem ents_ext {A B : Ents} (hA : Srt A) (hB : Srt B) (h : ∀ b, rget A b = rget B b) : A = B := by
  refine sorted_ext Prod.fst A B hA hB fun x => ?_
  have h1 := rget_mem hA (b := x.1) (c := x.2)
  have h2 := rget_mem hB (b := x.1) (c := x.2)
  rw [h] at h1
  exact h1.symm.trans h2

/-- An entry laid in. -/
def insE : Ents → Int → Int → Ents
  | [], b, c => [(b, c)]
  | x :: xs, b, c => if b ≤ x.1 then (if x.1 = b then (b, c) :: xs else (b, c) :: x :: xs) else x :: insE xs b c
theorem rset_eq : ∀ (L : Ents) (b c : Int), (0 ≤ b ∧ b ≤ 4095) → rset L b c = insE L b c
  | [], b, c, h => by simp [rset, h, insE, fnd]
  | x :: xs, b, c, h => by
    have ih := rset_eq xs b c h
    unfold rset at ih ⊢
    rw [if_pos h] at ih ⊢
    rw [fnd_cons, hit_cons, insE]
    split
    · by_cases e : x.1 = b
      · simp [e]
      · simp [e]
    · rw [← ih, Nat.add_right_comm, List.drop_succ_cons, List.take_succ_cons]
      rfl
/-- An entry taken out. -/
def delE : Ents → Int → Ents
  | [], _ => []
  | x :: xs, b => if b ≤ x.1 then (if x.1 = b then xs else x :: xs) else x :: delE xs b
theorem rclr_eq : ∀ (L : Ents) (b : Int), rclr L b = delE L b
  | [], b => by simp [rclr, hit_nil, delE]
  | x :: xs, b => by
    have ih := rclr_eq xs b
    unfold rclr at ih ⊢
    rw [fnd_cons, hit_cons, delE]
    split
    · by_cases e : x.1 = b
      · simp [e]
      · simp [e]
    · rw [← ih]
      split <;> simp

theorem insE_mem {L : Ents} {b c : Int} {x : Int × Int} (h : x ∈ insE L b c) : x = (b, c) ∨ x ∈ L := by
  induction L with
  | nil => simp [insE] at h; exact .inl h
  | cons y ys ih =>
    rw [insE] at h
    split at h
    · split at h
      · rcases List.mem_cons.1 h with h | h
        · exact .inl h
        · exact .inr (by simp [h])
      · rcases List.mem_cons.1 h with h | h
        · exact .inl h
        · exact .inr h
    · rcases List.mem_cons.1 h with h | h
      · exact .inr (by simp [h])
      · rcases ih h with h | h
        · exact .inl h
        · exact .inr (by simp [h])
theorem insE_srt : ∀ {L : Ents} {b c : Int}, Srt L → Srt (insE L b c)
  | [], b, c, _ => by simp [insE, Srt]
  | x :: xs, b, c, hs => by
    have hs' := List.pairwise_cons.1 hs
    rw [insE]
    split
    · split
      · rename_i e
        exact List.pairwise_cons.2 ⟨fun y hy => by have := hs'.1 y hy; simp only; omega, hs'.2⟩
      · refine List.pairwise_cons.2 ⟨fun y hy => ?_, hs⟩
        rcases List.mem_cons.1 hy with rfl | hy
        · simp only; omega
        · have := hs'.1 y hy; simp only; omega
    · refine List.pairwise_cons.2 ⟨fun y hy => ?_, insE_srt hs'.2⟩
      rcases insE_mem hy with rfl | hy
      · simp only; omega
      · exact hs'.1 y hy
theorem delE_mem {L : Ents} {b : Int} {x : Int × Int} (h : x ∈ delE L b) : x ∈ L := by
  induction L with
  | nil => exact h
  | cons y ys ih =>
    rw [delE] at h
    split at h
    · split at h
      · simp [h]
      · exact h
    · rcases List.mem_cons.1 h with h | h
      · simp [h]
      · simp [ih h]
theorem delE_srt : ∀ {L : Ents} {b : Int}, Srt L → Srt (delE L b)
  | [], b, _ => by simp [delE, Srt]
  | x :: xs, b, hs => by
    have hs' := List.pairwise_cons.1 hs
    rw [delE]
    split
    · split
      · exact hs'.2
      · exact hs
    · exact List.pairwise_cons.2 ⟨fun y hy => hs'.1 y (delE_mem hy), delE_srt hs'.2⟩
theorem insE_get : ∀ {L : Ents} {b c : Int}, Srt L → ∀ z, rget (insE L b c) z = if z = b then (c, true) else rget L z
  | [], b, c, _, z => by
    rw [insE, rget_cons, rget_nil]
    split
    · simp only [eq_comm]
    · rw [if_neg (by simp only at *; omega)]
  | x :: xs, b, c, hs, z => by
    have hs' := List.pairwise_cons.1 hs
    have ih := insE_get (b := b) (c := c) hs'.2 z
    rw [insE]
    by_cases h1 : b ≤ x.1
    · rw [if_pos h1]
      by_cases h2 : x.1 = b
      · rw [if_pos h2, rget_cons, rget_cons]
        simp only [h2]
        by_cases h3 : z ≤ b
        · simp only [if_pos h3]
          by_cases h4 : b = z
          · simp [h4]
          · simp [h4, Ne.symm h4]
        · rw [if_neg h3, if_neg h3, if_neg (by omega)]
      · rw [if_neg h2, rget_cons]
        by_cases h3 : z ≤ b
        · simp only [if_pos h3]
          by_cases h4 : b = z
          · simp [h4]
          · rw [if_neg h4, if_neg (Ne.symm h4), rget_cons, if_pos (by omega), if_neg (by omega)]
        · simp only [if_neg h3]
          rw [if_neg (by omega)]
    · rw [if_neg h1, rget_cons, rget_cons]
      by_cases h3 : z ≤ x.1
      · have h4 : ¬ z = b := by omega
        simp only [if_pos h3, if_neg h4]
      · simp only [if_neg h3, ih]
theorem delE_get : ∀ {L : Ents} {b : Int}, Srt L → ∀ z, rget (delE L b) z = if z = b then (0, false) else rget L z
  | [], b, _, z => by rw [delE, rget_nil]; simp
  | x :: xs, b, hs, z => by
    have hs' := List.pairwise_cons.1 hs
    have ih := delE_get (b := b) hs'.2 z
    rw [delE]
    by_cases h1 : b ≤ x.1
    · rw [if_pos h1]
      by_cases h2 : x.1 = b
      · rw [if_pos h2]
        by_cases h4 : z = b
        · rw [if_pos h4]
          exact rget_low fun y hy => by have := hs'.1 y hy; omega
        · rw [if_neg h4, rget_cons]
          by_cases h3 : z ≤ x.1
          · rw [if_pos h3, if_neg (by omega)]
            exact rget_low fun y hy => by have := hs'.1 y hy; omega
          · rw [if_neg h3]
      · rw [if_neg h2]
        by_cases h4 : z = b
        · rw [if_pos h4, h4, rget_cons, if_pos h1, if_neg h2]
        · rw [if_neg h4]
    · rw [if_neg h1, rget_cons, rget_cons]
      by_cases h3 : z ≤ x.1
      · have h4 : ¬ z = b := by omega
        simp only [if_pos h3, if_neg h4]
      · simp only [if_neg h3, ih]
theorem insE_len : ∀ (L : Ents) (b c : Int), (insE L b c).length = L.length + if hit L b then 0 else 1
  | [], b, c => by simp [insE, hit_nil]
  | x :: xs, b, c => by
    rw [insE, hit_cons]
    by_cases h1 : b ≤ x.1
    · rw [if_pos h1, if_pos h1]
      by_cases h2 : x.1 = b
      · simp [h2]
      · simp [h2]
    · rw [if_neg h1, if_neg h1, List.length_cons, List.length_cons, insE_len xs b c]
      omega
theorem delE_len : ∀ (L : Ents) (b : Int), hit L b = true → (delE L b).length + 1 = L.length
  | [], b, h => by simp [hit_nil] at h
  | x :: xs, b, h => by
    rw [hit_cons] at h
    rw [delE]
    by_cases h1 : b ≤ x.1
    · rw [if_pos h1] at h ⊢
      have h2 : x.1 = b := by simpa using h
      rw [if_pos h2]; rfl
    · rw [if_neg h1] at h ⊢
      rw [List.length_cons, List.length_cons, delE_len xs b h]
theorem delE_same : ∀ (L : Ents) (b : Int), hit L b = false → delE L b = L
  | [], b, h => rfl
  | x :: xs, b, h => by
    rw [hit_cons] at h
    rw [delE]
    by_cases h1 : b ≤ x.1
    · rw [if_pos h1] at h ⊢
      have h2 : ¬ x.1 = b := by simpa using h
      rw [if_neg h2]
    · rw [if_neg h1] at h ⊢
      rw [delE_same xs b h]

/-- The blocks in which two lists differ. -/
theorem rdiff_mem : ∀ (A B : Ents), Srt A → Srt B → ∀ z, z ∈ rdiff A B ↔ rget A z ≠ rget B z
  | [], [], _, _, z => by simp [rdiff]
  | x :: xs, [], hA, hB, z => by
    have hs := List.pairwise_cons.1 hA
    have ih := rdiff_mem xs [] hs.2 hB z
    rw [rget_nil] at ih
    rw [rdiff, List.mem_cons, ih, rget_cons, rget_nil]
    by_cases h1 : z ≤ x.1
    · rw [if_pos h1, rget_low (L := xs) fun y hy => by have := hs.1 y hy; omega]
      by_cases h2 : x.1 = z
      · simp [h2]
      · simp [h2, Ne.symm h2]
    · rw [if_neg h1]
      have : ¬ z = x.1 := by omega
      simp [this]
  | [], y :: ys, hA, hB, z => by
    have hs := List.pairwise_cons.1 hB
    have ih := rdiff_mem [] ys hA hs.2 z
    rw [rget_nil] at ih
    rw [rdiff, List.mem_cons, ih, rget_cons, rget_nil]
    by_cases h1 : z ≤ y.1
    · rw [if_pos h1, rget_low (L := ys) fun w hw => by have := hs.1 w hw; omega]
      by_cases h2 : y.1 = z
      · simp [h2]
      · simp [h2, Ne.symm h2]
    · rw [if_neg h1]
      have : ¬ z = y.1 := by omega
      simp [this]
  | x :: xs, y :: ys, hA, hB, z => by
    have hs := List.pairwise_cons.1 hA
    have ht := List.pairwise_cons.1 hB
    rw [rdiff]
    by_cases h0 : x.1 < y.1
    · rw [if_pos h0, List.mem_cons, rdiff_mem xs (y :: ys) hs.2 hB z, rget_cons x xs z]
      by_cases h1 : z ≤ x.1
      · rw [if_pos h1, rget_low (L := xs) fun w hw => by have := hs.1 w hw; omega]
        rw [rget_cons, if_pos (by omega), if_neg (by omega)]
        by_cases h2 : x.1 = z
        · simp [h2]
        · simp [h2, Ne.symm h2]
      · rw [if_neg h1]
        have : ¬ z = x.1 := by omega
        simp [this]
    · rw [if_neg h0]
      by_cases h0' : y.1 < x.1
      · rw [if_pos h0', List.mem_cons, rdiff_mem (x :: xs) ys hA ht.2 z, rget_cons y ys z]
        by_cases h1 : z ≤ y.1
        · rw [if_pos h1, rget_low (L := ys) fun w hw => by have := ht.1 w hw; omega]
          rw [rget_cons, if_pos (by omega), if_neg (by omega)]
          by_cases h2 : y.1 = z
          · simp [h2]
          · simp [h2, Ne.symm h2]
        · rw [if_neg h1]
          have : ¬ z = y.1 := by omega
          simp [this]
      · have e : x.1 = y.1 := by omega
        rw [if_neg h0', rget_cons x xs z, rget_cons y ys z, ← e]
        have ih := rdiff_mem xs ys hs.2 ht.2 z
        have hxl : z ≤ x.1 → rget xs z = (0, false) := fun h1 => rget_low fun w hw => by have := hs.1 w hw; omega
        have hyl : z ≤ x.1 → rget ys z = (0, false) := fun h1 => rget_low fun w hw => by have := ht.1 w hw; omega
        by_cases h3 : x.2 = y.2
        · rw [if_pos h3, ih, h3]
          by_cases h1 : z ≤ x.1
          · rw [hxl h1, hyl h1]; simp [h1]
          · rw [if_neg h1, if_neg h1]
        · rw [if_neg h3, List.mem_cons, ih]
          by_cases h1 : z ≤ x.1
          · rw [hxl h1, hyl h1, if_pos h1, if_pos h1]
            by_cases h2 : x.1 = z
            · simp [h2, h3]
            · simp [h2, Ne.symm h2]
          · rw [if_neg h1, if_neg h1]
            have : ¬ z = x.1 := by omega
            simp [this]
termination_by A B => A.length + B.length

theorem rdiff_low : ∀ (A B : Ents) (m : Int), (∀ x ∈ A, m < x.1) → (∀ x ∈ B, m < x.1) → ∀ z ∈ rdiff A B, m < z
  | [], [], m, _, _, z, h => by simp [rdiff] at h
  | x :: xs, [], m, hA, hB, z, h => by
    rw [rdiff, List.mem_cons] at h
    rcases h with rfl | h
    · exact hA x (by simp)
    · exact rdiff_low xs [] m (fun y hy => hA y (by simp [hy])) hB z h
  | [], y :: ys, m, hA, hB, z, h => by
    rw [rdiff, List.mem_cons] at h
    rcases h with rfl | h
    · exact hB y (by simp)
    · exact rdiff_low [] ys m hA (fun y hy => hB y (by simp [hy])) z h
  | x :: xs, y :: ys, m, hA, hB, z, h => by
    have hA' : ∀ w ∈ xs, m < w.1 := fun w hw => hA w (by simp [hw])
    have hB' : ∀ w ∈ ys, m < w.1 := fun w hw => hB w (by simp [hw])
    rw [rdiff] at h
    split at h
    · rcases List.mem_cons.1 h with rfl | h
      · exact hA x (by simp)
      · exact rdiff_low xs (y :: ys) m hA' hB z h
    · split at h
      · rcases List.mem_cons.1 h with rfl | h
        · exact hB y (by simp)
        · exact rdiff_low (x :: xs) ys m hA hB' z h
      · split at h
        · exact rdiff_low xs ys m hA' hB' z h
        · rcases List.mem_cons.1 h with rfl | h
          · exact hA x (by simp)
          · exact rdiff_low xs ys m hA' hB' z h
termination_by A B => A.length + B.length

theorem rdiff_srt : ∀ (A B : Ents), Srt A → Srt B → (rdiff A B).Pairwise fun x y => x < y
  | [], [], _, _ => by simp [rdiff]
  | x :: xs, [], hA, hB => by
    have hs := List.pairwise_cons.1 hA
    rw [rdiff]
    exact List.pairwise_cons.2 ⟨fun z hz => rdiff_low xs [] x.1 hs.1 (by simp) z hz, rdiff_srt xs [] hs.2 hB⟩
  | [], y :: ys, hA, hB => by
    have hs := List.pairwise_cons.1 hB
    rw [rdiff]
    exact List.pairwise_cons.2 ⟨fun z hz => rdiff_low [] ys y.1 (by simp) hs.1 z hz, rdiff_srt [] ys hA hs.2⟩
  | x :: xs, y :: ys, hA, hB => by
    have hs := List.pairwise_cons.1 hA
    have ht := List.pairwise_cons.1 hB
    rw [rdiff]
    split
    · rename_i h0
      refine List.pairwise_cons.2 ⟨fun z hz => rdiff_low xs (y :: ys) x.1 hs.1 (fun w hw => ?_) z hz, rdiff_srt xs (y :: ys) hs.2 hB⟩
      rcases List.mem_cons.1 hw with rfl | hw
      · exact h0
      · have := ht.1 w hw; omega
    · split
      · rename_i h0
        refine List.pairwise_cons.2 ⟨fun z hz => rdiff_low (x :: xs) ys y.1 (fun w hw => ?_) ht.1 z hz, rdiff_srt (x :: xs) ys hA ht.2⟩
        rcases List.mem_cons.1 hw with rfl | hw
        · exact h0
        · have := hs.1 w hw; omega
      · have e : x.1 = y.1 := by omega
        split
        · exact rdiff_srt xs ys hs.2 ht.2
        · exact List.pairwise_cons.2 ⟨fun z hz => rdiff_low xs ys x.1 hs.1 (by rw [e]; exact ht.1) z hz, rdiff_srt xs ys hs.2 ht.2⟩
termination_by A B => A.length + B.length

theorem rdiff_nil {A B : Ents} (hA : Srt A) (hB : Srt B) : rdiff A B = [] ↔ A = B := by
  constructor
  · intro h
    refine ents_ext hA hB fun b => ?_
    have := rdiff_mem A B hA hB b
    rw [h] at this
    exact Classical.not_not.1 fun hne => by simpa using this.2 hne
  · rintro rfl
    refine List.eq_nil_iff_forall_not_mem.2 fun z hz => ?_
    exact (rdiff_mem A A hA hA z).1 hz rfl
end Go.Proofs.Ytdaagmhkhfcmdaa
