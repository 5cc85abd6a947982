/- Well-formed trees: no program in sight. -/
import Derived.Test.YtdaagmhkhfcmdaaDoorGA
import Derived.Lib.Hide
import Derived.Test.YtdaagmhkhfcmdaaDoorGB
namespace Go.Proofs.YtdaagmhkhfcmdaaDoor
open Go

/-- A well-formed tree of a level. -/
def PT.Wf : Nat → PT → Prop
  | _, .nil => True
  | 0, .node _ h k c => h ≠ 0 ∧ h < 65536 ∧ (∀ i, k i = .nil) ∧ ∀ i, i < 16 → h.testBit i = false → c i = 0
  | L + 1, .node _ h k c => h ≠ 0 ∧ h < 65536 ∧ (∀ i, c i = 0) ∧ (∀ i, i < 16 → (h.testBit i = false ↔ k i = .nil)) ∧ ∀ i, (k i).Wf L

/-- Two blocks lie in one range of level L. -/
def same (L b c : Nat) : Prop := ∀ l, l ≤ L → sl l b = sl l c

theorem get_nil (L b : Nat) : PT.nil.get L b = (0, false) := by cases L <;> rfl
theorem get_node0 (t : PT) (b : Nat) : t.get 0 b = (t.chunk (sl 0 b), t.has.testBit (sl 0 b)) := by
  cases t with
  | nil => simp [PT.get, PT.chunk, PT.has]
  | node b' h k c => rfl
theorem get_nodeS (L : Nat) (t : PT) (b : Nat) : t.get (L + 1) b = (t.kid (sl (L + 1) b)).get L b := by
  cases t with
  | nil => rw [get_nil]; exact (get_nil L b).symm
  | node b' h k c => rfl

theorem PT.Wf.has0 {L : Nat} {t : PT} (h : t.Wf L) (hn : t ≠ .nil) : t.has ≠ 0 ∧ t.has < 65536 := by
  cases t with
  | nil => exact (hn rfl).elim
  | node b h' k c => cases L <;> exact ⟨h.1, h.2.1⟩
theorem PT.Wf.hasLt {L : Nat} {t : PT} (h : t.Wf L) : t.has < 65536 := by
  cases t with
  | nil => decide
  | node b h' k c => cases L <;> exact h.2.1

open Classical in
theorem get_set : ∀ (L n : Nat) (t t' : PT) (blk : Nat) (ch : Int), PT.Set L n t blk ch t' → ∀ b, t'.get L b = if same L b blk then (ch, true) else t.get L b
  | 0, n, t, t', blk, ch, ⟨g, _, e⟩, b => by
    subst e
    rw [get_node0]
    by_cases h : sl 0 b = sl 0 blk
    · have hs : same 0 b blk := fun l hl => by rw [show l = 0 from Nat.le_zero.1 hl]; exact h
      rw [if_pos hs]
      simp [PT.chunk, PT.has, h, upd, Nat.testBit_or, Nat.testBit_two_pow_self]
    · rw [if_neg (fun hs => h (hs 0 (Nat.le_refl _))), get_node0]
      simp only [PT.chunk, PT.has, upd, h, if_false, Nat.testBit_or, Nat.testBit_two_pow]
      have : decide (sl 0 blk = sl 0 b) = false := by simp; omega
      rw [this, Bool.or_false]
  | L + 1, n, t, t', blk, ch, ⟨g, k', _, hk, e⟩, b => by
    subst e
    rw [get_nodeS, get_nodeS]
    have ih := get_set L (g + 1) _ _ _ _ hk b
    by_cases h : sl (L + 1) b = sl (L + 1) blk
    · have e1 : (PT.node g (t.has ||| 2 ^ sl (L + 1) blk) (upd t.kid (sl (L + 1) blk) k') t.chunk).kid (sl (L + 1) b) = k' := by simp [PT.kid, upd, h]
      rw [e1, ih, h]
      have : same (L + 1) b blk ↔ same L b blk := by
        constructor
        · exact fun hs l hl => hs l (by omega)
        · intro hs l hl
          by_cases e : l = L + 1
          · subst e; exact h
          · exact hs l (by omega)
      by_cases hs : same L b blk
      · rw [if_pos hs, if_pos (this.2 hs)]
      · rw [if_neg hs, if_neg (fun x => hs (this.1 x))]
    · rw [if_neg (fun hs => h (hs _ (Nat.le_refl _)))]
      have e1 : (PT.node g (t.has ||| 2 ^ sl (L + 1) blk) (upd t.kid (sl (L + 1) blk) k') t.chunk).kid (sl (L + 1) b) = t.kid (sl (L + 1) b) := by simp [PT.kid, upd, h]
      rw [e1]

theorem or_ne {h i : Nat} : h ||| 2 ^ i ≠ 0 := by
  intro e
  have := congrArg (fun x => Nat.testBit x i) e
  simp [Nat.testBit_or, Nat.testBit_two_pow_self] at this
theorem or_lt16 {h i : Nat} (hh : h < 65536) (hi : i < 16) : h ||| 2 ^ i < 65536 := by
  have : (2 : Nat) ^ i < 2 ^ 16 := Nat.pow_lt_pow_right (by omega) hi
  exact Nat.or_lt_two_pow (n := 16) (by omega) this
theorem wf_set : ∀ (L n : Nat) (t t' : PT) (blk : Nat) (ch : Int), t.Wf L → PT.Set L n t blk ch t' → t'.Wf L ∧ t' ≠ .nil
  | 0, n, t, t', blk, ch, hw, ⟨g, _, e⟩ => by
    subst e
    refine ⟨⟨or_ne, or_lt16 hw.hasLt (sl_lt _ _), ?_, ?_⟩, by simp⟩
    · intro i
      cases t with
      | nil => rfl
      | node b h k c => exact hw.2.2.1 i
    · intro i hi hb
      rw [Nat.testBit_or, Nat.testBit_two_pow] at hb
      simp only [Bool.or_eq_false_iff, decide_eq_false_iff_not] at hb
      rw [upd_other _ _ (Ne.symm hb.2)]
      cases t with
      | nil => rfl
      | node b h k c => exact hw.2.2.2 i hi hb.1
  | L + 1, n, t, t', blk, ch, hw, ⟨g, k', _, hk, e⟩ => by
    subst e
    have hkw : (t.kid (sl (L + 1) blk)).Wf L := by
      cases t with
      | nil => exact (by cases L <;> trivial)
      | node b h k c => exact hw.2.2.2.2 _
    obtain ⟨h1, h2⟩ := wf_set L (g + 1) _ _ _ _ hkw hk
    refine ⟨⟨or_ne, or_lt16 hw.hasLt (sl_lt _ _), ?_, ?_, ?_⟩, by simp⟩
    · intro i
      cases t with
      | nil => rfl
      | node b h k c => exact hw.2.2.1 i
    · intro i hi
      rw [Nat.testBit_or, Nat.testBit_two_pow]
      by_cases e : i = sl (L + 1) blk
      · subst e
        rw [upd_self]
        simp [h2]
      · rw [upd_other _ _ e]
        have : decide (sl (L + 1) blk = i) = false := by simp; omega
        rw [this, Bool.or_false]
        cases t with
        | nil => simp [PT.has, PT.kid]
        | node b h k c => exact hw.2.2.2.1 i hi
    · intro i
      by_cases e : i = sl (L + 1) blk
      · subst e; rw [upd_self]; exact h1
      · rw [upd_other _ _ e]
        cases t with
        | nil => exact (by cases L <;> trivial)
        | node b h k c => exact hw.2.2.2.2 i
end Go.Proofs.YtdaagmhkhfcmdaaDoor
/- Sorted lists of entries: no program in sight. -/
namespace Go.Proofs.YtdaagmhkhfcmdaaDoor
open Go Go.RowKit

abbrev Ents := List (Int × Int)
def encE (x : Int × Int) : List Value := [.int .i64 x.1, .int .i64 x.2]

/-- The index of a block, or of the first greater one. -/
def fnd : Ents → Int → Nat
  | [], _ => 0
  | x :: xs, b => if b ≤ x.1 then 0 else fnd xs b + 1
def hit (L : Ents) (b : Int) : Bool := match L[fnd L b]? with | some x => x.1 == b | none => false
def rget (L : Ents) (b : Int) : Int × Bool := match L[fnd L b]? with | some x => if x.1 == b then (x.2, true) else (0, false) | none => (0, false)

theorem fnd_le : ∀ (L : Ents) (b : Int), fnd L b ≤ L.length
  | [], _ => Nat.le_refl _
  | x :: xs, b => by
    unfold fnd
    split
    · exact Nat.zero_le _
    · simp
      exact fnd_le xs b
theorem fnd_stop : ∀ {L : Ents} {b : Int} {i : Nat} {x : Int × Int}, (∀ (j : Nat) y, j < i → L[j]? = some y → y.1 < b) → L[i]? = some x → b ≤ x.1 → fnd L b = i
  | [], _, _, _, _, h, _ => by simp at h
  | y :: ys, b, 0, x, _, h, hb => by
    obtain rfl : y = x := by simpa using h
    simp [fnd, hb]
  | y :: ys, b, i + 1, x, hl, h, hb => by
    have h0 := hl 0 y (by omega) rfl
    have : ¬ b ≤ y.1 := by omega
    simp only [fnd, this, if_false, Nat.add_right_cancel_iff]
    exact fnd_stop (fun j z hj hz => hl (j + 1) z (by omega) (by simpa using hz)) (by simpa using h) hb
theorem fnd_end : ∀ {L : Ents} {b : Int}, (∀ (j : Nat) y, j < L.length → L[j]? = some y → y.1 < b) → fnd L b = L.length
  | [], _, _ => rfl
  | y :: ys, b, hl => by
    have h0 := hl 0 y (by simp) rfl
    have : ¬ b ≤ y.1 := by omega
    simp only [fnd, this, if_false, List.length_cons, Nat.add_right_cancel_iff]
    exact fnd_end (fun j z hj hz => hl (j + 1) z (by simpa using hj) (by simpa using hz))

def inR (f t : Int) (x : Int × Int) : Bool := decide (f ≤ x.1) && decide (x.1 < t)
/-- The blocks that two lists do not map alike. -/
def rdiff : Ents → Ents → List Int
  | [], [] => []
  | x :: xs, [] => x.1 :: rdiff xs []
  | [], y :: ys => y.1 :: rdiff [] ys
  | x :: xs, y :: ys => if x.1 < y.1 then x.1 :: rdiff xs (y :: ys) else if y.1 < x.1 then y.1 :: rdiff (x :: xs) ys else if x.2 = y.2 then rdiff xs ys else x.1 :: rdiff xs ys
termination_by a b => a.length + b.length

theorem rdiff_len : ∀ (a b : Ents), (rdiff a b).length ≤ a.length + b.length
  | [], [] => by simp [rdiff]
  | x :: xs, [] => by have := rdiff_len xs []; simp [rdiff] at *; omega
  | [], y :: ys => by have := rdiff_len [] ys; simp [rdiff] at *; omega
  | x :: xs, y :: ys => by
    have h1 := rdiff_len xs (y :: ys)
    have h2 := rdiff_len (x :: xs) ys
    have h3 := rdiff_len xs ys
    rw [rdiff]
    simp only [List.length_cons] at *
    split
    · simp; omega
    · split
      · simp; omega
      · split
        · omega
        · simp; omega
termination_by a b => a.length + b.length

def rset (L : Ents) (b c : Int) : Ents := if 0 ≤ b ∧ b ≤ 4095 then L.take (fnd L b) ++ [(b, c)] ++ L.drop (fnd L b + (if hit L b then 1 else 0)) else L
def rclr (L : Ents) (b : Int) : Ents := if hit L b then L.take (fnd L b) ++ L.drop (fnd L b + 1) else L

theorem rset_len (L : Ents) (b c : Int) : (rset L b c).length ≤ L.length + 1 := by
  unfold rset
  have := fnd_le L b
  split
  · split <;> simp <;> omega
  · omega
theorem rclr_len (L : Ents) (b : Int) : (rclr L b).length ≤ L.length := by
  unfold rclr
  have := fnd_le L b
  split
  · simp; omega
  · omega
/-- Increasing blocks. -/
def Srt (L : Ents) : Prop := L.Pairwise fun x y => x.1 < y.1
/-- Blocks that can be mapped. -/
def InB (L : Ents) : Prop := ∀ x ∈ L, 0 ≤ x.1 ∧ x.1 < 4096

theorem sorted_ext {α : Type} (f : α → Int) : ∀ (A B : List α), (A.Pairwise fun x y => f x < f y) → (B.Pairwise fun x y => f x < f y) → (∀ x, x ∈ A ↔ x ∈ B) → A = B
  | [], [], _, _, _ => rfl
  | [], y :: ys, _, _, h => by have := (h y).2 (by simp); simp at this
  | x :: xs, [], _, _, h => by have := (h x).1 (by simp); simp at this
  | x :: xs, y :: ys, hA, hB, h => by
    have hA' := List.pairwise_cons.1 hA
    have hB' := List.pairwise_cons.1 hB
    have e : x = y := by
      rcases List.mem_cons.1 ((h x).1 (by simp)) with e | e
      · exact e
      · rcases List.mem_cons.1 ((h y).2 (by simp)) with e2 | e2
        · exact e2.symm
        · have h1 := hB'.1 x e
          have h2 := hA'.1 y e2
          omega
    subst e
    rw [sorted_ext f xs ys hA'.2 hB'.2 fun z => ?_]
    constructor
    · intro hz
      rcases List.mem_cons.1 ((h z).1 (by simp [hz])) with e | e
      · subst e; have := hA'.1 _ hz; omega
      · exact e
    · intro hz
      rcases List.mem_cons.1 ((h z).2 (by simp [hz])) with e | e
      · subst e; have := hB'.1 _ hz; omega
      · exact e

theorem fnd_cons (x : Int × Int) (xs : Ents) (b : Int) : fnd (x :: xs) b = if b ≤ x.1 then 0 else fnd xs b + 1 := rfl
theorem hit_nil (b : Int) : hit [] b = false := rfl
theorem hit_cons (x : Int × Int) (xs : Ents) (b : Int) : hit (x :: xs) b = if b ≤ x.1 then x.1 == b else hit xs b := by
  by_cases h : b ≤ x.1
  · simp [hit, fnd_cons, h]
  · simp [hit, fnd_cons, h]
theorem rget_nil (b : Int) : rget [] b = (0, false) := rfl
theorem rget_cons (x : Int × Int) (xs : Ents) (b : Int) : rget (x :: xs) b = if b ≤ x.1 then (if x.1 = b then (x.2, true) else (0, false)) else rget xs b := by
  by_cases h : b ≤ x.1
  · simp [rget, fnd_cons, h]
  · simp [rget, fnd_cons, h]
theorem hit_rget : ∀ (L : Ents) (b : Int), hit L b = (rget L b).2
  | [], b => rfl
  | x :: xs, b => by
    rw [hit_cons, rget_cons]
    split
    · by_cases e : x.1 = b
      · simp [e]
      · simp [e]
    · exact hit_rget xs b
theorem rget_none {L : Ents} {b : Int} (h : (rget L b).2 = false) : rget L b = (0, false) := by
  induction L with
  | nil => rfl
  | cons x xs ih =>
    rw [rget_cons] at h ⊢
    split
    · rename_i hle
      rw [if_pos hle] at h
      split
      · rename_i e; simp [e] at h
      · rfl
    · rename_i hle
      rw [if_neg hle] at h
      exact ih h
theorem rget_low {L : Ents} {b : Int} (h : ∀ y ∈ L, b < y.1) : rget L b = (0, false) := by
  cases L with
  | nil => rfl
  | cons x xs =>
    have := h x (by simp)
    rw [rget_cons, if_pos (by omega), if_neg (by omega)]
theorem rget_mem {L : Ents} (hs : Srt L) {b c : Int} : rget L b = (c, true) ↔ (b, c) ∈ L := by
  induction L with
  | nil => simp [rget_nil]
  | cons x xs ih =>
    have hs' := List.pairwise_cons.1 hs
    rw [rget_cons, List.mem_cons]
    split
    · rename_i hle
      split
      · rename_i e
        constructor
        · intro h; exact .inl (by cases h; rw [← e])
        · rintro (h | h)
          · rw [← h]
          · have := hs'.1 _ h; simp only at this; omega
      · rename_i e
        constructor
        · intro h; cases h
        · rintro (h | h)
          · exact (e (by rw [← h])).elim
          · have := hs'.1 _ h; simp only at this; omega
    · rename_i hle
      rw [ih hs'.2]
      constructor
      · exact .inr
      · rintro (h | h)
        · exact (hle (by rw [← h]; exact Int.le_refl _)).elim
        · exact h
theorem rget_out {L : Ents} (hs : Srt L) (hb : InB L) {b : Int} (h : ¬ (0 ≤ b ∧ b < 4096)) : rget L b = (0, false) := by
  apply rget_none
  cases e : (rget L b).2 with
  | false => rfl
  | true =>
    have : rget L b = ((rget L b).1, true) := by rw [← e]
    exact (h (hb _ ((rget_mem hs).1 this))).elim

theorem ents_ext {A B : Ents} (hA : Srt A) (hB : Srt B) (h : ∀ b, rget A b = rget B b) : A = B := by
  refine sorted_ext Prod.fst A B hA hB fun x => ?_
  have h1 := rget_mem hA (b := x.1) (c := x.2)
  have h2 := rget_mem hB (b := x.1) (c := x.2)
  rw [h] at h1
  exact h1.symm.trans h2

/-- An entry laid in. -/
def insE : Ents → Int → Int → Ents
  | [], b, c => [(b, c)]
  | x :: xs, b, c => if b ≤ x.1 then (if x.1 = b then (b, c) :: xs else (b, c) :: x :: xs) else x :: insE xs b c
theorem rset_eq : ∀ (L : Ents) (b c : Int), (0 ≤ b ∧ b ≤ 4095) → rset L b c = insE L b c
  | [], b, c, h => by simp [rset, h, insE, fnd]
  | x :: xs, b, c, h => by
    have ih := rset_eq xs b c h
    unfold rset at ih ⊢
    rw [if_pos h] at ih ⊢
    rw [fnd_cons, hit_cons, insE]
    split
    · by_cases e : x.1 = b
      · simp [e]
      · simp [e]
    · rw [← ih, Nat.add_right_comm, List.drop_succ_cons, List.take_succ_cons]
      rfl
/-- An entry taken out. -/
def delE : Ents → Int → Ents
  | [], _ => []
  | x :: xs, b => if b ≤ x.1 then (if x.1 = b then xs else x :: xs) else x :: delE xs b
theorem rclr_eq : ∀ (L : Ents) (b : Int), rclr L b = delE L b
  | [], b => by simp [rclr, hit_nil, delE]
  | x :: xs, b => by
    have ih := rclr_eq xs b
    unfold rclr at ih ⊢
    rw [fnd_cons, hit_cons, delE]
    split
    · by_cases e : x.1 = b
      · simp [e]
      · simp [e]
    · rw [← ih]
      split <;> simp

theorem insE_mem {L : Ents} {b c : Int} {x : Int × Int} (h : x ∈ insE L b c) : x = (b, c) ∨ x ∈ L := by
  induction L with
  | nil => simp [insE] at h; exact .inl h
  | cons y ys ih =>
    rw [insE] at h
    split at h
    · split at h
      · rcases List.mem_cons.1 h with h | h
        · exact .inl h
        · exact .inr (by simp [h])
      · rcases List.mem_cons.1 h with h | h
        · exact .inl h
        · exact .inr h
    · rcases List.mem_cons.1 h with h | h
      · exact .inr (by simp [h])
      · rcases ih h with h | h
        · exact .inl h
        · exact .inr (by simp [h])
theorem insE_srt : ∀ {L : Ents} {b c : Int}, Srt L → Srt (insE L b c)
  | [], b, c, _ => by simp [insE, Srt]
  | x :: xs, b, c, hs => by
    have hs' := List.pairwise_cons.1 hs
    rw [insE]
    split
    · split
      · rename_i e
        exact List.pairwise_cons.2 ⟨fun y hy => by have := hs'.1 y hy; simp only; omega, hs'.2⟩
      · refine List.pairwise_cons.2 ⟨fun y hy => ?_, hs⟩
        rcases List.mem_cons.1 hy with rfl | hy
        · simp only; omega
        · have := hs'.1 y hy; simp only; omega
    · refine List.pairwise_cons.2 ⟨fun y hy => ?_, insE_srt hs'.2⟩
      rcases insE_mem hy with rfl | hy
      · simp only; omega
      · exact hs'.1 y hy
theorem delE_mem {L : Ents} {b : Int} {x : Int × Int} (h : x ∈ delE L b) : x ∈ L := by
  induction L with
  | nil => exact h
  | cons y ys ih =>
    rw [delE] at h
    split at h
    · split at h
      · simp [h]
      · exact h
    · rcases List.mem_cons.1 h with h | h
      · simp [h]
      · simp [ih h]
theorem delE_srt : ∀ {L : Ents} {b : Int}, Srt L → Srt (delE L b)
  | [], b, _ => by simp [delE, Srt]
  | x :: xs, b, hs => by
    have hs' := List.pairwise_cons.1 hs
    rw [delE]
    split
    · split
      · exact hs'.2
      · exact hs
    · exact List.pairwise_cons.2 ⟨fun y hy => hs'.1 y (delE_mem hy), delE_srt hs'.2⟩
theorem insE_get : ∀ {L : Ents} {b c : Int}, Srt L → ∀ z, rget (insE L b c) z = if z = b then (c, true) else rget L z
  | [], b, c, _, z => by
    rw [insE, rget_cons, rget_nil]
    split
    · simp only [eq_comm]
    · rw [if_neg (by simp only at *; omega)]
  | x :: xs, b, c, hs, z => by
    have hs' := List.pairwise_cons.1 hs
    have ih := insE_get (b := b) (c := c) hs'.2 z
    rw [insE]
    by_cases h1 : b ≤ x.1
    · rw [if_pos h1]
      by_cases h2 : x.1 = b
      · rw [if_pos h2, rget_cons, rget_cons]
        simp only [h2]
        by_cases h3 : z ≤ b
        · simp only [if_pos h3]
          by_cases h4 : b = z
          · simp [h4]
          · simp [h4, Ne.symm h4]
        · rw [if_neg h3, if_neg h3, if_neg (by omega)]
      · rw [if_neg h2, rget_cons]
        by_cases h3 : z ≤ b
        · simp only [if_pos h3]
          by_cases h4 : b = z
          · simp [h4]
          · rw [if_neg h4, if_neg (Ne.symm h4), rget_cons, if_pos (by omega), if_neg (by omega)]
        · simp only [if_neg h3]
          rw [if_neg (by omega)]
    · rw [if_neg h1, rget_cons, rget_cons]
      by_cases h3 : z ≤ x.1
      · have h4 : ¬ z = b := by omega
        simp only [if_pos h3, if_neg h4]
      · simp only [if_neg h3, ih]
theorem delE_get : ∀ {L : Ents} {b : Int}, Srt L → ∀ z, rget (delE L b) z = if z = b then (0, false) else rget L z
  | [], b, _, z => by rw [delE, rget_nil]; simp
  | x :: xs, b, hs, z => by
    have hs' := List.pairwise_cons.1 hs
    have ih := delE_get (b := b) hs'.2 z
    rw [delE]
    by_cases h1 : b ≤ x.1
    · rw [if_pos h1]
      by_cases h2 : x.1 = b
      · rw [if_pos h2]
        by_cases h4 : z = b
        · rw [if_pos h4]
          exact rget_low fun y hy => by have := hs'.1 y hy; omega
        · rw [if_neg h4, rget_cons]
          by_cases h3 : z ≤ x.1
          · rw [if_pos h3, if_neg (by omega)]
            exact rget_low fun y hy => by have := hs'.1 y hy; omega
          · rw [if_neg h3]
      · rw [if_neg h2]
        by_cases h4 : z = b
        · rw [if_pos h4, h4, rget_cons, if_pos h1, if_neg h2]
        · rw [if_neg h4]
    · rw [if_neg h1, rget_cons, rget_cons]
      by_cases h3 : z ≤ x.1
      · have h4 : ¬ z = b := by omega
        simp only [if_pos h3, if_neg h4]
      · simp only [if_neg h3, ih]
theorem insE_len : ∀ (L : Ents) (b c : Int), (insE L b c).length = L.length + if hit L b then 0 else 1
  | [], b, c => by simp [insE, hit_nil]
  | x :: xs, b, c => by
    rw [insE, hit_cons]
    by_cases h1 : b ≤ x.1
    · rw [if_pos h1, if_pos h1]
      by_cases h2 : x.1 = b
      · simp [h2]
      · simp [h2]
    · rw [if_neg h1, if_neg h1, List.length_cons, List.length_cons, insE_len xs b c]
      omega
theorem delE_len : ∀ (L : Ents) (b : Int), hit L b = true → (delE L b).length + 1 = L.length
  | [], b, h => by simp [hit_nil] at h
  | x :: xs, b, h => by
    rw [hit_cons] at h
    rw [delE]
    by_cases h1 : b ≤ x.1
    · rw [if_pos h1] at h ⊢
      have h2 : x.1 = b := by simpa using h
      rw [if_pos h2]; rfl
    · rw [if_neg h1] at h ⊢
      rw [List.length_cons, List.length_cons, delE_len xs b h]
theorem delE_same : ∀ (L : Ents) (b : Int), hit L b = false → delE L b = L
  | [], b, h => rfl
  | x :: xs, b, h => by
    rw [hit_cons] at h
    rw [delE]
    by_cases h1 : b ≤ x.1
    · rw [if_pos h1] at h ⊢
      have h2 : ¬ x.1 = b := by simpa using h
      rw [if_neg h2]
    · rw [if_neg h1] at h ⊢
      rw [delE_same xs b h]

/-- The blocks in which two lists differ. -/
theorem rdiff_mem : ∀ (A B : Ents), Srt A → Srt B → ∀ z, z ∈ rdiff A B ↔ rget A z ≠ rget B z
  | [], [], _, _, z => by simp [rdiff]
  | x :: xs, [], hA, hB, z => by
    have hs := List.pairwise_cons.1 hA
    have ih := rdiff_mem xs [] hs.2 hB z
    rw [rget_nil] at ih
    rw [rdiff, List.mem_cons, ih, rget_cons, rget_nil]
    by_cases h1 : z ≤ x.1
    · rw [if_pos h1, rget_low (L := xs) fun y hy => by have := hs.1 y hy; omega]
      by_cases h2 : x.1 = z
      · simp [h2]
      · simp [h2, Ne.symm h2]
    · rw [if_neg h1]
      have : ¬ z = x.1 := by omega
      simp [this]
  | [], y :: ys, hA, hB, z => by
    have hs := List.pairwise_cons.1 hB
    have ih := rdiff_mem [] ys hA hs.2 z
    rw [rget_nil] at ih
    rw [rdiff, List.mem_cons, ih, rget_cons, rget_nil]
    by_cases h1 : z ≤ y.1
    · rw [if_pos h1, rget_low (L := ys) fun w hw => by have := hs.1 w hw; omega]
      by_cases h2 : y.1 = z
      · simp [h2]
      · simp [h2, Ne.symm h2]
    · rw [if_neg h1]
      have : ¬ z = y.1 := by omega
      simp [this]
  | x :: xs, y :: ys, hA, hB, z => by
    have hs := List.pairwise_cons.1 hA
    have ht := List.pairwise_cons.1 hB
    rw [rdiff]
    by_cases h0 : x.1 < y.1
    · rw [if_pos h0, List.mem_cons, rdiff_mem xs (y :: ys) hs.2 hB z, rget_cons x xs z]
      by_cases h1 : z ≤ x.1
      · rw [if_pos h1, rget_low (L := xs) fun w hw => by have := hs.1 w hw; omega]
        rw [rget_cons, if_pos (by omega), if_neg (by omega)]
        by_cases h2 : x.1 = z
        · simp [h2]
        · simp [h2, Ne.symm h2]
      · rw [if_neg h1]
        have : ¬ z = x.1 := by omega
        simp [this]
    · rw [if_neg h0]
      by_cases h0' : y.1 < x.1
      · rw [if_pos h0', List.mem_cons, rdiff_mem (x :: xs) ys hA ht.2 z, rget_cons y ys z]
        by_cases h1 : z ≤ y.1
        · rw [if_pos h1, rget_low (L := ys) fun w hw => by have := ht.1 w hw; omega]
          rw [rget_cons, if_pos (by omega), if_neg (by omega)]
          by_cases h2 : y.1 = z
          · simp [h2]
          · simp [h2, Ne.symm h2]
        · rw [if_neg h1]
          have : ¬ z = y.1 := by omega
          simp [this]
      · have e : x.1 = y.1 := by omega
        rw [if_neg h0', rget_cons x xs z, rget_cons y ys z, ← e]
        have ih := rdiff_mem xs ys hs.2 ht.2 z
        have hxl : z ≤ x.1 → rget xs z = (0, false) := fun h1 => rget_low fun w hw => by have := hs.1 w hw; omega
        have hyl : z ≤ x.1 → rget ys z = (0, false) := fun h1 => rget_low fun w hw => by have := ht.1 w hw; omega
        by_cases h3 : x.2 = y.2
        · rw [if_pos h3, ih, h3]
          by_cases h1 : z ≤ x.1
          · rw [hxl h1, hyl h1]; simp [h1]
          · rw [if_neg h1, if_neg h1]
        · rw [if_neg h3, List.mem_cons, ih]
          by_cases h1 : z ≤ x.1
          · rw [hxl h1, hyl h1, if_pos h1, if_pos h1]
            by_cases h2 : x.1 = z
            · simp [h2, h3]
            · simp [h2, Ne.symm h2]
          · rw [if_neg h1, if_neg h1]
            have : ¬ z = x.1 := by omega
            simp [this]
termination_by A B => A.length + B.length

theorem rdiff_low : ∀ (A B : Ents) (m : Int), (∀ x ∈ A, m < x.1) → (∀ x ∈ B, m < x.1) → ∀ z ∈ rdiff A B, m < z
  | [], [], m, _, _, z, h => by simp [rdiff] at h
  | x :: xs, [], m, hA, hB, z, h => by
    rw [rdiff, List.mem_cons] at h
    rcases h with rfl | h
    · exact hA x (by simp)
    · exact rdiff_low xs [] m (fun y hy => hA y (by simp [hy])) hB z h
  | [], y :: ys, m, hA, hB, z, h => by
    rw [rdiff, List.mem_cons] at h
    rcases h with rfl | h
    · exact hB y (by simp)
    · exact rdiff_low [] ys m hA (fun y hy => hB y (by simp [hy])) z h
  | x :: xs, y :: ys, m, hA, hB, z, h => by
    have hA' : ∀ w ∈ xs, m < w.1 := fun w hw => hA w (by simp [hw])
    have hB' : ∀ w ∈ ys, m < w.1 := fun w hw => hB w (by simp [hw])
    rw [rdiff] at h
    split at h
    · rcases List.mem_cons.1 h with rfl | h
      · exact hA x (by simp)
      · exact rdiff_low xs (y :: ys) m hA' hB z h
    · split at h
      · rcases List.mem_cons.1 h with rfl | h
        · exact hB y (by simp)
        · exact rdiff_low (x :: xs) ys m hA hB' z h
      · split at h
        · exact rdiff_low xs ys m hA' hB' z h
        · rcases List.mem_cons.1 h with rfl | h
          · exact hA x (by simp)
          · exact rdiff_low xs ys m hA' hB' z h
termination_by A B => A.length + B.length

theorem rdiff_srt : ∀ (A B : Ents), Srt A → Srt B → (rdiff A B).Pairwise fun x y => x < y
  | [], [], _, _ => by simp [rdiff]
  | x :: xs, [], hA, hB => by
    have hs := List.pairwise_cons.1 hA
    rw [rdiff]
    exact List.pairwise_cons.2 ⟨fun z hz => rdiff_low xs [] x.1 hs.1 (by simp) z hz, rdiff_srt xs [] hs.2 hB⟩
  | [], y :: ys, hA, hB => by
    have hs := List.pairwise_cons.1 hB
    rw [rdiff]
    exact List.pairwise_cons.2 ⟨fun z hz => rdiff_low [] ys y.1 (by simp) hs.1 z hz, rdiff_srt [] ys hA hs.2⟩
  | x :: xs, y :: ys, hA, hB => by
    have hs := List.pairwise_cons.1 hA
    have ht := List.pairwise_cons.1 hB
    rw [rdiff]
    split
    · rename_i h0
      refine List.pairwise_cons.2 ⟨fun z hz => rdiff_low xs (y :: ys) x.1 hs.1 (fun w hw => ?_) z hz, rdiff_srt xs (y :: ys) hs.2 hB⟩
      rcases List.mem_cons.1 hw with rfl | hw
      · exact h0
      · have := ht.1 w hw; omega
    · split
      · rename_i h0
        refine List.pairwise_cons.2 ⟨fun z hz => rdiff_low (x :: xs) ys y.1 (fun w hw => ?_) ht.1 z hz, rdiff_srt (x :: xs) ys hA ht.2⟩
        rcases List.mem_cons.1 hw with rfl | hw
        · exact h0
        · have := hs.1 w hw; omega
      · have e : x.1 = y.1 := by omega
        split
        · exact rdiff_srt xs ys hs.2 ht.2
        · exact List.pairwise_cons.2 ⟨fun z hz => rdiff_low xs ys x.1 hs.1 (by rw [e]; exact ht.1) z hz, rdiff_srt xs ys hs.2 ht.2⟩
termination_by A B => A.length + B.length

theorem rdiff_nil {A B : Ents} (hA : Srt A) (hB : Srt B) : rdiff A B = [] ↔ A = B := by
  constructor
  · intro h
    refine ents_ext hA hB fun b => ?_
    have := rdiff_mem A B hA hB b
    rw [h] at this
    exact Classical.not_not.1 fun hne => by simpa using this.2 hne
  · rintro rfl
    refine List.eq_nil_iff_forall_not_mem.2 fun z hz => ?_
    exact (rdiff_mem A A hA hA z).1 hz rfl
end Go.Proofs.YtdaagmhkhfcmdaaDoor
/- Trees of nodes and the sorted lists that they stand for. -/
namespace Go.Proofs.YtdaagmhkhfcmdaaDoor
open Go Go.RowKit

/-- All nodes lie below block m. -/
def PT.Under (m : Nat) : PT → Prop
  | .nil => True
  | .node b _ k _ => b < m ∧ ∀ i, (k i).Under m
theorem Tr.under {T : Nat} {K : Fz} {W : World} (hi : K.In W) : ∀ {t : PT}, Tr T K t → t.Under W.heap.size := by
  intro t
  induction t with
  | nil => exact fun _ => trivial
  | node b h k c ih => exact fun ⟨h1, _, h3⟩ => ⟨hi.lt h1, fun i => ih i (h3 i)⟩

theorem same2 {b c : Nat} (hb : b < 4096) (hc : c < 4096) : same 2 b c ↔ b = c := by
  constructor
  · intro h
    have h0 := h 0 (by omega)
    have h1 := h 1 (by omega)
    have h2 := h 2 (by omega)
    simp only [sl, Nat.pow_zero, Nat.div_one, Nat.pow_one, show (16 : Nat) ^ 2 = 256 from rfl] at h0 h1 h2
    omega
  · rintro rfl; exact fun _ _ => rfl

theorem sl_low {l L : Nat} (i r : Nat) (h : l ≤ L) : sl l (i * 16 ^ (L + 1) + r) = sl l r := by
  obtain ⟨d, rfl⟩ := Nat.exists_eq_add_of_le h
  have e : i * 16 ^ (l + d + 1) + r = r + 16 ^ l * (16 * (i * 16 ^ d)) := by
    rw [Nat.pow_succ, Nat.pow_add]
    simp [Nat.mul_assoc, Nat.mul_comm, Nat.mul_left_comm, Nat.add_comm]
  unfold sl
  rw [e, Nat.add_mul_div_left _ _ (Nat.pow_pos (by omega)), Nat.add_mul_mod_self_left]
theorem sl_high {L i r : Nat} (hi : i < 16) (hr : r < 16 ^ (L + 1)) : sl (L + 1) (i * 16 ^ (L + 1) + r) = i := by
  unfold sl
  rw [Nat.add_comm, Nat.add_mul_div_right r i (Nat.pow_pos (by omega)), Nat.div_eq_of_lt hr, Nat.zero_add, Nat.mod_eq_of_lt hi]
theorem get_congr : ∀ (L : Nat) (t : PT) (b c : Nat), same L b c → t.get L b = t.get L c
  | 0, t, b, c, h => by rw [get_node0, get_node0, h 0 (Nat.le_refl _)]
  | L + 1, t, b, c, h => by
    rw [get_nodeS, get_nodeS, h (L + 1) (Nat.le_refl _)]
    exact get_congr L _ b c fun l hl => h l (by omega)
theorem get_kid {L i r : Nat} (t : PT) (hi : i < 16) (hr : r < 16 ^ (L + 1)) : t.get (L + 1) (i * 16 ^ (L + 1) + r) = (t.kid i).get L r := by
  rw [get_nodeS, sl_high hi hr]
  exact get_congr L _ _ _ fun l hl => sl_low i r hl
theorem get_low {i : Nat} (t : PT) (hi : i < 16) : t.get 0 i = (t.chunk i, t.has.testBit i) := by
  have : sl 0 i = i := by unfold sl; rw [Nat.pow_zero, Nat.div_one, Nat.mod_eq_of_lt hi]
  rw [get_node0, this]

theorem unbit_bit {h i : Nat} (hi : i < 16) (hh : h < 65536) (j : Nat) : (unbit h i).testBit j = (h.testBit j && decide (j ≠ i)) := by
  have e : 65535 - 2 ^ i = 2 ^ 16 - (2 ^ i + 1) := by omega
  have hl : (2 : Nat) ^ i < 2 ^ 16 := Nat.pow_lt_pow_right (by omega) hi
  unfold unbit
  rw [Nat.testBit_and, e, Nat.testBit_two_pow_sub_succ hl, Nat.testBit_two_pow]
  by_cases hj : j < 16
  · have : decide (i = j) = decide (j = i) := by simp [eq_comm]
    simp [hj, this]
  · have : h.testBit j = false := Nat.testBit_lt_two_pow (Nat.lt_of_lt_of_le hh (by
      have : (2 : Nat) ^ 16 ≤ 2 ^ j := Nat.pow_le_pow_right (by omega) (by omega)
      omega))
    simp [this]
theorem unbit_small {h i : Nat} (hh : h < 65536) : unbit h i < 65536 := Nat.lt_of_le_of_lt Nat.and_le_left hh
theorem bit_some {h : Nat} (h0 : h ≠ 0) (hh : h < 65536) : ∃ i, i < 16 ∧ h.testBit i = true := by
  obtain ⟨i, hi⟩ := Nat.exists_testBit_of_ne_zero h0
  refine ⟨i, ?_, hi⟩
  by_cases hl : i < 16
  · exact hl
  · have : h.testBit i = false := Nat.testBit_lt_two_pow (Nat.lt_of_lt_of_le hh (by
      have : (2 : Nat) ^ 16 ≤ 2 ^ i := Nat.pow_le_pow_right (by omega) (by omega)
      omega))
    rw [this] at hi; cases hi
theorem zero_bit {h : Nat} (h0 : h = 0) (i : Nat) : h.testBit i = false := by subst h0; exact Nat.zero_testBit i

theorem wf_nil (L : Nat) : PT.nil.Wf L := by cases L <;> trivial
theorem PT.Wf.kid {L : Nat} {t : PT} (h : t.Wf (L + 1)) (i : Nat) : (t.kid i).Wf L := by
  cases t with
  | nil => exact wf_nil L
  | node b h' k c => exact h.2.2.2.2 i
theorem PT.Wf.kid_nil {L : Nat} {t : PT} (h : t.Wf (L + 1)) {i : Nat} (hi : i < 16) : t.has.testBit i = false ↔ t.kid i = .nil := by
  cases t with
  | nil => simp [PT.has, PT.kid]
  | node b h' k c => exact h.2.2.2.1 i hi
theorem PT.Wf.chunk0 {L : Nat} {t : PT} (h : t.Wf (L + 1)) (i : Nat) : t.chunk i = 0 := by
  cases t with
  | nil => rfl
  | node b h' k c => exact h.2.2.1 i
theorem PT.Wf.kid0 {t : PT} (h : t.Wf 0) (i : Nat) : t.kid i = .nil := by
  cases t with
  | nil => rfl
  | node b h' k c => exact h.2.2.1 i
theorem PT.Wf.off {t : PT} (h : t.Wf 0) {i : Nat} (hi : i < 16) (hb : t.has.testBit i = false) : t.chunk i = 0 := by
  cases t with
  | nil => rfl
  | node b h' k c => exact h.2.2.2 i hi hb
theorem way_ne {L : Nat} {t : PT} {b : Nat} (h : t.Way L b) : t ≠ .nil := by cases L with | zero => exact h | succ L => exact h.1
theorem isNil_iff {t : PT} : t.isNil = true ↔ t = .nil := by cases t <;> simp [PT.isNil]
theorem isNil_not {t : PT} : t.isNil = false ↔ t ≠ .nil := by cases t <;> simp [PT.isNil]

/-- A tree that is there maps something. -/
theorem wf_some : ∀ (L : Nat) (t : PT), t.Wf L → t ≠ .nil → ∃ r, r < 16 ^ (L + 1) ∧ (t.get L r).2 = true
  | 0, t, hw, hn => by
    obtain ⟨h1, h2⟩ := hw.has0 hn
    obtain ⟨i, hi, hb⟩ := bit_some h1 h2
    exact ⟨i, hi, by rw [get_low t hi]; exact hb⟩
  | L + 1, t, hw, hn => by
    obtain ⟨h1, h2⟩ := hw.has0 hn
    obtain ⟨i, hi, hb⟩ := bit_some h1 h2
    have hk : t.kid i ≠ .nil := fun e => by rw [(hw.kid_nil hi).2 e] at hb; cases hb
    obtain ⟨r, hr, hg⟩ := wf_some L _ (hw.kid i) hk
    refine ⟨i * 16 ^ (L + 1) + r, ?_, by rw [get_kid t hi hr]; exact hg⟩
    rw [Nat.pow_succ 16 (L + 1)]
    generalize 16 ^ (L + 1) = M at *
    calc i * M + r < i * M + M := by omega
      _ = (i + 1) * M := by rw [Nat.succ_mul]
      _ ≤ 16 * M := Nat.mul_le_mul_right _ (by omega)
      _ = M * 16 := Nat.mul_comm _ _

open Classical in
theorem get_clr : ∀ (L n : Nat) (t t' : PT) (blk : Nat), t.Wf L → PT.Clr L n t blk t' → ∀ b, t'.get L b = if same L b blk then (0, false) else t.get L b
  | 0, n, t, t', blk, hw, ⟨g, _, e⟩, b => by
    have hsl := sl_lt 0 blk
    have hsb := sl_lt 0 b
    have hbit := unbit_bit hsl hw.hasLt (sl 0 b)
    have hs : same 0 b blk ↔ sl 0 b = sl 0 blk := ⟨fun h => h 0 (Nat.le_refl _), fun h l hl => by rw [Nat.le_zero.1 hl]; exact h⟩
    by_cases hz : unbit t.has (sl 0 blk) = 0
    · rw [if_pos hz] at e
      subst e
      rw [get_nil]
      split
      · rfl
      · rename_i h
        rw [hs] at h
        rw [zero_bit hz] at hbit
        have hb0 : t.has.testBit (sl 0 b) = false := by
          cases hq : t.has.testBit (sl 0 b) with
          | false => rfl
          | true => simp [hq, h] at hbit
        rw [get_node0, hb0, hw.off hsb hb0]
    · rw [if_neg hz] at e
      subst e
      rw [get_node0]
      have e1 : (PT.node g (unbit t.has (sl 0 blk)) t.kid (upd t.chunk (sl 0 blk) 0)).chunk (sl 0 b) = upd t.chunk (sl 0 blk) 0 (sl 0 b) := rfl
      have e2 : (PT.node g (unbit t.has (sl 0 blk)) t.kid (upd t.chunk (sl 0 blk) 0)).has = unbit t.has (sl 0 blk) := rfl
      rw [e1, e2, hbit]
      by_cases h : same 0 b blk
      · rw [if_pos h, hs.1 h, upd_self]; simp
      · rw [if_neg h, upd_other _ _ (fun x => h (hs.2 x)), get_node0]
        have h' : ¬ sl 0 b = sl 0 blk := fun x => h (hs.2 x)
        simp [h']
  | L + 1, n, t, t', blk, hw, ⟨g, k', _, hk, e⟩, b => by
    have hsl := sl_lt (L + 1) blk
    have hsb := sl_lt (L + 1) b
    have ih := get_clr L (g + 1) _ _ _ (hw.kid _) hk b
    have hbit := unbit_bit hsl hw.hasLt (sl (L + 1) b)
    have hs : sl (L + 1) b = sl (L + 1) blk → (same (L + 1) b blk ↔ same L b blk) := by
      intro h
      constructor
      · exact fun hs l hl => hs l (by omega)
      · intro hs l hl
        by_cases e : l = L + 1
        · subst e; exact h
        · exact hs l (by omega)
    by_cases hsame : sl (L + 1) b = sl (L + 1) blk
    · have key : t'.get (L + 1) b = k'.get L b := by
        rw [get_nodeS]
        congr 1
        by_cases hn : k'.isNil = false
        · rw [if_pos hn] at e; subst e; simp [PT.kid, hsame, upd_self]
        · have hn' : k' = .nil := by cases k' with | nil => rfl | node _ _ _ _ => simp [PT.isNil] at hn
          rw [if_neg hn] at e
          by_cases hz : unbit t.has (sl (L + 1) blk) = 0
          · rw [if_pos hz] at e; subst e; rw [hn']; rfl
          · rw [if_neg hz] at e; subst e; simp [PT.kid, hsame, upd_self, hn']
      rw [key, ih, get_nodeS, hsame]
      by_cases h : same L b blk
      · rw [if_pos h, if_pos ((hs hsame).2 h)]
      · rw [if_neg h, if_neg (fun x => h ((hs hsame).1 x))]
    · rw [if_neg (fun h => hsame (h _ (Nat.le_refl _))), get_nodeS, get_nodeS]
      congr 1
      by_cases hn : k'.isNil = false
      · rw [if_pos hn] at e; subst e; simp [PT.kid, upd_other _ _ hsame]
      · rw [if_neg hn] at e
        by_cases hz : unbit t.has (sl (L + 1) blk) = 0
        · rw [if_pos hz] at e; subst e
          rw [zero_bit hz] at hbit
          have hb0 : t.has.testBit (sl (L + 1) b) = false := by
            cases hq : t.has.testBit (sl (L + 1) b) with
            | false => rfl
            | true => simp [hq, hsame] at hbit
          rw [(hw.kid_nil hsb).1 hb0]; rfl
        · rw [if_neg hz] at e; subst e; simp [PT.kid, upd_other _ _ hsame]

theorem wf_clr : ∀ (L n : Nat) (t t' : PT) (blk : Nat), t.Wf L → t.Way L blk → PT.Clr L n t blk t' → t'.Wf L
  | 0, n, t, t', blk, hw, hy, ⟨g, _, e⟩ => by
    have hsl := sl_lt 0 blk
    split at e
    · subst e; trivial
    · rename_i hz
      subst e
      refine ⟨hz, unbit_small hw.hasLt, fun i => hw.kid0 i, fun i hi hb => ?_⟩
      rw [unbit_bit hsl hw.hasLt] at hb
      by_cases e : i = sl 0 blk
      · rw [e, upd_self]
      · rw [upd_other _ _ e]
        refine hw.off hi ?_
        simpa [e] using hb
  | L + 1, n, t, t', blk, hw, hy, ⟨g, k', _, hk, e⟩ => by
    have hsl := sl_lt (L + 1) blk
    have hkw := wf_clr L (g + 1) _ _ _ (hw.kid _) hy.2 hk
    have h0 := hw.has0 hy.1
    split at e
    · rename_i hn
      subst e
      refine ⟨h0.1, h0.2, fun i => hw.chunk0 i, fun i hi => ?_, fun i => ?_⟩
      · by_cases e : i = sl (L + 1) blk
        · subst e
          rw [upd_self]
          have h1 := isNil_not.1 hn
          have h2 := way_ne hy.2
          have h3 := hw.kid_nil hi
          constructor
          · intro h; exact (h2 (h3.1 h)).elim
          · intro h; exact (h1 h).elim
        · rw [upd_other _ _ e]; exact hw.kid_nil hi
      · by_cases e : i = sl (L + 1) blk
        · subst e; rw [upd_self]; exact hkw
        · rw [upd_other _ _ e]; exact hw.kid i
    · split at e
      · subst e; trivial
      · rename_i hz
        subst e
        refine ⟨hz, unbit_small hw.hasLt, fun i => hw.chunk0 i, fun i hi => ?_, fun i => ?_⟩
        · rw [unbit_bit hsl hw.hasLt]
          by_cases e : i = sl (L + 1) blk
          · subst e; rw [upd_self]; simp
          · rw [upd_other _ _ e]
            have := hw.kid_nil hi
            simpa [e] using this
        · by_cases e : i = sl (L + 1) blk
          · subst e; rw [upd_self]; exact wf_nil L
          · rw [upd_other _ _ e]; exact hw.kid i

/-- The blocks of the nodes, one by one. -/
def PT.blocks : PT → List Nat
  | .nil => []
  | .node b _ k _ => b :: (List.range 16).flatMap fun i => (k i).blocks
def PT.kb (t : PT) : List Nat := (List.range 16).flatMap fun i => (t.kid i).blocks
theorem kb_nil : PT.nil.kb = [] := by simp [PT.kb, PT.kid, PT.blocks]
theorem kb_sub {t : PT} {x : Nat} (h : x ∈ t.kb) : x ∈ t.blocks := by
  cases t with
  | nil => simp [kb_nil] at h
  | node b h' k c => exact List.mem_cons_of_mem _ h
theorem mem_kb {t : PT} {x : Nat} : x ∈ t.kb ↔ ∃ i, i < 16 ∧ x ∈ (t.kid i).blocks := by
  simp [PT.kb]
theorem kid_sub {t : PT} {i x : Nat} (hi : i < 16) (h : x ∈ (t.kid i).blocks) : x ∈ t.blocks := kb_sub (mem_kb.2 ⟨i, hi, h⟩)
theorem PT.Under.kid {m : Nat} {t : PT} (h : t.Under m) (i : Nat) : (t.kid i).Under m := by
  cases t with
  | nil => trivial
  | node b h' k c => exact h.2 i
theorem under_mem {m : Nat} : ∀ {t : PT}, t.Under m → ∀ {x : Nat}, x ∈ t.blocks → x < m := by
  intro t
  induction t with
  | nil => intro _ x hx; simp [PT.blocks] at hx
  | node b h k c ih =>
    intro hu x hx
    rcases List.mem_cons.1 hx with rfl | hx
    · exact hu.1
    · obtain ⟨i, _, hx⟩ := List.mem_flatMap.1 hx
      exact ih i (hu.2 i) hx
theorem nodup_flat (f : Nat → List Nat) : ∀ n, ((List.range n).flatMap f).Nodup ↔ (∀ i, i < n → (f i).Nodup) ∧ ∀ i j, i < n → j < n → i ≠ j → ∀ x ∈ f i, x ∉ f j
  | 0 => by simp
  | n + 1 => by
    rw [List.range_succ, List.flatMap_append, List.nodup_append, nodup_flat f n]
    simp only [List.flatMap_cons, List.flatMap_nil, List.append_nil, List.mem_flatMap, List.mem_range]
    constructor
    · rintro ⟨⟨h1, h2⟩, h3, h4⟩
      refine ⟨fun i hi => ?_, fun i j hi hj hne x hx hx2 => ?_⟩
      · by_cases e : i = n
        · subst e; exact h3
        · exact h1 i (by omega)
      · by_cases e : i = n
        · subst e; exact h4 x ⟨j, by omega, hx2⟩ x hx rfl
        · by_cases e2 : j = n
          · subst e2; exact h4 x ⟨i, by omega, hx⟩ x hx2 rfl
          · exact h2 i j (by omega) (by omega) hne x hx hx2
    · rintro ⟨h1, h2⟩
      refine ⟨⟨fun i hi => h1 i (by omega), fun i j hi hj => h2 i j (by omega) (by omega)⟩, h1 n (by omega), ?_⟩
      rintro x ⟨i, hi, hx⟩ y hy rfl
      exact h2 i n (by omega) (by omega) (by omega) x hx hy
theorem kb_nodup {t : PT} (h : t.blocks.Nodup) : t.kb.Nodup := by
  cases t with
  | nil => simp [kb_nil]
  | node b h' k c => exact (List.nodup_cons.1 h).2
theorem kid_nodup {t : PT} {i : Nat} (hi : i < 16) (h : t.blocks.Nodup) : (t.kid i).blocks.Nodup := ((nodup_flat _ _).1 (kb_nodup h)).1 i hi

/-- A child exchanged. -/
theorem upd_nodup {t k' : PT} {s m g : Nat} (hs : s < 16) (hu : t.Under m) (hm : m ≤ g) (hb : t.blocks.Nodup) (hk : k'.blocks.Nodup) (hx : ∀ x ∈ k'.blocks, x ∈ (t.kid s).blocks ∨ g + 1 ≤ x) (h' : Nat) (c : Nat → Int) :
    (PT.node g h' (upd t.kid s k') c).blocks.Nodup ∧ ∀ x ∈ (PT.node g h' (upd t.kid s k') c).blocks, x ∈ t.blocks ∨ g ≤ x := by
  have hmem : ∀ x ∈ (List.range 16).flatMap (fun i => (upd t.kid s k' i).blocks), x ∈ t.blocks ∨ g + 1 ≤ x := by
    intro x hx'
    obtain ⟨i, hi, hx'⟩ := List.mem_flatMap.1 hx'
    rw [List.mem_range] at hi
    by_cases e : i = s
    · subst e
      rw [upd_self] at hx'
      rcases hx x hx' with h | h
      · exact .inl (kid_sub hi h)
      · exact .inr h
    · rw [upd_other _ _ e] at hx'
      exact .inl (kid_sub hi hx')
  refine ⟨List.nodup_cons.2 ⟨fun hg => ?_, (nodup_flat _ _).2 ⟨fun i hi => ?_, fun i j hi hj hne x hxi hxj => ?_⟩⟩, fun x hx' => ?_⟩
  · rcases hmem g hg with h | h
    · have := under_mem hu h; omega
    · omega
  · by_cases e : i = s
    · subst e; rw [upd_self]; exact hk
    · rw [upd_other _ _ e]; exact kid_nodup hi hb
  · have hold := ((nodup_flat _ _).1 (kb_nodup hb)).2
    by_cases e : i = s
    · subst e
      rw [upd_self] at hxi
      rw [upd_other _ _ (Ne.symm hne)] at hxj
      rcases hx x hxi with h | h
      · exact hold i j hi hj hne x h hxj
      · have := under_mem hu (kid_sub hj hxj); omega
    · rw [upd_other _ _ e] at hxi
      by_cases e2 : j = s
      · subst e2
        rw [upd_self] at hxj
        rcases hx x hxj with h | h
        · exact hold i j hi hj hne x hxi h
        · have := under_mem hu (kid_sub hi hxi); omega
      · rw [upd_other _ _ e2] at hxj
        exact hold i j hi hj hne x hxi hxj
  · rcases List.mem_cons.1 hx' with rfl | hx'
    · exact .inr (Nat.le_refl _)
    · rcases hmem x hx' with h | h
      · exact .inl h
      · exact .inr (by omega)
/-- The same children in a new node. -/
theorem copy_nodup {t : PT} {m g : Nat} (hu : t.Under m) (hm : m ≤ g) (hb : t.blocks.Nodup) (h' : Nat) (c : Nat → Int) :
    (PT.node g h' t.kid c).blocks.Nodup ∧ ∀ x ∈ (PT.node g h' t.kid c).blocks, x ∈ t.blocks ∨ g ≤ x := by
  refine ⟨List.nodup_cons.2 ⟨fun hg => ?_, kb_nodup hb⟩, fun x hx => ?_⟩
  · have := under_mem hu (kb_sub (t := t) hg); omega
  · rcases List.mem_cons.1 hx with rfl | hx
    · exact .inr (Nat.le_refl _)
    · exact .inl (kb_sub hx)

theorem set_blocks : ∀ (L n m : Nat) (t t' : PT) (blk : Nat) (ch : Int), t.Under m → m ≤ n → t.blocks.Nodup → PT.Set L n t blk ch t' → t'.blocks.Nodup ∧ ∀ x ∈ t'.blocks, x ∈ t.blocks ∨ n ≤ x
  | 0, n, m, t, t', blk, ch, hu, hm, hb, ⟨g, hg, e⟩ => by
    subst e
    obtain ⟨h1, h2⟩ := copy_nodup hu (Nat.le_trans hm hg) hb (t.has ||| 2 ^ sl 0 blk) (upd t.chunk (sl 0 blk) ch)
    exact ⟨h1, fun x hx => (h2 x hx).imp id fun h => Nat.le_trans hg h⟩
  | L + 1, n, m, t, t', blk, ch, hu, hm, hb, ⟨g, k', hg, hk, e⟩ => by
    subst e
    obtain ⟨h1, h2⟩ := set_blocks L (g + 1) m _ _ _ _ (hu.kid _) (by omega) (kid_nodup (sl_lt _ _) hb) hk
    obtain ⟨h3, h4⟩ := upd_nodup (sl_lt (L + 1) blk) hu (Nat.le_trans hm hg) hb h1 h2 (t.has ||| 2 ^ sl (L + 1) blk) t.chunk
    exact ⟨h3, fun x hx => (h4 x hx).imp id fun h => Nat.le_trans hg h⟩
theorem clr_blocks : ∀ (L n m : Nat) (t t' : PT) (blk : Nat), t.Under m → m ≤ n → t.blocks.Nodup → PT.Clr L n t blk t' → t'.blocks.Nodup ∧ ∀ x ∈ t'.blocks, x ∈ t.blocks ∨ n ≤ x
  | 0, n, m, t, t', blk, hu, hm, hb, ⟨g, hg, e⟩ => by
    split at e
    · subst e; simp [PT.blocks]
    · subst e
      obtain ⟨h1, h2⟩ := copy_nodup hu (Nat.le_trans hm hg) hb (unbit t.has (sl 0 blk)) (upd t.chunk (sl 0 blk) 0)
      exact ⟨h1, fun x hx => (h2 x hx).imp id fun h => Nat.le_trans hg h⟩
  | L + 1, n, m, t, t', blk, hu, hm, hb, ⟨g, k', hg, hk, e⟩ => by
    split at e
    · subst e
      obtain ⟨h1, h2⟩ := clr_blocks L (g + 1) m _ _ _ (hu.kid _) (by omega) (kid_nodup (sl_lt _ _) hb) hk
      obtain ⟨h3, h4⟩ := upd_nodup (sl_lt (L + 1) blk) hu (Nat.le_trans hm hg) hb h1 h2 t.has t.chunk
      exact ⟨h3, fun x hx => (h4 x hx).imp id fun h => Nat.le_trans hg h⟩
    · split at e
      · subst e; simp [PT.blocks]
      · subst e
        obtain ⟨h3, h4⟩ := upd_nodup (k' := .nil) (sl_lt (L + 1) blk) hu (Nat.le_trans hm hg) hb (by simp [PT.blocks]) (by simp [PT.blocks]) (unbit t.has (sl (L + 1) blk)) t.chunk
        exact ⟨h3, fun x hx => (h4 x hx).imp id fun h => Nat.le_trans hg h⟩

/-- The tree (t, n) stands for the list L. -/
structure Rep (t : PT) (n : Int) (L : Ents) : Prop where
  wf : t.Wf 2
  srt : Srt L
  inb : InB L
  look : ∀ b, t.look b = rget L b
  len : n = L.length
  nodup : t.blocks.Nodup

theorem Rep.nil : Rep .nil 0 [] := ⟨trivial, List.Pairwise.nil, fun _ h => by simp at h, fun b => by unfold PT.look; split <;> simp [get_nil, rget_nil], rfl, by simp [PT.blocks]⟩

theorem Rep.set {m : Nat} {t t' : PT} {n n' b c : Int} {L : Ents} (h : Rep t n L) (hu : t.Under m) (hs : SetT m t n b c t' n') : Rep t' n' (rset L b c) := by
  unfold SetT at hs
  by_cases hv : 0 ≤ b ∧ b < 4096
  · have hv2 : 0 ≤ b ∧ b ≤ 4095 := by omega
    rw [rset_eq L b c hv2]
    have hsrt : Srt (insE L b c) := insE_srt h.srt
    have hinb : InB (insE L b c) := by
      intro x hx
      rcases insE_mem hx with rfl | hx
      · exact hv
      · exact h.inb x hx
    by_cases hk : t.look b = (c, true)
    · rw [if_pos (.inr hk)] at hs
      obtain ⟨rfl, rfl⟩ := hs
      have e : insE L b c = L := ents_ext hsrt h.srt fun z => by
        rw [insE_get h.srt]
        split
        · rename_i e; rw [e, ← h.look, hk]
        · rfl
      rw [e]; exact h
    · rw [if_neg (by rintro (h1 | h1); exact h1 hv; exact hk h1)] at hs
      obtain ⟨_, h2, h3⟩ := hs
      obtain ⟨hw, _⟩ := wf_set 2 _ _ _ _ _ h.wf h2
      refine ⟨hw, hsrt, hinb, fun z => ?_, ?_, (set_blocks 2 m m _ _ _ _ hu (Nat.le_refl _) h.nodup h2).1⟩
      · rw [insE_get h.srt]
        by_cases hz : 0 ≤ z ∧ z < 4096
        · have := get_set 2 _ _ _ _ _ h2 z.toNat
          have hsm := same2 (b := z.toNat) (c := b.toNat) (by omega) (by omega)
          have hl : t'.look z = t'.get 2 z.toNat := by unfold PT.look; rw [if_pos hz]
          rw [hl, this]
          by_cases e : z = b
          · rw [if_pos (hsm.2 (by rw [e])), if_pos e]
          · rw [if_neg (fun x => e (by have := hsm.1 x; omega)), if_neg e, ← h.look]
            unfold PT.look; rw [if_pos hz]
        · rw [if_neg (by rintro rfl; exact hz hv), rget_out h.srt h.inb hz]
          unfold PT.look; rw [if_neg hz]
      · rw [h3, insE_len, h.look, ← hit_rget, h.len]
        split <;> simp
  · rw [if_pos (.inl hv)] at hs
    obtain ⟨rfl, rfl⟩ := hs
    have : rset L b c = L := by unfold rset; rw [if_neg (by omega)]
    rw [this]; exact h

theorem Rep.clr {m : Nat} {t t' : PT} {n n' b : Int} {L : Ents} (h : Rep t n L) (hu : t.Under m) (hs : ClrT m t n b t' n') : Rep t' n' (rclr L b) := by
  unfold ClrT at hs
  rw [rclr_eq]
  have hh : hit L b = (t.look b).2 := by rw [hit_rget, h.look]
  by_cases hk : (t.look b).2 = true
  · rw [if_pos hk] at hs
    obtain ⟨h2, h3⟩ := hs
    have hv : 0 ≤ b ∧ b < 4096 := by
      apply Classical.byContradiction
      intro hv
      unfold PT.look at hk
      rw [if_neg hv] at hk; cases hk
    have hl : t.look b = t.get 2 b.toNat := by unfold PT.look; rw [if_pos hv]
    have hway := way_of_get 2 t b.toNat (by rw [← hl]; exact hk)
    refine ⟨wf_clr 2 _ _ _ _ h.wf hway h2, delE_srt h.srt, fun x hx => h.inb x (delE_mem hx), fun z => ?_, ?_, (clr_blocks 2 m m _ _ _ hu (Nat.le_refl _) h.nodup h2).1⟩
    · rw [delE_get h.srt]
      by_cases hz : 0 ≤ z ∧ z < 4096
      · have := get_clr 2 _ _ _ _ h.wf h2 z.toNat
        have hsm := same2 (b := z.toNat) (c := b.toNat) (by omega) (by omega)
        have hl : t'.look z = t'.get 2 z.toNat := by unfold PT.look; rw [if_pos hz]
        rw [hl, this]
        by_cases e : z = b
        · rw [if_pos (hsm.2 (by rw [e])), if_pos e]
        · rw [if_neg (fun x => e (by have := hsm.1 x; omega)), if_neg e, ← h.look]
          unfold PT.look; rw [if_pos hz]
      · rw [if_neg (by rintro rfl; exact hz hv), rget_out h.srt h.inb hz]
        unfold PT.look; rw [if_neg hz]
    · have := delE_len L b (by rw [hh]; exact hk)
      rw [h3, h.len]; omega
  · rw [if_neg hk] at hs
    obtain ⟨rfl, rfl⟩ := hs
    rw [delE_same L b (by rw [hh]; simpa using hk)]; exact h

theorem srt_len : ∀ (L : Ents) (lo : Int), Srt L → (∀ x ∈ L, lo ≤ x.1 ∧ x.1 < 4096) → lo ≤ 4096 → (L.length : Int) ≤ 4096 - lo
  | [], lo, _, _, hlo => by simp; omega
  | x :: xs, lo, hs, hb, hlo => by
    have hs' := List.pairwise_cons.1 hs
    have hx := hb x (by simp)
    have := srt_len xs (x.1 + 1) hs'.2 (fun y hy => by have := hs'.1 y hy; have := hb y (by simp [hy]); omega) (by omega)
    simp only [List.length_cons, Int.natCast_add, Int.natCast_one]
    omega
theorem Rep.len_le {t : PT} {n : Int} {L : Ents} (h : Rep t n L) : L.length ≤ 4096 := by
  have := srt_len L 0 h.srt h.inb (by omega)
  omega
theorem Rep.n_le {t : PT} {n : Int} {L : Ents} (h : Rep t n L) : 0 ≤ n ∧ n ≤ 4096 := by
  have := h.len_le
  have := h.len
  omega

theorem rset_get {M : Ents} (hM : Srt M) {e c : Int} (he : 0 ≤ e ∧ e < 4096) (z : Int) : rget (rset M e c) z = if z = e then (c, true) else rget M z := by
  rw [rset_eq M e c (by omega), insE_get hM]
theorem rclr_get {M : Ents} (hM : Srt M) {e : Int} (z : Int) : rget (rclr M e) z = if z = e then (0, false) else rget M z := by
  rw [rclr_eq, delE_get hM]

end Go.Proofs.YtdaagmhkhfcmdaaDoor
/- Spaces as plain lists, and what the operations make of them: no program in sight. -/
namespace Go.Proofs.YtdaagmhkhfcmdaaDoor
set_option maxHeartbeats 400000

/-- The first place at which f is x, or the length. -/
def ixN {α : Type} (f : α → Int) : List α → Int → Nat
  | [], _ => 0
  | y :: ys, x => if f y = x then 0 else ixN f ys x + 1
def ixV {α : Type} (f : α → Int) (L : List α) (x : Int) : Int := if ixN f L x < L.length then (ixN f L x : Nat) else -1
theorem ixN_le {α : Type} (f : α → Int) : ∀ (L : List α) (x : Int), ixN f L x ≤ L.length
  | [], _ => Nat.le_refl _
  | y :: ys, x => by
    unfold ixN
    split
    · exact Nat.zero_le _
    · simp
      exact ixN_le f ys x
theorem ixN_stop {α : Type} (f : α → Int) : ∀ {L : List α} {x : Int} {i : Nat} {y : α}, (∀ (j : Nat) z, j < i → L[j]? = some z → f z ≠ x) → L[i]? = some y → f y = x → ixN f L x = i
  | [], _, _, _, _, h, _ => by simp at h
  | z :: zs, x, 0, y, _, h, hb => by
    obtain rfl : z = y := by simpa using h
    simp [ixN, hb]
  | z :: zs, x, i + 1, y, hl, h, hb => by
    have h0 := hl 0 z (by omega) rfl
    simp only [ixN, h0, if_false, Nat.add_right_cancel_iff]
    exact ixN_stop f (fun j u hj hu => hl (j + 1) u (by omega) (by simpa using hu)) (by simpa using h) hb
theorem ixN_end {α : Type} (f : α → Int) : ∀ {L : List α} {x : Int}, (∀ (j : Nat) z, j < L.length → L[j]? = some z → f z ≠ x) → ixN f L x = L.length
  | [], _, _ => rfl
  | z :: zs, x, hl => by
    have h0 := hl 0 z (by simp) rfl
    simp only [ixN, h0, if_false, List.length_cons, Nat.add_right_cancel_iff]
    exact ixN_end f (fun j u hj hu => hl (j + 1) u (by simpa using hj) (by simpa using hu))
theorem ixN_map {α β : Type} (f : β → Int) (g : α → β) : ∀ (L : List α) (x : Int), ixN f (L.map g) x = ixN (fun a => f (g a)) L x
  | [], _ => rfl
  | y :: ys, x => by simp only [List.map_cons, ixN, ixN_map f g ys x]
theorem ixV_map {α β : Type} (f : β → Int) (g : α → β) (L : List α) (x : Int) : ixV f (L.map g) x = ixV (fun a => f (g a)) L x := by
  unfold ixV; rw [ixN_map, List.length_map]

/-- The first place whose number is not the place itself, or the length. -/
def frN {α : Type} (f : α → Int) : List α → Nat → Nat
  | [], _ => 0
  | y :: ys, k => if f y = k then frN f ys (k + 1) + 1 else 0
theorem frN_stop {α : Type} (f : α → Int) : ∀ {L : List α} {k i : Nat} {y : α}, (∀ (j : Nat) z, j < i → L[j]? = some z → f z = ((k + j : Nat) : Int)) → L[i]? = some y → f y ≠ ((k + i : Nat) : Int) → frN f L k = i
  | [], _, _, _, _, h, _ => by simp at h
  | z :: zs, k, 0, y, _, h, hb => by
    obtain rfl : z = y := by simpa using h
    have hb' : f z ≠ (k : Int) := by simpa using hb
    simp [frN, hb']
  | z :: zs, k, i + 1, y, hl, h, hb => by
    have h0 : f z = (k : Int) := by simpa using hl 0 z (by omega) rfl
    simp only [frN, h0, if_true, Nat.add_right_cancel_iff]
    refine frN_stop f (fun j u hj hu => ?_) (by simpa using h) (by rw [show k + 1 + i = k + (i + 1) by omega]; exact hb)
    rw [show k + 1 + j = k + (j + 1) by omega]
    exact hl (j + 1) u (by omega) (by simpa using hu)
theorem frN_end {α : Type} (f : α → Int) : ∀ {L : List α} {k : Nat}, (∀ (j : Nat) z, j < L.length → L[j]? = some z → f z = ((k + j : Nat) : Int)) → frN f L k = L.length
  | [], _, _ => rfl
  | z :: zs, k, hl => by
    have h0 : f z = (k : Int) := by simpa using hl 0 z (by simp) rfl
    simp only [frN, h0, if_true, List.length_cons, Nat.add_right_cancel_iff]
    refine frN_end f (fun j u hj hu => ?_)
    rw [show k + 1 + j = k + (j + 1) by omega]
    exact hl (j + 1) u (by simpa using hj) (by simpa using hu)
theorem frN_le {α : Type} (f : α → Int) : ∀ (L : List α) (k : Nat), frN f L k ≤ L.length
  | [], _ => Nat.le_refl _
  | y :: ys, k => by
    unfold frN
    split
    · simp
      exact frN_le f ys (k + 1)
    · exact Nat.zero_le _
theorem frN_map {α β : Type} (f : β → Int) (g : α → β) : ∀ (L : List α) (k : Nat), frN f (L.map g) k = frN (fun a => f (g a)) L k
  | [], _ => rfl
  | y :: ys, k => by simp only [List.map_cons, frN, frN_map f g ys (k + 1)]

/-- A volume or a snapshot (for a volume the place it was taken from is 0). -/
structure AP where
  id : Int
  ten : Int
  from_ : Int
  L : Ents
/-- A space. -/
structure Asp where
  vs : List AP
  ss : List AP

def insAt {α : Type} (l : List α) (i : Nat) (x : α) : List α := l.take i ++ x :: l.drop i
theorem insAt_map {α β : Type} (g : α → β) (l : List α) (i : Nat) (x : α) : (insAt l i x).map g = insAt (l.map g) i (g x) := by simp [insAt]
theorem insAt_len {α : Type} (l : List α) (i : Nat) (x : α) : (insAt l i x).length = l.length + 1 := by
  unfold insAt
  simp only [List.length_append, List.length_take, List.length_cons, List.length_drop]
  omega
theorem insAt_mem {α : Type} {l : List α} {i : Nat} {x y : α} : y ∈ insAt l i x ↔ y = x ∨ y ∈ l := by
  unfold insAt
  rw [List.mem_append, List.mem_cons]
  constructor
  · rintro (h | h | h)
    · exact .inr (List.mem_of_mem_take h)
    · exact .inl h
    · exact .inr (List.mem_of_mem_drop h)
  · rintro (h | h)
    · exact .inr (.inl h)
    · rw [← List.take_append_drop i l, List.mem_append] at h
      rcases h with h | h
      · exact .inl h
      · exact .inr (.inr h)

def Asp.create (A : Asp) (ten : Int) (L : Ents) : Asp × Int × Int :=
  if 0 ≤ ten ∧ ten < 16 then
    if A.vs.length < 64 then (⟨insAt A.vs (frN AP.id A.vs 0) ⟨(frN AP.id A.vs 0 : Nat), ten, 0, L⟩, A.ss⟩, (frN AP.id A.vs 0 : Nat), 0) else (A, 0, 2)
  else (A, 0, 1)
def Asp.delete (A : Asp) (x : Int) : Asp × Int × Int := if ixN AP.id A.vs x < A.vs.length then (⟨A.vs.eraseIdx (ixN AP.id A.vs x), A.ss⟩, 0, 0) else (A, 0, 12)
def Asp.change (A : Asp) (x : Int) (ok : Bool) (f : AP → AP) : Asp × Int × Int :=
  if ixN AP.id A.vs x < A.vs.length then if ok then (⟨A.vs.modify (ixN AP.id A.vs x) f, A.ss⟩, 0, 0) else (A, 0, 1) else (A, 0, 12)
def AP.give (ten : Int) (v : AP) : AP := { v with ten := ten }
def AP.map (b c : Int) (v : AP) : AP := { v with L := rset v.L b c }
def AP.unmap (b : Int) (v : AP) : AP := { v with L := rclr v.L b }
def AP.maps (L : Ents) (v : AP) : AP := { v with L := L }
def tenB (n : Int) : Bool := decide (0 ≤ n ∧ n < 16)
def blkB (n : Int) : Bool := decide (0 ≤ n ∧ n < 4096)
def chkB (n : Int) : Bool := decide (0 ≤ n ∧ n < 2147483648)
def Asp.snapshot (A : Asp) (x : Int) : Asp × Int × Int :=
  match A.vs[ixN AP.id A.vs x]? with
  | none => (A, 0, 12)
  | some v => if A.ss.length < 256 then (⟨A.vs, insAt A.ss (frN AP.id A.ss 0) ⟨(frN AP.id A.ss 0 : Nat), v.ten, x, v.L⟩⟩, (frN AP.id A.ss 0 : Nat), 0) else (A, 0, 2)
def Asp.drop (A : Asp) (x : Int) : Asp × Int × Int := if ixN AP.id A.ss x < A.ss.length then (⟨A.vs, A.ss.eraseIdx (ixN AP.id A.ss x)⟩, 0, 0) else (A, 0, 12)
def Asp.clone (A : Asp) (x t : Int) : Asp × Int × Int :=
  match A.ss[ixN AP.id A.ss x]? with
  | none => (A, 0, 12)
  | some p => A.create t p.L
def Asp.restore (A : Asp) (x y : Int) : Asp × Int × Int :=
  match A.ss[ixN AP.id A.ss y]? with
  | none => (A, 0, 12)
  | some p => A.change x true (AP.maps p.L)
/-- One operation of a script. -/
structure Opn where
  kind : Int
  a : Int
  b : Int
  c : Int
def Asp.step (A : Asp) (o : Opn) : Asp × Int × Int :=
  if o.kind = 1 then A.create o.a [] else if o.kind = 2 then A.delete o.a else if o.kind = 3 then A.change o.a (tenB o.b) (AP.give o.b)
  else if o.kind = 4 then A.change o.a (blkB o.b && chkB o.c) (AP.map o.b o.c) else if o.kind = 5 then A.change o.a (blkB o.b) (AP.unmap o.b)
  else if o.kind = 6 then A.snapshot o.a else if o.kind = 7 then A.drop o.a else if o.kind = 8 then A.clone o.a o.b else if o.kind = 9 then A.restore o.a o.b
  else (A, 0, 0)
def Asp.run (A : Asp) (os : List Opn) : Asp := os.foldl (fun A o => (A.step o).1) A

/-- The block of a list of mappings: the chunk; 1 for a bad block, 12 for one that is not mapped. -/
def atE (L : Ents) (blk : Int) : Int × Int := if 0 ≤ blk ∧ blk < 4096 then (if (rget L blk).2 then ((rget L blk).1, 0) else (0, 12)) else (0, 1)
def Asp.look (A : Asp) (x blk : Int) : Int × Int := match A.ss[ixN AP.id A.ss x]? with
  | some s => atE s.L blk
  | none => (0, 12)
def Asp.got (A : Asp) (x blk : Int) : Int × Int := match A.vs[ixN AP.id A.vs x]? with
  | some s => atE s.L blk
  | none => (0, 12)
end Go.Proofs.YtdaagmhkhfcmdaaDoor
/- Look-ups in spaces, and what stays true of a space: no program in sight. -/
namespace Go.Proofs.YtdaagmhkhfcmdaaDoor
set_option maxHeartbeats 400000

section lists
variable {α : Type} {f : α → Int}
theorem ixN_get : ∀ {l : List α} {x : Int} {a : α}, l[ixN f l x]? = some a → f a = x
  | [], _, _, h => by simp at h
  | y :: ys, x, a, h => by
    unfold ixN at h
    split at h
    · rename_i e
      simp at h; subst h; exact e
    · simp at h
      exact ixN_get h
theorem ixN_none : ∀ {l : List α} {x : Int}, l[ixN f l x]? = none → ∀ a ∈ l, f a ≠ x
  | [], _, _, _, h => by simp at h
  | y :: ys, x, hn, a, ha => by
    unfold ixN at hn
    split at hn
    · simp at hn
    · rename_i e
      simp at hn
      rcases List.mem_cons.1 ha with rfl | ha
      · exact e
      · exact ixN_none (by simpa using hn) a ha
theorem ixN_miss : ∀ {l : List α} {x : Int}, (∀ a ∈ l, f a ≠ x) → ixN f l x = l.length
  | [], _, _ => rfl
  | y :: ys, x, h => by
    simp only [ixN, h y (by simp), if_false, List.length_cons, Nat.add_right_cancel_iff]
    exact ixN_miss fun a ha => h a (by simp [ha])

/-- The element with a number. -/
def lk (f : α → Int) (l : List α) (x : Int) : Option α := l[ixN f l x]?
theorem lk_nil (x : Int) : lk f ([] : List α) x = none := rfl
theorem lk_cons (y : α) (ys : List α) (x : Int) : lk f (y :: ys) x = if f y = x then some y else lk f ys x := by
  show (y :: ys)[ixN f (y :: ys) x]? = _
  rw [ixN]
  split <;> simp [lk]
theorem lk_append : ∀ (l m : List α) (x : Int), lk f (l ++ m) x = (lk f l x).or (lk f m x)
  | [], m, x => by simp [lk_nil]
  | y :: ys, m, x => by
    rw [List.cons_append, lk_cons, lk_cons, lk_append ys m x]
    split <;> simp
theorem lk_some {l : List α} {x : Int} {a : α} (h : lk f l x = some a) : f a = x ∧ a ∈ l := ⟨ixN_get h, List.mem_of_getElem? h⟩
theorem lk_none {l : List α} {x : Int} : lk f l x = none ↔ ∀ a ∈ l, f a ≠ x := by
  constructor
  · exact ixN_none
  · intro h
    unfold lk
    rw [ixN_miss h, List.getElem?_eq_none (Nat.le_refl _)]
theorem lk_lt {l : List α} {x : Int} : ixN f l x < l.length ↔ ∃ a, lk f l x = some a := by
  constructor
  · intro h; exact ⟨_, List.getElem?_eq_getElem h⟩
  · rintro ⟨a, h⟩; exact (List.getElem?_eq_some_iff.1 h).1

def Inc (f : α → Int) (l : List α) : Prop := l.Pairwise fun x y => f x < f y
theorem lk_mem : ∀ {l : List α} {a : α}, Inc f l → a ∈ l → lk f l (f a) = some a
  | [], _, _, h => by simp at h
  | y :: ys, a, hs, h => by
    have hs' := List.pairwise_cons.1 hs
    rw [lk_cons]
    rcases List.mem_cons.1 h with rfl | h
    · simp
    · rw [if_neg (by have := hs'.1 a h; omega)]
      exact lk_mem hs'.2 h
theorem lk_ins {l : List α} {i : Nat} {a : α} {x : Int} (h : x ≠ f a) : lk f (insAt l i a) x = lk f l x := by
  unfold insAt
  rw [lk_append, lk_cons, if_neg (fun e => h e.symm), ← lk_append, List.take_append_drop]
theorem lk_ins_self {l : List α} {i : Nat} {a : α} (h : ∀ b ∈ l, f b ≠ f a) : lk f (insAt l i a) (f a) = some a := by
  unfold insAt
  rw [lk_append, lk_cons, if_pos rfl, lk_none.2 (fun b hb => h b (List.mem_of_mem_take hb))]
  rfl
theorem lk_erase : ∀ {l : List α} {x y : Int}, x ≠ y → lk f (l.eraseIdx (ixN f l y)) x = lk f l x
  | [], _, _, _ => rfl
  | z :: zs, x, y, h => by
    unfold ixN
    split
    · rename_i e
      rw [List.eraseIdx_cons_zero, lk_cons, if_neg (by omega)]
    · rw [List.eraseIdx_cons_succ, lk_cons, lk_cons, lk_erase h]
theorem lk_erase_self : ∀ {l : List α} {y : Int}, Inc f l → lk f (l.eraseIdx (ixN f l y)) y = none
  | [], _, _ => rfl
  | z :: zs, y, hs => by
    have hs' := List.pairwise_cons.1 hs
    unfold ixN
    split
    · rename_i e
      rw [List.eraseIdx_cons_zero, lk_none]
      intro a ha
      have := hs'.1 a ha
      omega
    · rename_i e
      rw [List.eraseIdx_cons_succ, lk_cons, if_neg e, lk_erase_self hs'.2]
theorem lk_modify {g : α → α} (hg : ∀ a, f (g a) = f a) : ∀ {l : List α} {x y : Int}, lk f (l.modify (ixN f l y) g) x = if x = y then (lk f l x).map g else lk f l x
  | [], x, y => by simp [lk_nil]
  | z :: zs, x, y => by
    unfold ixN
    split
    · rename_i e
      rw [List.modify_zero_cons, lk_cons, lk_cons, hg]
      by_cases hx : f z = x
      · rw [if_pos hx, if_pos hx, if_pos (by omega)]; rfl
      · rw [if_neg hx, if_neg hx, if_neg (by omega)]
    · rename_i e
      rw [List.modify_succ_cons, lk_cons, lk_cons, lk_modify hg]
      by_cases hx : f z = x
      · rw [if_pos hx, if_pos hx, if_neg (by omega)]
      · rw [if_neg hx, if_neg hx]

theorem inc_erase {l : List α} (h : Inc f l) (i : Nat) : Inc f (l.eraseIdx i) := List.Pairwise.sublist (List.eraseIdx_sublist l i) h
theorem inc_modify {g : α → α} (hg : ∀ a, f (g a) = f a) : ∀ {l : List α} (i : Nat), Inc f l → Inc f (l.modify i g)
  | [], i, h => by simpa using h
  | z :: zs, 0, h => by
    have h' := List.pairwise_cons.1 h
    rw [List.modify_zero_cons]
    exact List.pairwise_cons.2 ⟨fun a ha => by rw [hg]; exact h'.1 a ha, h'.2⟩
  | z :: zs, i + 1, h => by
    have h' := List.pairwise_cons.1 h
    rw [List.modify_succ_cons]
    refine List.pairwise_cons.2 ⟨fun a ha => ?_, inc_modify hg i h'.2⟩
    obtain ⟨b, hb, e⟩ : ∃ b ∈ zs, f a = f b := by
      obtain ⟨k, hk, rfl⟩ := List.getElem_of_mem ha
      rw [List.getElem_modify]
      rw [List.length_modify] at hk
      refine ⟨zs[k], List.getElem_mem hk, ?_⟩
      split
      · exact hg _
      · rfl
    rw [e]; exact h'.1 b hb
/-- The lowest free number: what stands ahead is lower, what follows is higher. -/
theorem frN_spec : ∀ {l : List α} {k : Nat}, Inc f l → (∀ a ∈ l, (k : Int) ≤ f a) →
    (∀ a ∈ l.take (frN f l k), f a < ((k + frN f l k : Nat) : Int)) ∧ (∀ a ∈ l.drop (frN f l k), ((k + frN f l k : Nat) : Int) < f a)
  | [], k, _, _ => ⟨fun a h => by simp at h, fun a h => by simp at h⟩
  | y :: ys, k, hs, hk => by
    have hs' := List.pairwise_cons.1 hs
    have hy := hk y (by simp)
    unfold frN
    split
    · rename_i e
      obtain ⟨h1, h2⟩ := frN_spec (l := ys) (k := k + 1) hs'.2 (fun a ha => by have := hs'.1 a ha; omega)
      rw [List.take_succ_cons, List.drop_succ_cons]
      refine ⟨fun a ha => ?_, fun a ha => ?_⟩
      · rcases List.mem_cons.1 ha with rfl | ha
        · omega
        · have := h1 a ha; omega
      · have := h2 a ha; omega
    · rename_i e
      refine ⟨fun a ha => by simp at ha, fun a ha => ?_⟩
      rcases List.mem_cons.1 ha with rfl | ha
      · omega
      · have := hs'.1 a ha; omega
theorem frN_fresh {l : List α} (hs : Inc f l) (h0 : ∀ a ∈ l, 0 ≤ f a) : ∀ a ∈ l, f a ≠ ((frN f l 0 : Nat) : Int) := by
  obtain ⟨h1, h2⟩ := frN_spec (k := 0) hs (by simpa using h0)
  intro a ha
  rw [← List.take_append_drop (frN f l 0) l, List.mem_append] at ha
  rcases ha with ha | ha
  · have := h1 a ha; omega
  · have := h2 a ha; omega
theorem inc_ins {l : List α} (hs : Inc f l) (h0 : ∀ a ∈ l, 0 ≤ f a) {x : α} (hx : f x = ((frN f l 0 : Nat) : Int)) : Inc f (insAt l (frN f l 0) x) := by
  obtain ⟨h1, h2⟩ := frN_spec (k := 0) hs (by simpa using h0)
  rw [Nat.zero_add] at h1 h2
  unfold Inc insAt
  have hs' : Inc f (l.take (frN f l 0) ++ l.drop (frN f l 0)) := by rw [List.take_append_drop]; exact hs
  have hp := List.pairwise_append.1 hs'
  refine List.pairwise_append.2 ⟨hp.1, List.pairwise_cons.2 ⟨fun a ha => by rw [hx]; exact h2 a ha, hp.2.1⟩, fun a ha b hb => ?_⟩
  rcases List.mem_cons.1 hb with rfl | hb
  · rw [hx]; exact h1 a ha
  · exact hp.2.2 a ha b hb
theorem modify_mem {g : α → α} {l : List α} {i : Nat} {b : α} (h : b ∈ l.modify i g) : ∃ a ∈ l, b = a ∨ b = g a := by
  obtain ⟨k, hk, rfl⟩ := List.getElem_of_mem h
  rw [List.getElem_modify]
  rw [List.length_modify] at hk
  refine ⟨l[k], List.getElem_mem hk, ?_⟩
  split
  · exact .inr rfl
  · exact .inl rfl
end lists

/-- A good list of volumes or snapshots. -/
structure GoodL (m : Nat) (l : List AP) : Prop where
  inc : Inc AP.id l
  id0 : ∀ a ∈ l, 0 ≤ a.id
  idm : ∀ a ∈ l, a.id < m
  ten : ∀ a ∈ l, 0 ≤ a.ten ∧ a.ten < 16
  fr : ∀ a ∈ l, 0 ≤ a.from_ ∧ a.from_ < 64
  srt : ∀ a ∈ l, Srt a.L
  inb : ∀ a ∈ l, InB a.L
  chk : ∀ a ∈ l, ∀ x ∈ a.L, 0 ≤ x.2 ∧ x.2 < 2147483648
  len : l.length ≤ m
/-- A good space. -/
structure Good (A : Asp) : Prop where
  v : GoodL 64 A.vs
  s : GoodL 256 A.ss
structure GoodE (L : Ents) : Prop where
  srt : Srt L
  inb : InB L
  chk : ∀ x ∈ L, 0 ≤ x.2 ∧ x.2 < 2147483648
theorem GoodE.nil : GoodE [] := ⟨List.Pairwise.nil, fun _ h => by simp at h, fun _ h => by simp at h⟩
theorem GoodL.ents {m : Nat} {l : List AP} (h : GoodL m l) {a : AP} (ha : a ∈ l) : GoodE a.L := ⟨h.srt a ha, h.inb a ha, h.chk a ha⟩
theorem GoodL.nil (m : Nat) : GoodL m [] := ⟨List.Pairwise.nil, by simp, by simp, by simp, by simp, by simp, by simp, by simp, by simp⟩
theorem Good.nil : Good ⟨[], []⟩ := ⟨GoodL.nil _, GoodL.nil _⟩
theorem GoodL.ins {m : Nat} {l : List AP} (h : GoodL m l) (hl : l.length < m) {t u : Int} {L : Ents} (ht : 0 ≤ t ∧ t < 16) (hu : 0 ≤ u ∧ u < 64) (hL : GoodE L) :
    GoodL m (insAt l (frN AP.id l 0) ⟨(frN AP.id l 0 : Nat), t, u, L⟩) := by
  have hle := frN_le AP.id l 0
  refine ⟨inc_ins h.inc h.id0 rfl, fun a ha => ?_, fun a ha => ?_, fun a ha => ?_, fun a ha => ?_, fun a ha => ?_, fun a ha => ?_, fun a ha => ?_, by rw [insAt_len]; omega⟩
  all_goals rcases insAt_mem.1 ha with rfl | ha
  · show (0 : Int) ≤ (frN AP.id l 0 : Nat); omega
  · exact h.id0 a ha
  · show ((frN AP.id l 0 : Nat) : Int) < m; omega
  · exact h.idm a ha
  · exact ht
  · exact h.ten a ha
  · exact hu
  · exact h.fr a ha
  · exact hL.srt
  · exact h.srt a ha
  · exact hL.inb
  · exact h.inb a ha
  · exact hL.chk
  · exact h.chk a ha
theorem GoodL.erase {m : Nat} {l : List AP} (h : GoodL m l) (i : Nat) : GoodL m (l.eraseIdx i) := by
  have hm : ∀ a, a ∈ l.eraseIdx i → a ∈ l := fun a ha => (List.eraseIdx_sublist l i).subset ha
  refine ⟨inc_erase h.inc i, fun a ha => h.id0 a (hm a ha), fun a ha => h.idm a (hm a ha), fun a ha => h.ten a (hm a ha), fun a ha => h.fr a (hm a ha), fun a ha => h.srt a (hm a ha), fun a ha => h.inb a (hm a ha), fun a ha => h.chk a (hm a ha), ?_⟩
  have := (List.eraseIdx_sublist l i).length_le
  have := h.len
  omega
theorem GoodL.modify {m : Nat} {l : List AP} (h : GoodL m l) (i : Nat) {g : AP → AP} (hg : ∀ a, (g a).id = a.id) (ht : ∀ a, 0 ≤ a.ten ∧ a.ten < 16 → 0 ≤ (g a).ten ∧ (g a).ten < 16) (hf : ∀ a, (g a).from_ = a.from_) (hL : ∀ a, GoodE a.L → GoodE (g a).L) : GoodL m (l.modify i g) := by
  refine ⟨inc_modify hg i h.inc, fun b hb => ?_, fun b hb => ?_, fun b hb => ?_, fun b hb => ?_, fun b hb => ?_, fun b hb => ?_, fun b hb => ?_, by rw [List.length_modify]; exact h.len⟩
  all_goals obtain ⟨a, ha, rfl | rfl⟩ := modify_mem hb
  · exact h.id0 _ ha
  · rw [hg]; exact h.id0 a ha
  · exact h.idm _ ha
  · rw [hg]; exact h.idm a ha
  · exact h.ten _ ha
  · exact ht a (h.ten a ha)
  · exact h.fr _ ha
  · rw [hf]; exact h.fr a ha
  · exact h.srt _ ha
  · exact (hL a (h.ents ha)).srt
  · exact h.inb _ ha
  · exact (hL a (h.ents ha)).inb
  · exact h.chk _ ha
  · exact (hL a (h.ents ha)).chk
theorem GoodE.set {L : Ents} (h : GoodE L) {b c : Int} (hb : 0 ≤ b ∧ b < 4096) (hc : 0 ≤ c ∧ c < 2147483648) : GoodE (rset L b c) := by
  rw [rset_eq L b c (by omega)]
  refine ⟨insE_srt h.srt, fun x hx => ?_, fun x hx => ?_⟩
  all_goals rcases insE_mem hx with rfl | hx
  · exact hb
  · exact h.inb x hx
  · exact hc
  · exact h.chk x hx
theorem GoodE.clr {L : Ents} (h : GoodE L) (b : Int) : GoodE (rclr L b) := by
  rw [rclr_eq]
  exact ⟨delE_srt h.srt, fun x hx => h.inb x (delE_mem hx), fun x hx => h.chk x (delE_mem hx)⟩

theorem Good.create {A : Asp} (h : Good A) {t : Int} {L : Ents} (hL : GoodE L) : Good (A.create t L).1 := by
  unfold Asp.create
  split
  · split
    · exact ⟨h.v.ins (by assumption) (by assumption) (by omega) hL, h.s⟩
    · exact h
  · exact h
theorem Good.change {A : Asp} (h : Good A) {x : Int} {ok : Bool} {g : AP → AP} (hg : ∀ a, (g a).id = a.id) (ht : ok = true → ∀ a, 0 ≤ a.ten ∧ a.ten < 16 → 0 ≤ (g a).ten ∧ (g a).ten < 16) (hf : ∀ a, (g a).from_ = a.from_) (hL : ok = true → ∀ a, GoodE a.L → GoodE (g a).L) : Good (A.change x ok g).1 := by
  unfold Asp.change
  split
  · split
    · rename_i hok
      exact ⟨h.v.modify _ hg (ht hok) hf (hL hok), h.s⟩
    · exact h
  · exact h
theorem Good.step {A : Asp} (h : Good A) (o : Opn) : Good (A.step o).1 := by
  unfold Asp.step
  split
  · exact h.create GoodE.nil
  split
  · unfold Asp.delete
    split
    · exact ⟨h.v.erase _, h.s⟩
    · exact h
  split
  · refine h.change (fun _ => rfl) (fun hok a _ => ?_) (fun _ => rfl) (fun _ a ha => ha)
    simpa [tenB, AP.give] using hok
  split
  · refine h.change (fun _ => rfl) (fun _ a ha => ha) (fun _ => rfl) (fun hok a ha => ?_)
    simp only [blkB, chkB, Bool.and_eq_true, decide_eq_true_eq] at hok
    exact ha.set hok.1 hok.2
  split
  · exact h.change (fun _ => rfl) (fun _ a ha => ha) (fun _ => rfl) (fun _ a ha => ha.clr _)
  split
  · unfold Asp.snapshot
    split
    · exact h
    · rename_i v hv
      have hm := List.mem_of_getElem? hv
      split
      · refine ⟨h.v, h.s.ins (by assumption) (h.v.ten v hm) ?_ (h.v.ents hm)⟩
        have h1 := ixN_get hv
        have h2 := h.v.id0 v hm
        have h3 := h.v.idm v hm
        constructor
        · omega
        · show o.a < 64; have : ((64 : Nat) : Int) = 64 := rfl; omega
      · exact h
  split
  · unfold Asp.drop
    split
    · exact ⟨h.v, h.s.erase _⟩
    · exact h
  split
  · unfold Asp.clone
    split
    · exact h
    · rename_i p hp
      exact h.create (h.s.ents (List.mem_of_getElem? hp))
  split
  · unfold Asp.restore
    split
    · exact h
    · rename_i p hp
      exact h.change (fun _ => rfl) (fun _ a ha => ha) (fun _ => rfl) (fun _ a _ => show GoodE p.L from h.s.ents (List.mem_of_getElem? hp))
  exact h
theorem Good.run {A : Asp} (h : Good A) : ∀ (os : List Opn), Good (A.run os)
  | [] => h
  | o :: os => by
    show Good ((A.step o).1.run os)
    exact (h.step o).run os
end Go.Proofs.YtdaagmhkhfcmdaaDoor
/- What an operation leaves as it was: no program in sight. -/
namespace Go.Proofs.YtdaagmhkhfcmdaaDoor
set_option maxHeartbeats 400000

theorem got_eq (A : Asp) (x blk : Int) : A.got x blk = match lk AP.id A.vs x with | some s => atE s.L blk | none => (0, 12) := rfl
theorem look_eq (A : Asp) (x blk : Int) : A.look x blk = match lk AP.id A.ss x with | some s => atE s.L blk | none => (0, 12) := rfl

theorem change_some {A : Asp} {x : Int} {v : AP} {g : AP → AP} (h : lk AP.id A.vs x = some v) : A.change x true g = (⟨A.vs.modify (ixN AP.id A.vs x) g, A.ss⟩, 0, 0) := by
  unfold Asp.change
  rw [if_pos (lk_lt.2 ⟨v, h⟩)]
  rfl
theorem change_none {A : Asp} {x : Int} {ok : Bool} {g : AP → AP} (h : lk AP.id A.vs x = none) : A.change x ok g = (A, 0, 12) := by
  unfold Asp.change
  rw [if_neg (fun hl => by obtain ⟨v, hv⟩ := lk_lt.1 hl; rw [h] at hv; cases hv)]
theorem change_bad {A : Asp} {x : Int} {v : AP} {g : AP → AP} (h : lk AP.id A.vs x = some v) : A.change x false g = (A, 0, 1) := by
  unfold Asp.change
  rw [if_pos (lk_lt.2 ⟨v, h⟩)]
  rfl
theorem lk_change {A : Asp} {x y : Int} {v : AP} {g : AP → AP} (hg : ∀ a, (g a).id = a.id) (h : lk AP.id A.vs x = some v) :
    lk AP.id (A.change x true g).1.vs y = if y = x then some (g v) else lk AP.id A.vs y := by
  rw [change_some h, lk_modify hg]
  split
  · rename_i e; subst e; rw [h]; rfl
  · rfl
theorem ss_change (A : Asp) (x : Int) (ok : Bool) (g : AP → AP) : (A.change x ok g).1.ss = A.ss := by
  unfold Asp.change
  split
  · split <;> rfl
  · rfl
theorem ss_create (A : Asp) (t : Int) (L : Ents) : (A.create t L).1.ss = A.ss := by
  unfold Asp.create
  split
  · split <;> rfl
  · rfl
theorem lk_create {A : Asp} (h : Good A) {x : Int} {v : AP} (hv : lk AP.id A.vs x = some v) (t : Int) (L : Ents) : lk AP.id (A.create t L).1.vs x = some v := by
  unfold Asp.create
  split
  · split
    · show lk AP.id (insAt _ _ _) x = _
      rw [lk_ins]
      · exact hv
      · have := frN_fresh h.v.inc h.v.id0 v (lk_some hv).2
        rw [← (lk_some hv).1]
        exact this
    · exact hv
  · exact hv
theorem create_ok {A : Asp} (h : Good A) {t : Int} {L : Ents} (hok : (A.create t L).2.2 = 0) : lk AP.id (A.create t L).1.vs (A.create t L).2.1 = some ⟨(A.create t L).2.1, t, 0, L⟩ := by
  unfold Asp.create at hok ⊢
  split at hok
  · rename_i h1
    rw [if_pos h1]
    split at hok
    · rename_i h2
      rw [if_pos h2]
      exact lk_ins_self fun b hb => frN_fresh h.v.inc h.v.id0 b hb
    · cases hok
  · cases hok
theorem snapshot_some {A : Asp} {x : Int} {v : AP} (hv : lk AP.id A.vs x = some v) : A.snapshot x = if A.ss.length < 256 then (⟨A.vs, insAt A.ss (frN AP.id A.ss 0) ⟨(frN AP.id A.ss 0 : Nat), v.ten, x, v.L⟩⟩, ((frN AP.id A.ss 0 : Nat) : Int), (0 : Int)) else (A, 0, 2) := by
  unfold lk at hv
  unfold Asp.snapshot
  rw [hv]
theorem snapshot_none {A : Asp} {x : Int} (hv : lk AP.id A.vs x = none) : A.snapshot x = (A, 0, 12) := by
  unfold lk at hv
  unfold Asp.snapshot
  rw [hv]
theorem clone_some {A : Asp} {x t : Int} {v : AP} (hv : lk AP.id A.ss x = some v) : A.clone x t = A.create t v.L := by
  unfold lk at hv
  unfold Asp.clone
  rw [hv]
theorem clone_none {A : Asp} {x t : Int} (hv : lk AP.id A.ss x = none) : A.clone x t = (A, 0, 12) := by
  unfold lk at hv
  unfold Asp.clone
  rw [hv]
theorem restore_some {A : Asp} {x y : Int} {v : AP} (hv : lk AP.id A.ss y = some v) : A.restore x y = A.change x true (AP.maps v.L) := by
  unfold lk at hv
  unfold Asp.restore
  rw [hv]
theorem restore_none {A : Asp} {x y : Int} (hv : lk AP.id A.ss y = none) : A.restore x y = (A, 0, 12) := by
  unfold lk at hv
  unfold Asp.restore
  rw [hv]
theorem vs_snapshot (A : Asp) (x : Int) : (A.snapshot x).1.vs = A.vs := by
  cases h : lk AP.id A.vs x with
  | none => rw [snapshot_none h]
  | some v => rw [snapshot_some h]; split <;> rfl
theorem lk_snapshot {A : Asp} (h : Good A) {x y : Int} {p : AP} (hp : lk AP.id A.ss y = some p) : lk AP.id (A.snapshot x).1.ss y = some p := by
  cases hv : lk AP.id A.vs x with
  | none => rw [snapshot_none hv]; exact hp
  | some v =>
    rw [snapshot_some hv]
    split
    · show lk AP.id (insAt _ _ _) y = _
      rw [lk_ins]
      · exact hp
      · have := frN_fresh h.s.inc h.s.id0 p (lk_some hp).2
        rw [← (lk_some hp).1]
        exact this
    · exact hp
theorem snapshot_ok {A : Asp} (h : Good A) {x : Int} (hok : (A.snapshot x).2.2 = 0) : ∃ v, lk AP.id A.vs x = some v ∧ lk AP.id (A.snapshot x).1.ss (A.snapshot x).2.1 = some ⟨(A.snapshot x).2.1, v.ten, x, v.L⟩ := by
  cases hv : lk AP.id A.vs x with
  | none => rw [snapshot_none hv] at hok; cases hok
  | some v =>
    refine ⟨v, rfl, ?_⟩
    rw [snapshot_some hv] at hok ⊢
    split at hok
    · rename_i h1
      rw [if_pos h1]
      exact lk_ins_self fun b hb => frN_fresh h.s.inc h.s.id0 b hb
    · cases hok

/-- An operation on one volume, or on a snapshot, leaves another volume as it was. -/
theorem step_other {A : Asp} (h : Good A) {x : Int} {v : AP} (hv : lk AP.id A.vs x = some v) {o : Opn} (ho : ¬ (o.a = x ∧ (o.kind = 2 ∨ o.kind = 3 ∨ o.kind = 4 ∨ o.kind = 5 ∨ o.kind = 9))) : lk AP.id (A.step o).1.vs x = some v := by
  have key : ∀ ok (g : AP → AP), (∀ a, (g a).id = a.id) → o.a ≠ x → lk AP.id (A.change o.a ok g).1.vs x = some v := by
    intro ok g hg hne
    cases hy : lk AP.id A.vs o.a with
    | none => rw [change_none hy]; exact hv
    | some y =>
      cases ok with
      | false => rw [change_bad hy]; exact hv
      | true => rw [lk_change hg hy, if_neg (fun e => hne e.symm)]; exact hv
  unfold Asp.step
  split
  · exact lk_create h hv _ _
  split
  · rename_i h1 h2
    unfold Asp.delete
    split
    · show lk AP.id (A.vs.eraseIdx _) x = _
      rw [lk_erase (fun e => ho ⟨e.symm, .inl h2⟩)]; exact hv
    · exact hv
  split
  · rename_i h2; exact key _ _ (fun _ => rfl) fun e => ho ⟨e, .inr (.inl h2)⟩
  split
  · rename_i h2; exact key _ _ (fun _ => rfl) fun e => ho ⟨e, .inr (.inr (.inl h2))⟩
  split
  · rename_i h2; exact key _ _ (fun _ => rfl) fun e => ho ⟨e, .inr (.inr (.inr (.inl h2)))⟩
  split
  · rw [vs_snapshot]; exact hv
  split
  · unfold Asp.drop
    split
    · exact hv
    · exact hv
  split
  · cases hp : lk AP.id A.ss o.a with
    | none => rw [clone_none hp]; exact hv
    | some p => rw [clone_some hp]; exact lk_create h hv _ _
  split
  · rename_i h2
    cases hp : lk AP.id A.ss o.b with
    | none => rw [restore_none hp]; exact hv
    | some p => rw [restore_some hp]; exact key _ _ (fun _ => rfl) fun e => ho ⟨e, .inr (.inr (.inr (.inr h2)))⟩
  exact hv
/-- An operation that does not drop a snapshot leaves it as it was. -/
theorem step_snap {A : Asp} (h : Good A) {y : Int} {p : AP} (hp : lk AP.id A.ss y = some p) {o : Opn} (ho : ¬ (o.kind = 7 ∧ o.a = y)) : lk AP.id (A.step o).1.ss y = some p := by
  unfold Asp.step
  split
  · rw [ss_create]; exact hp
  split
  · unfold Asp.delete
    split
    · exact hp
    · exact hp
  split
  · rw [ss_change]; exact hp
  split
  · rw [ss_change]; exact hp
  split
  · rw [ss_change]; exact hp
  split
  · exact lk_snapshot h hp
  split
  · rename_i h2
    unfold Asp.drop
    split
    · show lk AP.id (A.ss.eraseIdx _) y = _
      rw [lk_erase (fun e => ho ⟨h2, e.symm⟩)]; exact hp
    · exact hp
  split
  · cases hq : lk AP.id A.ss o.a with
    | none => rw [clone_none hq]; exact hp
    | some p => rw [clone_some hq, ss_create]; exact hp
  split
  · cases hq : lk AP.id A.ss o.b with
    | none => rw [restore_none hq]; exact hp
    | some q => rw [restore_some hq, ss_change]; exact hp
  exact hp
/-- The last write. -/
theorem atE_set {L : Ents} (hs : Srt L) {b c z : Int} (hb : 0 ≤ b ∧ b < 4096) : atE (rset L b c) z = if z = b then (c, 0) else atE L z := by
  unfold atE
  rw [rset_get hs hb]
  split
  · split <;> rfl
  · rename_i h
    rw [if_neg (fun e => h (by omega))]
theorem atE_clr {L : Ents} (hs : Srt L) {b z : Int} (hb : 0 ≤ b ∧ b < 4096) : atE (rclr L b) z = if z = b then (0, 12) else atE L z := by
  unfold atE
  rw [rclr_get hs]
  split
  · split <;> rfl
  · rename_i h
    rw [if_neg (fun e => h (by omega))]
end Go.Proofs.YtdaagmhkhfcmdaaDoor
