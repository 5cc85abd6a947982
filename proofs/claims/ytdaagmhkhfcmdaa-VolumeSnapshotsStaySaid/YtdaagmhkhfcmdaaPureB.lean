/- Trees of nodes and the sorted lists that they stand for. -/
import Derived.Test.YtdaagmhkhfcmdaaPureA
import Derived.Test.YtdaagmhkhfcmdaaTreeE
namespace Go.Proofs.Ytdaagmhkhfcmdaa
open Go Go.RowKit

/-- All nodes lie below block m. -/
def PT.Under (m : Nat) : PT → Prop
  | .nil => True
  | .node b _ k _ => b < m ∧ ∀ i, (k i).Under m
theorem Tr.under {T : Nat} {K : Fz} {W : World} (hi : K.In W) : ∀ {t : PT}, Tr T K t → t.Under W.heap.size := by
  intro t
  induction t with
  | nil => exact fun _ => trivial
  | node b h k c ih => exact fun ⟨h1, _, h3⟩ => ⟨hi.lt h1, fun i => ih i (h3 i)⟩

theorem same2 {b c : Nat} (hb : b < 4096) (hc : c < 4096) : same 2 b c ↔ b = c := by
  constructor
  · intro h
    have h0 := h 0 (by omega)
    have h1 := h 1 (by omega)
    have h2 := h 2 (by omega)
    simp only [sl, Nat.pow_zero, Nat.div_one, Nat.pow_one, show (16 : Nat) ^ 2 = 256 from rfl] at h0 h1 h2
    omega
  · rintro rfl; exact fun _ _ => rfl

theorem sl_low {l L : Nat} (i r : Nat) (h : l ≤ L) : sl l (i * 16 ^ (L + 1) + r) = sl l r := by
  obtain ⟨d, rfl⟩ := Nat.exists_eq_add_of_le h
  have e : i * 16 ^ (l + d + 1) + r = r + 16 ^ l * (16 * (i * 16 ^ d)) := by
    rw [Nat.pow_succ, Nat.pow_add]
    simp [Nat.mul_assoc, Nat.mul_comm, Nat.mul_left_comm, Nat.add_comm]
  unfold sl
  rw [e, Nat.add_mul_div_left _ _ (Nat.pow_pos (by omega)), Nat.add_mul_mod_self_left]
theorem sl_high {L i r : Nat} (hi : i < 16) (hr : r < 16 ^ (L + 1)) : sl (L + 1) (i * 16 ^ (L + 1) + r) = i := by
  unfold sl
  rw [Nat.add_comm, Nat.add_mul_div_right r i (Nat.pow_pos (by omega)), Nat.div_eq_of_lt hr, Nat.zero_add, Nat.mod_eq_of_lt hi]
theorem get_congr : ∀ (L : Nat) (t : PT) (b c : Nat), same L b c → t.get L b = t.get L c
  | 0, t, b, c, h => by rw [get_node0, get_node0, h 0 (Nat.le_refl _)]
  | L + 1, t, b, c, h => by
    rw [get_nodeS, get_nodeS, h (L + 1) (Nat.le_refl _)]
    exact get_congr L _ b c fun l hl => h l (by omega)
theorem get_kid {L i r : Nat} (t : PT) (hi : i < 16) (hr : r < 16 ^ (L + 1)) : t.get (L + 1) (i * 16 ^ (L + 1) + r) = (t.kid i).get L r := by
  rw [get_nodeS, sl_high hi hr]
  exact get_congr L _ _ _ fun l hl => sl_low i r hl
theorem get_low {i : Nat} (t : PT) (hi : i < 16) : t.get 0 i = (t.chunk i, t.has.testBit i) := by
  have : sl 0 i = i := by unfold sl; rw [Nat.pow_zero, Nat.div_one, Nat.mod_eq_of_lt hi]
  rw [get_node0, this]

theorem unbit_bit {h i : Nat} (hi : i < 16) (hh : h < 65536) (j : Nat) : (unbit h i).testBit j = (h.testBit j && decide (j ≠ i)) := by
  have e : 65535 - 2 ^ i = 2 ^ 16 - (2 ^ i + 1) := by omega
  have hl : (2 : Nat) ^ i < 2 ^ 16 := Nat.pow_lt_pow_right (by omega) hi
  unfold unbit
  rw [Nat.testBit_and, e, Nat.testBit_two_pow_sub_succ hl, Nat.testBit_two_pow]
  by_cases hj : j < 16
  · have : decide (i = j) = decide (j = i) := by simp [eq_comm]
    simp [hj, this]
  · have : h.testBit j = false := Nat.testBit_lt_two_pow (Nat.lt_of_lt_of_le hh (by
      have : (2 : Nat) ^ 16 ≤ 2 ^ j := Nat.pow_le_pow_right (by omega) (by omega)
      omega))
    simp [this]
theorem unbit_small {h i : Nat} (hh : h < 65536) : unbit h i < 65536 := Nat.lt_of_le_of_lt Nat.and_le_left hh
theorem bit_some {h : Nat} (h0 : h ≠ 0) (hh : h < 65536) : ∃ i, i < 16 ∧ h.testBit i = true := by
  obtain ⟨i, hi⟩ := Nat.exists_testBit_of_ne_zero h0
  refine ⟨i, ?_, hi⟩
  by_cases hl : i < 16
  · exact hl
  · have : h.testBit i = false := Nat.testBit_lt_two_pow (Nat.lt_of_lt_of_le hh (by
      have : (2 : Nat) ^ 16 ≤ 2 ^ i := Nat.pow_le_pow_right (by omega) (by omega)
      omega))
    rw [this] at hi; cases hi
theorem zero_bit {h : Nat} (h0 : h = 0) (i : Nat) : h.testBit i = false := by subst h0; exact Nat.zero_testBit i

theorem wf_nil (L : Nat) : PT.nil.Wf L := by cases L <;> trivial
theorem PT.Wf.kid {L : Nat} {t : PT} (h : t.Wf (L + 1)) (i : Nat) : (t.kid i).Wf L := by
  cases t with
  | nil => exact wf_nil L
  | node b h' k c => exact h.2.2.2.2 i
theorem PT.Wf.kid_nil {L : Nat} {t : PT} (h : t.Wf (L + 1)) {i : Nat} (hi : i < 16) : t.has.testBit i = false ↔ t.kid i = .nil := by
  cases t with
  | nil => simp [PT.has, PT.kid]
  | node b h' k c => exact h.2.2.2.1 i hi
theorem PT.Wf.chunk0 {L : Nat} {t : PT} (h : t.Wf (L + 1)) (i : Nat) : t.chunk i = 0 := by
  cases t with
  | nil => rfl
  | node b h' k c => exact h.2.2.1 i
theorem PT.Wf.kid0 {t : PT} (h : t.Wf 0) (i : Nat) : t.kid i = .nil := by
  cases t with
  | nil => rfl
  | node b h' k c => exact h.2.2.1 i
theorem PT.Wf.off {t : PT} (h : t.Wf 0) {i : Nat} (hi : i < 16) (hb : t.has.testBit i = false) : t.chunk i = 0 := by
  cases t with
  | nil => rfl
  | node b h' k c => exact h.2.2.2 i hi hb
theorem way_ne {L : Nat} {t : PT} {b : Nat} (h : t.Way L b) : t ≠ .nil := by cases L with | zero => exact h | succ L => exact h.1
theorem isNil_iff {t : PT} : t.isNil = true ↔ t = .nil := by cases t <;> simp [PT.isNil]
theorem isNil_not {t : PT} : t.isNil = false ↔ t ≠ .nil := by cases t <;> simp [PT.isNil]

/-- A tree that is there maps something. -/
theorem wf_some : ∀ (L : Nat) (t : PT), t.Wf L → t ≠ .nil → ∃ r, r < 16 ^ (L + 1) ∧ (t.get L r).2 = true
  | 0, t, hw, hn => by
    obtain ⟨h1, h2⟩ := hw.has0 hn
    obtain ⟨i, hi, hb⟩ := bit_some h1 h2
    exact ⟨i, hi, by rw [get_low t hi]; exact hb⟩
  | L + 1, t, hw, hn => by
    obtain ⟨h1, h2⟩ := hw.has0 hn
    obtain ⟨i, hi, hb⟩ := bit_some h1 h2
    have hk : t.kid i ≠ .nil := fun e => by rw [(hw.kid_nil hi).2 e] at hb; cases hb
    obtain ⟨r, hr, hg⟩ := wf_some L _ (hw.kid i) hk
    refine ⟨i * 16 ^ (L + 1) + r, ?_, by rw [get_kid t hi hr]; exact hg⟩
    rw [Nat.pow_succ 16 (L + 1)]
    generalize 16 ^ (L + 1) = M at *
    calc i * M + r < i * M + M := by omega
      _ = (i + 1) * M := by rw [Nat.succ_mul]
      _ ≤ 16 * M := Nat.mul_le_mul_right _ (by omega)
      _ = M * 16 := Nat.mul_comm _ _

open Classical in
theorem get_clr : ∀ (L n : Nat) (t t' : PT) (blk : Nat), t.Wf L → PT.Clr L n t blk t' → ∀ b, t'.get L b = if same L b blk then (0, false) else t.get L b
  | 0, n, t, t', blk, hw, ⟨g, _, e⟩, b => by
    have hsl := sl_lt 0 blk
    have hsb := sl_lt 0 b
    have hbit := unbit_bit hsl hw.hasLt (sl 0 b)
    have hs : same 0 b blk ↔ sl 0 b = sl 0 blk := ⟨fun h => h 0 (Nat.le_refl _), fun h l hl => by rw [Nat.le_zero.1 hl]; exact h⟩
    by_cases hz : unbit t.has (sl 0 blk) = 0
    · rw [if_pos hz] at e
      subst e
      rw [get_nil]
      split
      · rfl
      · rename_i h
        rw [hs] at h
        rw [zero_bit hz] at hbit
        have hb0 : t.has.testBit (sl 0 b) = false := by
          cases hq : t.has.testBit (sl 0 b) with
          | false => rfl
          | true => simp [hq, h] at hbit
        rw [get_node0, hb0, hw.off hsb hb0]
    · rw [if_neg hz] at e
      subst e
      rw [get_node0]
      have e1 : (PT.node g (unbit t.has (sl 0 blk)) t.kid (upd t.chunk (sl 0 blk) 0)).chunk (sl 0 b) = upd t.chunk (sl 0 blk) 0 (sl 0 b) := rfl
      have e2 : (PT.node g (unbit t.has (sl 0 blk)) t.kid (upd t.chunk (sl 0 blk) 0)).has = unbit t.has (sl 0 blk) := rfl
      rw [e1, e2, hbit]
      by_cases h : same 0 b blk
      · rw [if_pos h, hs.1 h, upd_self]; simp
      · rw [if_neg h, upd_other _ _ (fun x => h (hs.2 x)), get_node0]
        have h' : ¬ sl 0 b = sl 0 blk := fun x => h (hs.2 x)
        simp [h']
  | L + 1, n, t, t', blk, hw, ⟨g, k', _, hk, e⟩, b => by
    have hsl := sl_lt (L + 1) blk
    have hsb := sl_lt (L + 1) b
    have ih := get_clr L (g + 1) _ _ _ (hw.kid _) hk b
    have hbit := unbit_bit hsl hw.hasLt (sl (L + 1) b)
    have hs : sl (L + 1) b = sl (L + 1) blk → (same (L + 1) b blk ↔ same L b blk) := by
      intro h
      constructor
      · exact fun hs l hl => hs l (by omega)
      · intro hs l hl
        by_cases e : l = L + 1
        · subst e; exact h
        · exact hs l (by omega)
    by_cases hsame : sl (L + 1) b = sl (L + 1) blk
    · have key : t'.get (L + 1) b = k'.get L b := by
        rw [get_nodeS]
        congr 1
        by_cases hn : k'.isNil = false
        · rw [if_pos hn] at e; subst e; simp [PT.kid, hsame, upd_self]
        · have hn' : k' = .nil := by cases k' with | nil => rfl | node _ _ _ _ => simp [PT.isNil] at hn
          rw [if_neg hn] at e
          by_cases hz : unbit t.has (sl (L + 1) blk) = 0
          · rw [if_pos hz] at e; subst e; rw [hn']; rfl
          · rw [if_neg hz] at e; subst e; simp [PT.kid, hsame, upd_self, hn']
      rw [key, ih, get_nodeS, hsame]
      by_cases h : same L b blk
      · rw [if_pos h, if_pos ((hs hsame).2 h)]
      · rw [if_neg h, if_neg (fun x => h ((hs hsame).1 x))]
    · rw [if_neg (fun h => hsame (h _ (Nat.le_refl _))), get_nodeS, get_nodeS]
      congr 1
      by_cases hn : k'.isNil = false
      · rw [if_pos hn] at e; subst e; simp [PT.kid, upd_other _ _ hsame]
      · rw [if_neg hn] at e
        by_cases hz : unbit t.has (sl (L + 1) blk) = 0
        · rw [if_pos hz] at e; subst e
          rw [zero_bit hz] at hbit
          have hb0 : t.has.testBit (sl (L + 1) b) = false := by
            cases hq : t.has.testBit (sl (L + 1) b) with
            | false => rfl
            | true => simp [hq, hsame] at hbit
          rw [(hw.kid_nil hsb).1 hb0]; rfl
        · rw [if_neg hz] at e; subst e; simp [PT.kid, upd_other _ _ hsame]

theorem wf_clr : ∀ (L n : Nat) (t t' : PT) (blk : Nat), t.Wf L → t.Way L blk → PT.Clr L n t blk t' → t'.Wf L
  | 0, n, t, t', blk, hw, hy, ⟨g, _, e⟩ => by
    have hsl := sl_lt 0 blk
    split at e
    · subst e; trivial
    · rename_i hz
      subst e
      refine ⟨hz, unbit_small hw.hasLt, fun i => hw.kid0 i, fun i hi hb => ?_⟩
      rw [unbit_bit hsl hw.hasLt] at hb
      by_cases e : i = sl 0 blk
      · rw [e, upd_self]
      · rw [upd_other _ _ e]
        refine hw.off hi ?_
        simpa [e] using hb
  | L + 1, n, t, t', blk, hw, hy, ⟨g, k', _, hk, e⟩ => by
    have hsl := sl_lt (L + 1) blk
    have hkw := wf_clr L (g + 1) _ _ _ (hw.kid _) hy.2 hk
    have h0 := hw.has0 hy.1
    split at e
    · rename_i hn
      subst e
      refine ⟨h0.1, h0.2, fun i => hw.chunk0 i, fun i hi => ?_, fun i => ?_⟩
      · by_cases e : i = sl (L + 1) blk
        · subst e
          rw [upd_self]
          have h1 := isNil_not.1 hn
          have h2 := way_ne hy.2
          have h3 := hw.kid_nil hi
          constructor
          · intro h; exact (h2 (h3.1 h)).elim
          · intro h; exact (h1 h).elim
        · rw [upd_other _ _ e]; exact hw.kid_nil hi
      · by_cases e : i = sl (L + 1) blk
        · subst e; rw [upd_self]; exact hkw
        · rw [upd_other _ _ e]; exact hw.kid i
    · split at e
      · subst e; trivial
      · rename_i hz
        subst e
        refine ⟨hz, unbit_small hw.hasLt, fun i => hw.chunk0 i, fun i hi => ?_, fun i => ?_⟩
        · rw [unbit_bit hsl hw.hasLt]
          by_cases e : i = sl (L + 1) blk
          · subst e; rw [upd_self]; simp
          · rw [upd_other _ _ e]
            have := hw.kid_nil hi
            simpa [e] using this
        · by_cases e : i = sl (L + 1) blk
          · subst e; rw [upd_self]; exact wf_nil L
          · rw [upd_other _ _ e]; exact hw.kid i

/-- The blocks of the nodes, one by one. -/
def PT.blocks : PT → List Nat
  | .nil => []
  | .node b _ k _ => b :: (List.range 16).flatMap fun i => (k i).blocks
def PT.kb (t : PT) : List Nat := (List.range 16).flatMap fun i => (t.kid i).blocks
theorem kb_nil : PT.nil.kb = [] := by simp [PT.kb, PT.kid, PT.blocks]
theorem kb_sub {t : PT} {x : Nat} (h : x ∈ t.kb) : x ∈ t.blocks := by
  cases t with
  | nil => simp [kb_nil] at h
  | node b h' k c => exact List.mem_cons_of_mem _ h
theorem mem_kb {t : PT} {x : Nat} : x ∈ t.kb ↔ ∃ i, i < 16 ∧ x ∈ (t.kid i).blocks := by
  simp [PT.kb]
theorem kid_sub {t : PT} {i x : Nat} (hi : i < 16) (h : x ∈ (t.kid i).blocks) : x ∈ t.blocks := kb_sub (mem_kb.2 ⟨i, hi, h⟩)
theorem PT.Under.kid {m : Nat} {t : PT} (h : t.Under m) (i : Nat) : (t.kid i).Under m := by
  cases t with
  | nil => trivial
  | node b h' k c => exact h.2 i
theorem under_mem {m : Nat} : ∀ {t : PT}, t.Under m → ∀ {x : Nat}, x ∈ t.blocks → x < m := by
  intro t
  induction t with
  | nil => intro _ x hx; simp [PT.blocks] at hx
  | node b h k c ih =>
    intro hu x hx
    rcases List.mem_cons.1 hx with rfl | hx
    · exact hu.1
    · obtain ⟨i, _, hx⟩ := List.mem_flatMap.1 hx
      exact ih i (hu.2 i) hx
theorem nodup_flat (f : Nat → List Nat) : ∀ n, ((List.range n).flatMap f).Nodup ↔ (∀ i, i < n → (f i).Nodup) ∧ ∀ i j, i < n → j < n → i ≠ j → ∀ x ∈ f i, x ∉ f j
  | 0 => by simp
  | n + 1 => by
    rw [List.range_succ, List.flatMap_append, List.nodup_append, nodup_flat f n]
    simp only [List.flatMap_cons, List.flatMap_nil, List.append_nil, List.mem_flatMap, List.mem_range]
    constructor
    · rintro ⟨⟨h1, h2⟩, h3, h4⟩
      refine ⟨fun i hi => ?_, fun i j hi hj hne x hx hx2 => ?_⟩
      · by_cases e : i = n
        · subst e; exact h3
        · exact h1 i (by omega)
      · by_cases e : i = n
        · subst e; exact h4 x ⟨j, by omega, hx2⟩ x hx rfl
        · by_cases e2 : j = n
          · subst e2; exact h4 x ⟨i, by omega, hx⟩ x hx2 rfl
          · exact h2 i j (by omega) (by omega) hne x hx hx2
    · rintro ⟨h1, h2⟩
      refine ⟨⟨fun i hi => h1 i (by omega), fun i j hi hj => h2 i j (by omega) (by omega)⟩, h1 n (by omega), ?_⟩
      rintro x ⟨i, hi, hx⟩ y hy rfl
      exact h2 i n (by omega) (by omega) (by omega) x hx hy
theorem kb_nodup {t : PT} (h : t.blocks.Nodup) : t.kb.Nodup := by
  cases t with
  | nil => simp [kb_nil]
  | node b h' k c => exact (List.nodup_cons.1 h).2
theorem kid_nodup {t : PT} {i : Nat} (hi : i < 16) (h : t.blocks.Nodup) : (t.kid i).blocks.Nodup := ((nodup_flat _ _).1 (kb_nodup h)).1 i hi

/-- A child exchanged. -/
theorem upd_nodup {t k' : PT} {s m g : Nat} (hs : s < 16) (hu : t.Under m) (hm : m ≤ g) (hb : t.blocks.Nodup) (hk : k'.blocks.Nodup) (hx : ∀ x ∈ k'.blocks, x ∈ (t.kid s).blocks ∨ g + 1 ≤ x) (h' : Nat) (c : Nat → Int) :
    (PT.node g h' (upd t.kid s k') c).blocks.Nodup ∧ ∀ x ∈ (PT.node g h' (upd t.kid s k') c).blocks, x ∈ t.blocks ∨ g ≤ x := by
  have hmem : ∀ x ∈ (List.range 16).flatMap (fun i => (upd t.kid s k' i).blocks), x ∈ t.blocks ∨ g + 1 ≤ x := by
    intro x hx'
    obtain ⟨i, hi, hx'⟩ := List.mem_flatMap.1 hx'
    rw [List.mem_range] at hi
    by_cases e : i = s
    · subst e
      rw [upd_self] at hx'
      rcases hx x hx' with h | h
      · exact .inl (kid_sub hi h)
      · exact .inr h
    · rw [upd_other _ _ e] at hx'
      exact .inl (kid_sub hi hx')
  refine ⟨List.nodup_cons.2 ⟨fun hg => ?_, (nodup_flat _ _).2 ⟨fun i hi => ?_, fun i j hi hj hne x hxi hxj => ?_⟩⟩, fun x hx' => ?_⟩
  · rcases hmem g hg with h | h
    · have := under_mem hu h; omega
    · omega
  · by_cases e : i = s
    · subst e; rw [upd_self]; exact hk
    · rw [upd_other _ _ e]; exact kid_nodup hi hb
  · have hold := ((nodup_flat _ _).1 (kb_nodup hb)).2
    by_cases e : i = s
    · subst e
      rw [upd_self] at hxi
      rw [upd_other _ _ (Ne.symm hne)] at hxj
      rcases hx x hxi with h | h
      · exact hold i j hi hj hne x h hxj
      · have := under_mem hu (kid_sub hj hxj); omega
    · rw [upd_other _ _ e] at hxi
      by_cases e2 : j = s
      · subst e2
        rw [upd_self] at hxj
        rcases hx x hxj with h | h
        · exact hold i j hi hj hne x hxi h
        · have := under_mem hu (kid_sub hi hxi); omega
      · rw [upd_other _ _ e2] at hxj
        exact hold i j hi hj hne x hxi hxj
  · rcases List.mem_cons.1 hx' with rfl | hx'
    · exact .inr (Nat.le_refl _)
    · rcases hmem x hx' with h | h
      · exact .inl h
      · exact .inr (by omega)
/-- The same children in a new node. -/
theorem copy_nodup {t : PT} {m g : Nat} (hu : t.Under m) (hm : m ≤ g) (hb : t.blocks.Nodup) (h' : Nat) (c : Nat → Int) :
    (PT.node g h' t.kid c).blocks.Nodup ∧ ∀ x ∈ (PT.node g h' t.kid c).blocks, x ∈ t.blocks ∨ g ≤ x := by
  refine ⟨List.nodup_cons.2 ⟨fun hg => ?_, kb_nodup hb⟩, fun x hx => ?_⟩
  · have := under_mem hu (kb_sub (t := t) hg); omega
  · rcases List.mem_cons.1 hx with rfl | hx
    · exact .inr (Nat.le_refl _)
    · exact .inl (kb_sub hx)

theorem set_blocks : ∀ (L n m : Nat) (t t' : PT) (blk : Nat) (ch : Int), t.Under m → m ≤ n → t.blocks.Nodup → PT.Set L n t blk ch t' → t'.blocks.Nodup ∧ ∀ x ∈ t'.blocks, x ∈ t.blocks ∨ n ≤ x
  | 0, n, m, t, t', blk, ch, hu, hm, hb, ⟨g, hg, e⟩ => by
    subst e
    obtain ⟨h1, h2⟩ := copy_nodup hu (Nat.le_trans hm hg) hb (t.has ||| 2 ^ sl 0 blk) (upd t.chunk (sl 0 blk) ch)
    exact ⟨h1, fun x hx => (h2 x hx).imp id fun h => Nat.le_trans hg h⟩
  | L + 1, n, m, t, t', blk, ch, hu, hm, hb, ⟨g, k', hg, hk, e⟩ => by
    subst e
    obtain ⟨h1, h2⟩ := set_blocks L (g + 1) m _ _ _ _ (hu.kid _) (by omega) (kid_nodup (sl_lt _ _) hb) hk
    obtain ⟨h3, h4⟩ := upd_nodup (sl_lt (L + 1) blk) hu (Nat.le_trans hm hg) hb h1 h2 (t.has ||| 2 ^ sl (L + 1) blk) t.chunk
    exact ⟨h3, fun x hx => (h4 x hx).imp id fun h => Nat.le_trans hg h⟩
theorem clr_blocks : ∀ (L n m : Nat) (t t' : PT) (blk : Nat), t.Under m → m ≤ n → t.blocks.Nodup → PT.Clr L n t blk t' → t'.blocks.Nodup ∧ ∀ x ∈ t'.blocks, x ∈ t.blocks ∨ n ≤ x
  | 0, n, m, t, t', blk, hu, hm, hb, ⟨g, hg, e⟩ => by
    split at e
    · subst e; simp [PT.blocks]
    · subst e
      obtain ⟨h1, h2⟩ := copy_nodup hu (Nat.le_trans hm hg) hb (unbit t.has (sl 0 blk)) (upd t.chunk (sl 0 blk) 0)
      exact ⟨h1, fun x hx => (h2 x hx).imp id fun h => Nat.le_trans hg h⟩
  | L + 1, n, m, t, t', blk, hu, hm, hb, ⟨g, k', hg, hk, e⟩ => by
    split at e
    · subst e
      obtain ⟨h1, h2⟩ := clr_blocks L (g + 1) m _ _ _ (hu.kid _) (by omega) (kid_nodup (sl_lt _ _) hb) hk
      obtain ⟨h3, h4⟩ := upd_nodup (sl_lt (L + 1) blk) hu (Nat.le_trans hm hg) hb h1 h2 t.has t.chunk
      exact ⟨h3, fun x hx => (h4 x hx).imp id fun h => Nat.le_trans hg h⟩
    · split at e
      · subst e; simp [PT.blocks]
      · subst e
        obtain ⟨h3, h4⟩ := upd_nodup (k' := .nil) (sl_lt (L + 1) blk) hu (Nat.le_trans hm hg) hb (by simp [PT.blocks]) (by simp [PT.blocks]) (unbit t.has (sl (L + 1) blk)) t.chunk
        exact ⟨h3, fun x hx => (h4 x hx).imp id fun h => Nat.le_trans hg h⟩

/-- The tree (t, n) stands for the list L. -/
structure Rep (t : PT) (n : Int) (L : Ents) : Prop where
  wf : t.Wf 2
  srt : Srt L
  inb : InB L
  look : ∀ b, t.look b = rget L b
  len : n = L.length
  nodup : t.blocks.Nodup

theorem Rep.nil : Rep .nil 0 [] := ⟨trivial, List.Pairwise.nil, fun _ h => by simp at h, fun b => by unfold PT.look; split <;> simp [get_nil, rget_nil], rfl, by simp [PT.blocks]⟩

theorem Rep.set {m : Nat} {t t' : PT} {n n' b c : Int} {L : Ents} (h : Rep t n L) (hu : t.Under m) (hs : SetT m t n b c t' n') : Rep t' n' (rset L b c) := by
  unfold SetT at hs
  by_cases hv : 0 ≤ b ∧ b < 4096
  · have hv2 : 0 ≤ b ∧ b ≤ 4095 := by omega
    rw [rset_eq L b c hv2]
    have hsrt : Srt (insE L b c) := insE_srt h.srt
    have hinb : InB (insE L b c) := by
      intro x hx
      rcases insE_mem hx with rfl | hx
      · exact hv
      · exact h.inb x hx
    by_cases hk : t.look b = (c, true)
    · rw [if_pos (.inr hk)] at hs
      obtain ⟨rfl, rfl⟩ := hs
      have e : insE L b c = L := ents_ext hsrt h.srt fun z => by
        rw [insE_get h.srt]
        split
        · rename_i e; rw [e, ← h.look, hk]
        · rfl
      rw [e]; exact h
    · rw [if_neg (by rintro (h1 | h1); exact h1 hv; exact hk h1)] at hs
      obtain ⟨_, h2, h3⟩ := hs
      obtain ⟨hw, _⟩ := wf_set 2 _ _ _ _ _ h.wf h2
      refine ⟨hw, hsrt, hinb, fun z => ?_, ?_, (set_blocks 2 m m _ _ _ _ hu (Nat.le_refl _) h.nodup h2).1⟩
      · rw [insE_get h.srt]
        by_cases hz : 0 ≤ z ∧ z < 4096
        · have := get_set 2 _ _ _ _ _ h2 z.toNat
          have hsm := same2 (b := z.toNat) (c := b.toNat) (by omega) (by omega)
          have hl : t'.look z = t'.get 2 z.toNat := by unfold PT.look; rw [if_pos hz]
          rw [hl, this]
          by_cases e : z = b
          · rw [if_pos (hsm.2 (by rw [e])), if_pos e]
          · rw [if_neg (fun x => e (by have := hsm.1 x; omega)), if_neg e, ← h.look]
            unfold PT.look; rw [if_pos hz]
        · rw [if_neg (by rintro rfl; exact hz hv), rget_out h.srt h.inb hz]
          unfold PT.look; rw [if_neg hz]
      · rw [h3, insE_len, h.look, ← hit_rget, h.len]
        split <;> simp
  · rw [if_pos (.inl hv)] at hs
    obtain ⟨rfl, rfl⟩ := hs
    have : rset L b c = L := by unfold rset; rw [if_neg (by omega)]
    rw [this]; exact h

theorem Rep.clr {m : Nat} {t t' : PT} {n n' b : Int} {L : Ents} (h : Rep t n L) (hu : t.Under m) (hs : ClrT m t n b t' n') : Rep t' n' (rclr L b) := by
  unfold ClrT at hs
  rw [rclr_eq]
  have hh : hit L b = (t.look b).2 := by rw [hit_rget, h.look]
  by_cases hk : (t.look b).2 = true
  · rw [if_pos hk] at hs
    obtain ⟨h2, h3⟩ := hs
    have hv : 0 ≤ b ∧ b < 4096 := by
      apply Classical.byContradiction
      intro hv
      unfold PT.look at hk
      rw [if_neg hv] at hk; cases hk
    have hl : t.look b = t.get 2 b.toNat := by unfold PT.look; rw [if_pos hv]
    have hway := way_of_get 2 t b.toNat (by rw [← hl]; exact hk)
    refine ⟨wf_clr 2 _ _ _ _ h.wf hway h2, delE_srt h.srt, fun x hx => h.inb x (delE_mem hx), fun z => ?_, ?_, (clr_blocks 2 m m _ _ _ hu (Nat.le_refl _) h.nodup h2).1⟩
    · rw [delE_get h.srt]
      by_cases hz : 0 ≤ z ∧ z < 4096
      · have := get_clr 2 _ _ _ _ h.wf h2 z.toNat
        have hsm := same2 (b := z.toNat) (c := b.toNat) (by omega) (by omega)
        have hl : t'.look z = t'.get 2 z.toNat := by unfold PT.look; rw [if_pos hz]
        rw [hl, this]
        by_cases e : z = b
        · rw [if_pos (hsm.2 (by rw [e])), if_pos e]
        · rw [if_neg (fun x => e (by have := hsm.1 x; omega)), if_neg e, ← h.look]
          unfold PT.look; rw [if_pos hz]
      · rw [if_neg (by rintro rfl; exact hz hv), rget_out h.srt h.inb hz]
        unfold PT.look; rw [if_neg hz]
    · have := delE_len L b (by rw [hh]; exact hk)
      rw [h3, h.len]; omega
  · rw [if_neg hk] at hs
    obtain ⟨rfl, rfl⟩ := hs
    rw [delE_same L b (by rw [hh]; simpa using hk)]; exact h

theorem srt_len : ∀ (L : Ents) (lo : Int), Srt L → (∀ x ∈ L, lo ≤ x.1 ∧ x.1 < 4096) → lo ≤ 4096 → (L.length : Int) ≤ 4096 - lo
  | [], lo, _, _, hlo => by simp; omega
  | x :: xs, lo, hs, hb, hlo => by
    have hs' := List.pairwise_cons.1 hs
    have hx := hb x (by simp)
    have := srt_len xs (x.1 + 1) hs'.2 (fun y hy => by have := hs'.1 y hy; have := hb y (by simp [hy]); omega) (by omega)
    simp only [List.length_cons, Int.natCast_add, Int.natCast_one]
    omega
theorem Rep.len_le {t : PT} {n : Int} {L : Ents} (h : Rep t n L) : L.length ≤ 4096 := by
  have := srt_len L 0 h.srt h.inb (by omega)
  omega
theorem Rep.n_le {t : PT} {n : Int} {L : Ents} (h : Rep t n L) : 0 ≤ n ∧ n ≤ 4096 := by
  have := h.len_le
  have := h.len
  omega

theorem rset_get {M : Ents} (hM : Srt M) {e c : Int} (he : 0 ≤ e ∧ e < 4096) (z : Int) : rget (rset M e c) z = if z = e then (c, true) else rget M z := by
  rw [rset_eq M e c (by omega), insE_get hM]
theorem rclr_get {M : Ents} (hM : Srt M) {e : Int} (z : Int) : rget (rclr M e) z = if z = e then (0, false) else rget M z := by
  rw [rclr_eq, delE_get hM]

end Go.Proofs.Ytdaagmhkhfcmdaa
