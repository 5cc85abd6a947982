/- What Nodes counts, and what a walk yields: no program in sight. -/
import Derived.Test.YtpfdlpniijgakaaDoorPlainC
namespace Go.Proofs.YtpfdlpniijgakaaDoor
open Go

theorem countP_one (p : Nat → Bool) (a : Nat) (h : p a = false) : ∀ n, (List.range n).countP (fun q => p q || (a == q)) = (List.range n).countP p + if a < n then 1 else 0
  | 0 => by simp
  | n + 1 => by
    rw [List.range_succ, List.countP_append, List.countP_append, countP_one p a h n]
    simp only [List.countP_singleton]
    by_cases e : a = n
    · subst e
      rw [h]
      simp
    · have e2 : (a == n) = false := by simpa using e
      rw [e2, Bool.or_false]
      by_cases e3 : a < n
      · have e4 : a < n + 1 := by omega
        simp only [e3, e4, if_true]; omega
      · have e4 : ¬ a < n + 1 := by omega
        simp only [e3, e4, if_false]; omega

/-- How many different values g has on the blocks. -/
def dist (g : Int → Int) (N : Nat) (L : Ents) : Nat := (List.range N).countP fun (q : Nat) => L.any fun x => g x.1 == (q : Int)

theorem dist_add {g : Int → Int} {N : Nat} {M : Ents} {x : Int × Int} (hx : 0 ≤ g x.1 ∧ g x.1 < N) :
    ((∃ y ∈ M, g y.1 = g x.1) → dist g N (M ++ [x]) = dist g N M) ∧ ((¬ ∃ y ∈ M, g y.1 = g x.1) → dist g N (M ++ [x]) = dist g N M + 1) := by
  have e : dist g N (M ++ [x]) = (List.range N).countP fun (q : Nat) => (M.any fun x => g x.1 == (q : Int)) || ((g x.1).toNat == q) := by
    unfold dist
    refine List.countP_congr fun q _ => ?_
    rw [List.any_append]
    have : (g x.1 == (q : Int)) = ((g x.1).toNat == q) := by
      rw [Bool.eq_iff_iff, beq_iff_eq, beq_iff_eq]; omega
    simp [this]
  constructor
  · rintro ⟨y, hy, hg⟩
    rw [e]
    unfold dist
    refine List.countP_congr fun q _ => ?_
    by_cases h2 : (g x.1).toNat = q
    · have : (M.any fun x => g x.1 == (q : Int)) = true := List.any_eq_true.2 ⟨y, hy, by rw [beq_iff_eq]; omega⟩
      rw [this]; simp
    · have : ((g x.1).toNat == q) = false := by simpa using h2
      rw [this]; simp
  · intro hn
    rw [e, countP_one, if_pos (by omega)]
    · rfl
    · cases h : M.any fun z => g z.1 == (((g x.1).toNat : Nat) : Int) with
      | false => rfl
      | true =>
        obtain ⟨y, hy, h2⟩ := List.any_eq_true.1 h
        rw [beq_iff_eq] at h2
        exact (hn ⟨y, hy, by omega⟩).elim

theorem srt_lt {L : Ents} (h : Srt L) {i j : Nat} {x y : Int × Int} (hij : i < j) (hx : L[i]? = some x) (hy : L[j]? = some y) : x.1 < y.1 := by
  obtain ⟨hi, rfl⟩ := List.getElem?_eq_some_iff.1 hx
  obtain ⟨hj, rfl⟩ := List.getElem?_eq_some_iff.1 hy
  exact List.pairwise_iff_getElem.1 h i j hi hj hij

/-- The values of the first entries: the last one's, or none. -/
theorem last_only {L : Ents} (hs : Srt L) {i : Nat} {x y : Int × Int} (hx : L[i + 1]? = some x) (hy : L[i]? = some y) (d : Int) (hd : 0 < d) : (∃ z ∈ L.take (i + 1), z.1 / d = x.1 / d) ↔ y.1 / d = x.1 / d := by
  constructor
  · rintro ⟨z, hz, e⟩
    obtain ⟨k, hk, rfl⟩ := List.mem_iff_getElem.1 hz
    rw [List.length_take] at hk
    have hzk : L[k]? = some ((L.take (i + 1))[k]) := by rw [List.getElem_take]; exact List.getElem?_eq_getElem (by omega)
    have h1 := srt_lt hs (by omega) hy hx
    have h2 : ((L.take (i + 1))[k]).1 ≤ y.1 := by
      by_cases e : k = i
      · subst e; rw [hzk] at hy; cases hy; exact Int.le_refl _
      · exact Int.le_of_lt (srt_lt hs (by omega) hzk hy)
    have h3 : ((L.take (i + 1))[k]).1 / d ≤ y.1 / d := Int.ediv_le_ediv hd h2
    have h4 : y.1 / d ≤ x.1 / d := Int.ediv_le_ediv hd (by omega)
    omega
  · intro e
    refine ⟨y, List.mem_of_getElem? (i := i) ?_, e⟩
    rw [List.getElem?_take, if_pos (by omega)]; exact hy

theorem cntTo_dist {L : Ents} (hs : Srt L) (hb : InB L) : ∀ i, i ≤ L.length → cntTo L i = (if i = 0 then 0 else 1) + dist (fun b => b / 256) 16 (L.take i) + dist (fun b => b / 16) 256 (L.take i)
  | 0, _ => by simp [cntTo, dist]
  | i + 1, hi => by
    obtain ⟨x, hx⟩ : ∃ x, L[i]? = some x := ⟨_, List.getElem?_eq_getElem (by omega)⟩
    have hxb := hb x (List.mem_of_getElem? hx)
    have h1 := dist_add (g := fun b => b / 256) (N := 16) (M := L.take i) (x := x) (by omega)
    have h2 := dist_add (g := fun b => b / 16) (N := 256) (M := L.take i) (x := x) (by omega)
    have et : L.take (i + 1) = L.take i ++ [x] := by rw [List.take_add_one, hx]; rfl
    rw [cntTo, cntTo_dist hs hb i (by omega), et]
    cases i with
    | zero =>
      rw [h1.2 (by simp), h2.2 (by simp)]
      simp [cnt1]; omega
    | succ i =>
      obtain ⟨y, hy⟩ : ∃ y, L[i]? = some y := ⟨_, List.getElem?_eq_getElem (by omega)⟩
      have g1 := last_only hs hx hy 256 (by omega)
      have g2 := last_only hs hx hy 16 (by omega)
      have ec : cnt1 L (i + 1) = (if x.1 / 256 != y.1 / 256 then 1 else 0) + (if x.1 / 16 != y.1 / 16 then 1 else 0) := by
        unfold cnt1
        rw [if_neg (by omega), Nat.add_sub_cancel, hx, hy]
      rw [ec]
      have e1 : dist (fun b => b / 256) 16 (L.take (i + 1) ++ [x]) = dist (fun b => b / 256) 16 (L.take (i + 1)) + (if x.1 / 256 != y.1 / 256 then 1 else 0) := by
        by_cases e : y.1 / 256 = x.1 / 256
        · rw [h1.1 (g1.2 e)]; simp [e]
        · rw [h1.2 (fun h => e (g1.1 h)), if_pos (by simpa using Ne.symm e)]
      have e2 : dist (fun b => b / 16) 256 (L.take (i + 1) ++ [x]) = dist (fun b => b / 16) 256 (L.take (i + 1)) + (if x.1 / 16 != y.1 / 16 then 1 else 0) := by
        by_cases e : y.1 / 16 = x.1 / 16
        · rw [h2.1 (g2.2 e)]; simp [e]
        · rw [h2.2 (fun h => e (g2.1 h)), if_pos (by simpa using Ne.symm e)]
      rw [e1, e2]
      simp
      omega

theorem sum_cnt (p : Nat → Bool) (c : Nat → Nat) : ∀ n, ((List.range n).map fun i => (if p i then 1 else 0) + c i).sum = (List.range n).countP p + ((List.range n).map c).sum
  | 0 => rfl
  | n + 1 => by
    rw [List.range_succ, List.map_append, List.sum_append, List.countP_append, List.map_append, List.sum_append, sum_cnt p c n]
    simp only [List.map_cons, List.map_nil, List.sum_cons, List.sum_nil, List.countP_singleton]
    omega
theorem countP_256 (P : Nat → Bool) : ∀ n, (List.range (n * 16)).countP P = ((List.range n).map fun i => (List.range 16).countP fun j => P (i * 16 + j)).sum
  | 0 => rfl
  | n + 1 => by
    rw [Nat.succ_mul, List.range_add, List.countP_append, countP_256 P n, @List.range_succ n, List.map_append, List.sum_append, List.countP_map]
    simp [Function.comp_def]

theorem len0 {t : PT} (h : t.Wf 0) : t.blocks.length = if t.isNil then 0 else 1 := by
  cases t with
  | nil => rfl
  | node b h' k c =>
    have : ((List.range 16).flatMap fun i => (k i).blocks) = [] := by
      rw [List.flatMap_eq_nil_iff]; intro i _; rw [h.2.2.1 i]; rfl
    rw [PT.blocks, this]; rfl
theorem len1 {t : PT} (h : t.Wf 1) : t.blocks.length = (if t.isNil then 0 else 1) + (List.range 16).countP fun j => !(t.kid j).isNil := by
  cases t with
  | nil => simp [PT.blocks, PT.isNil, PT.kid]
  | node b h' k c =>
    rw [PT.blocks, List.length_cons, List.length_flatMap]
    have e : ((List.range 16).map fun i => (k i).blocks.length) = (List.range 16).map fun i => (if (!(k i).isNil) = true then 1 else 0) + 0 := by
      refine List.map_congr_left fun i _ => ?_
      rw [len0 (h.2.2.2.2 i)]
      cases (k i).isNil <;> rfl
    have e0 : ((List.range 16).map fun _ => 0).sum = 0 := rfl
    rw [e, sum_cnt, e0]
    simp only [PT.isNil, PT.kid, Bool.false_eq_true, if_false]
    omega
theorem len2 {t : PT} (h : t.Wf 2) : t.blocks.length = (if t.isNil then 0 else 1) + ((List.range 16).countP fun i => !(t.kid i).isNil) + (List.range 256).countP fun q => !((t.kid (q / 16)).kid (q % 16)).isNil := by
  cases t with
  | nil => simp [PT.blocks, PT.isNil, PT.kid]
  | node b h' k c =>
    rw [PT.blocks, List.length_cons, List.length_flatMap]
    have e : ((List.range 16).map fun i => (k i).blocks.length) = (List.range 16).map fun i => (if (!(k i).isNil) = true then 1 else 0) + (List.range 16).countP fun j => !((k i).kid j).isNil := by
      refine List.map_congr_left fun i _ => ?_
      rw [len1 (h.2.2.2.2 i)]
      cases (k i).isNil <;> rfl
    have e2 := countP_256 (fun q => !((k (q / 16)).kid (q % 16)).isNil) 16
    have e3 : ((List.range 16).map fun i => (List.range 16).countP fun j => !((k ((i * 16 + j) / 16)).kid ((i * 16 + j) % 16)).isNil) = (List.range 16).map fun i => (List.range 16).countP fun j => !((k i).kid j).isNil := by
      refine List.map_congr_left fun i _ => List.countP_congr fun j hj => ?_
      rw [List.mem_range] at hj
      rw [show (i * 16 + j) / 16 = i by omega, show (i * 16 + j) % 16 = j by omega]
    rw [e3] at e2
    rw [e, sum_cnt, ← e2]
    simp [PT.isNil, PT.kid]
    omega

/-- How many nodes a tree has. -/
theorem Rep.count {t : PT} {n : Int} {L : Ents} (h : Rep t n L) : t.blocks.length = cntTo L L.length := by
  rw [len2 h.wf, cntTo_dist h.srt h.inb L.length (Nat.le_refl _), List.take_length]
  have e0 : (if t.isNil then 0 else 1) = if L.length = 0 then 0 else 1 := by
    by_cases e : t = .nil
    · have e1 := h.root.1 e
      rw [e, e1]; rfl
    · have e1 : ¬ L = [] := fun x => e (h.root.2 x)
      rw [if_neg (by simpa [isNil_iff] using e), if_neg (by simpa using e1)]
  rw [e0]
  congr 1
  · congr 1
    unfold dist
    refine List.countP_congr fun q hq => ?_
    rw [List.mem_range] at hq
    have := h.mid hq
    rw [List.any_eq_true]
    simp only [beq_iff_eq, Bool.not_eq_true', isNil_not]
    exact this
  · unfold dist
    refine List.countP_congr fun q hq => ?_
    rw [List.mem_range] at hq
    have := h.low (i := q / 16) (j := q % 16) (by omega) (by omega)
    rw [List.any_eq_true]
    simp only [beq_iff_eq, Bool.not_eq_true', isNil_not]
    rw [show q / 16 * 16 + q % 16 = q by omega] at this
    exact this
theorem Rep.gath {t : PT} {n : Int} {L : Ents} (h : Rep t n L) : Go.Proofs.YtpfdlpniijgakaaDoor.gath t [] = t.blocks := by
  rw [gath_fresh h.nodup (by simp)]; simp
theorem Rep.nodes1 {t : PT} {n : Int} {L : Ents} (h : Rep t n L) : (gathAll [(t, n)] []).length = cntTo L L.length := by
  rw [← h.count, ← h.gath]; rfl
theorem Rep.nodes2 {t : PT} {n : Int} {L : Ents} (h : Rep t n L) : (gathAll [(t, n), (t, n)] []).length = (gathAll [(t, n)] []).length := by
  show (Go.Proofs.YtpfdlpniijgakaaDoor.gath t (Go.Proofs.YtpfdlpniijgakaaDoor.gath t [])).length = (Go.Proofs.YtpfdlpniijgakaaDoor.gath t []).length
  rw [gath_seen]
  intro x hx
  rw [h.gath]; exact hx

/-- How many nodes a change adds. -/
def moreN (L : Ents) (o : Chg) : Nat := if (rdiff L (rdo L o)).isEmpty then 0 else rpath (rdo L o) o.block
theorem moreN_le {t : PT} {n : Int} {m : Nat} {o : Chg} {y : PT × Int} {L : Ents} (h : Rep t n L) (hu : t.Under m) (hs : StepT m o (t, n) y) : moreN L o ≤ 3 := by
  unfold moreN rpath
  split
  · omega
  · split
    · omega
    · split <;> split <;> omega
theorem Rep.share {t : PT} {n : Int} {m : Nat} {o : Chg} {y : PT × Int} {L : Ents} (h : Rep t n L) (hu : t.Under m) (hs : StepT m o (t, n) y) :
    (gathAll [(t, n), y] []).length = (gathAll [(t, n)] []).length + moreN L o := by
  have hy := h.step (x := (t, n)) hu hs
  have hsame : y.1 = t → (gathAll [(t, n), y] []).length = (gathAll [(t, n)] []).length := by
    intro e
    show (Go.Proofs.YtpfdlpniijgakaaDoor.gath y.1 (Go.Proofs.YtpfdlpniijgakaaDoor.gath t [])).length = (Go.Proofs.YtpfdlpniijgakaaDoor.gath t []).length
    rw [e, gath_seen]
    intro x hx
    rw [h.gath]; exact hx
  have hchg : (0 ≤ o.block ∧ o.block < 4096) → (∀ S : List Nat, (∀ x ∈ t.blocks, x ∈ S) → (∀ x ∈ S, x < m) → (Go.Proofs.YtpfdlpniijgakaaDoor.gath y.1 S).length = S.length + pathN 2 y.1 o.block.toNat) → L ≠ rdo L o →
      (gathAll [(t, n), y] []).length = (gathAll [(t, n)] []).length + moreN L o := by
    intro hb hS hne
    show (Go.Proofs.YtpfdlpniijgakaaDoor.gath y.1 (Go.Proofs.YtpfdlpniijgakaaDoor.gath t [])).length = (Go.Proofs.YtpfdlpniijgakaaDoor.gath t []).length + moreN L o
    rw [h.gath, hS t.blocks (fun x hx => hx) (fun x hx => under_mem hu hx), hy.path hb]
    unfold moreN
    rw [if_neg]
    intro he
    exact hne ((rdiff_nil h.srt hy.srt).1 (by simpa using he))
  have hzero : L = rdo L o → moreN L o = 0 := by
    intro e
    unfold moreN
    rw [if_pos]
    rw [← e, (rdiff_nil h.srt h.srt).2 rfl]; rfl
  unfold StepT at hs
  by_cases hc : o.clear = true
  · rw [if_pos hc] at hs
    unfold ClrT at hs
    simp only at hs
    by_cases hl : (t.look o.block).2 = true
    · rw [if_pos hl] at hs
      have hv : 0 ≤ o.block ∧ o.block < 4096 := by
        apply Classical.byContradiction
        intro hv
        unfold PT.look at hl
        rw [if_neg hv] at hl; cases hl
      refine hchg hv (fun S h1 h2 => share_clr 2 m t y.1 _ hs.1 S h1 h2) fun e => ?_
      have h1 := hy.look o.block
      rw [← e, ← h.look] at h1
      have hyk := get_clr 2 _ _ _ _ h.wf hs.1 o.block.toNat
      rw [if_pos (show Go.Proofs.YtpfdlpniijgakaaDoor.same 2 o.block.toNat o.block.toNat from fun _ _ => rfl)] at hyk
      rw [← h1] at hl
      unfold PT.look at hl
      rw [if_pos hv, hyk] at hl
      cases hl
    · rw [if_neg hl] at hs
      rw [hsame hs.1, hzero]
      · rfl
      · refine ents_ext h.srt hy.srt fun b => ?_
        rw [← h.look, ← hy.look, hs.1]
  · rw [if_neg hc] at hs
    unfold SetT at hs
    simp only at hs
    by_cases hl : ¬ (0 ≤ o.block ∧ o.block < 4096) ∨ t.look o.block = (o.chunk, true)
    · rw [if_pos hl] at hs
      rw [hsame hs.1, hzero]
      · rfl
      · refine ents_ext h.srt hy.srt fun b => ?_
        rw [← h.look, ← hy.look, hs.1]
    · rw [if_neg hl] at hs
      have hv : 0 ≤ o.block ∧ o.block < 4096 := Classical.not_not.1 fun x => hl (.inl x)
      refine hchg hv (fun S h1 h2 => share_set 2 m t y.1 _ _ hs.2.1 S h1 h2) fun e => ?_
      have h1 := hy.look o.block
      rw [← e, ← h.look] at h1
      have hyk := get_set 2 _ _ _ _ _ hs.2.1 o.block.toNat
      rw [if_pos (show Go.Proofs.YtpfdlpniijgakaaDoor.same 2 o.block.toNat o.block.toNat from fun _ _ => rfl)] at hyk
      apply hl
      right
      rw [← h1]
      unfold PT.look
      rw [if_pos hv, hyk]

/-- What a walk yields of the blocks from f to u. -/
def walks : Nat → PT → Int → Int → Int → List (Int × Int)
  | 0, t, first, f, u => (List.range 16).flatMap fun i => if t.has.testBit i && !(decide (first + (i : Nat) + 1 ≤ f) || decide (u ≤ first + (i : Nat))) then [(first + (i : Nat), t.chunk i)] else []
  | L + 1, t, first, f, u => (List.range 16).flatMap fun i => if t.has.testBit i && !(decide (first + ((i * 16 ^ (L + 1) : Nat) : Int) + ((16 ^ (L + 1) : Nat) : Int) ≤ f) || decide (u ≤ first + ((i * 16 ^ (L + 1) : Nat) : Int))) then walks L (t.kid i) (first + ((i * 16 ^ (L + 1) : Nat) : Int)) f u else []

theorem walks_mem : ∀ (L : Nat) (t : PT) (first f u : Int), t.Wf L → ∀ x c, (x, c) ∈ walks L t first f u ↔ ∃ r : Nat, r < 16 ^ (L + 1) ∧ x = first + (r : Int) ∧ t.get L r = (c, true) ∧ f ≤ x ∧ x < u
  | 0, t, first, f, u, wt, x, c => by
    unfold walks
    simp only [List.mem_flatMap, List.mem_range]
    constructor
    · rintro ⟨i, hi, h⟩
      split at h
      · rename_i h2
        simp only [Bool.and_eq_true, Bool.not_eq_true', Bool.or_eq_false_iff, decide_eq_false_iff_not] at h2
        have hx : x = first + (i : Nat) ∧ c = t.chunk i := by simpa using h
        refine ⟨i, hi, hx.1, ?_, by omega, by omega⟩
        rw [get_low t hi, hx.2, h2.1]
      · simp at h
    · rintro ⟨i, hi, rfl, h, h1, h2⟩
      have hi : i < 16 := hi
      rw [get_low t hi] at h
      obtain ⟨e1, e2⟩ := Prod.mk.inj h
      refine ⟨i, hi, ?_⟩
      rw [if_pos]
      · simp [e1]
      · simp only [Bool.and_eq_true, Bool.not_eq_true', Bool.or_eq_false_iff, decide_eq_false_iff_not]
        exact ⟨e2, by omega, by omega⟩
  | L + 1, t, first, f, u, wt, x, c => by
    unfold walks
    simp only [List.mem_flatMap, List.mem_range]
    constructor
    · rintro ⟨i, hi, h⟩
      split at h
      · obtain ⟨r, hr, rfl, hg, h1, h2⟩ := (walks_mem L _ _ f u (wt.kid i) x c).1 h
        refine ⟨i * 16 ^ (L + 1) + r, ?_, by rw [Int.natCast_add]; omega, ?_, h1, h2⟩
        · rw [Nat.pow_succ 16 (L + 1)]; exact pow_step _ _ _ hi hr
        · rw [get_kid t hi hr]; exact hg
      · simp at h
    · rintro ⟨q, hq, rfl, hg, h1, h2⟩
      have hM : 0 < 16 ^ (L + 1) := Nat.pow_pos (by omega)
      have hi : q / 16 ^ (L + 1) < 16 := by
        rw [Nat.div_lt_iff_lt_mul hM, Nat.mul_comm, ← Nat.pow_succ]; exact hq
      have hr : q % 16 ^ (L + 1) < 16 ^ (L + 1) := Nat.mod_lt _ hM
      have e : q / 16 ^ (L + 1) * 16 ^ (L + 1) + q % 16 ^ (L + 1) = q := Nat.div_add_mod' _ _
      rw [← e, get_kid t hi hr] at hg
      have hbit : t.has.testBit (q / 16 ^ (L + 1)) = true := by
        cases hb : t.has.testBit (q / 16 ^ (L + 1)) with
        | true => rfl
        | false => rw [(wt.kid_nil hi).1 hb, get_nil] at hg; cases hg
      refine ⟨q / 16 ^ (L + 1), hi, ?_⟩
      have hx : first + (q : Int) = first + ((q / 16 ^ (L + 1) * 16 ^ (L + 1) : Nat) : Int) + ((q % 16 ^ (L + 1) : Nat) : Int) := by
        rw [Int.add_assoc, ← Int.natCast_add, e]
      rw [hx] at h1 h2 ⊢
      generalize q % 16 ^ (L + 1) = r at *
      generalize q / 16 ^ (L + 1) = i at *
      generalize he : 16 ^ (L + 1) = M at *
      rw [if_pos]
      · exact (walks_mem L _ _ f u (wt.kid i) _ c).2 ⟨r, by omega, rfl, hg, h1, h2⟩
      · rw [hbit]
        simp only [Bool.and_eq_true, Bool.not_eq_true', Bool.or_eq_false_iff, decide_eq_false_iff_not]
        exact ⟨trivial, by omega, by omega⟩

theorem flat_srt2 {f : Nat → Ents} {first : Int} {M : Nat} : ∀ n, (∀ i, i < n → Srt (f i)) → (∀ i, i < n → ∀ x ∈ f i, first + ((i * M : Nat) : Int) ≤ x.1 ∧ x.1 < first + ((i * M : Nat) : Int) + M) → Srt ((List.range n).flatMap f)
  | 0, _, _ => by simp [Srt]
  | n + 1, h1, h2 => by
    unfold Srt
    rw [List.range_succ, List.flatMap_append, List.pairwise_append]
    refine ⟨flat_srt2 n (fun i hi => h1 i (by omega)) (fun i hi => h2 i (by omega)), by simpa [Srt] using h1 n (by omega), ?_⟩
    intro x hx y hy
    obtain ⟨i, hi, hx⟩ := List.mem_flatMap.1 hx
    rw [List.mem_range] at hi
    have h3 := h2 i (by omega) x hx
    have h4 := h2 n (by omega) y (by simpa using hy)
    have h5 : (i + 1) * M ≤ n * M := Nat.mul_le_mul_right _ hi
    rw [Nat.succ_mul] at h5
    generalize i * M = a at *
    generalize n * M = b at *
    omega
theorem walks_srt : ∀ (L : Nat) (t : PT) (first f u : Int), t.Wf L → Srt (walks L t first f u)
  | 0, t, first, f, u, wt => by
    unfold walks
    refine flat_srt2 (first := first) (M := 1) 16 (fun i hi => ?_) (fun i hi x hx => ?_)
    · split <;> simp [Srt]
    · split at hx
      · obtain rfl := List.mem_singleton.1 hx
        simp only
        omega
      · simp at hx
  | L + 1, t, first, f, u, wt => by
    unfold walks
    refine flat_srt2 (first := first) (M := 16 ^ (L + 1)) 16 (fun i hi => ?_) (fun i hi x hx => ?_)
    · split
      · exact walks_srt L _ _ f u (wt.kid i)
      · simp [Srt]
    · split at hx
      · obtain ⟨r, hr, e, _⟩ := (walks_mem L _ _ f u (wt.kid i) x.1 x.2).1 hx
        rw [e]
        generalize 16 ^ (L + 1) = M at *
        generalize i * M = a at *
        omega
      · simp at hx

/-- What Range yields. -/
theorem Rep.walks {t : PT} {n : Int} {L : Ents} (h : Rep t n L) (f u : Int) : Go.Proofs.YtpfdlpniijgakaaDoor.walks 2 t 0 f u = L.filter (inR f u) := by
  refine sorted_ext Prod.fst _ _ (walks_srt 2 t 0 f u h.wf) (List.Pairwise.filter _ h.srt) fun x => ?_
  obtain ⟨x, c⟩ := x
  rw [walks_mem 2 t 0 f u h.wf, List.mem_filter, ← rget_mem h.srt, ← h.look]
  simp only [inR, Bool.and_eq_true, decide_eq_true_eq]
  constructor
  · rintro ⟨r, hr, rfl, hg, h1, h2⟩
    have hr : r < 4096 := hr
    refine ⟨?_, h1, h2⟩
    unfold PT.look
    rw [if_pos (by omega)]
    have : (0 + (r : Int)).toNat = r := by omega
    rw [this]; exact hg
  · rintro ⟨hl, h1, h2⟩
    unfold PT.look at hl
    by_cases hv : 0 ≤ x ∧ x < 4096
    · rw [if_pos hv] at hl
      exact ⟨x.toNat, by have : (16 : Nat) ^ (2 + 1) = 4096 := rfl; omega, by omega, hl, h1, h2⟩
    · rw [if_neg hv] at hl; cases hl
end Go.Proofs.YtpfdlpniijgakaaDoor
