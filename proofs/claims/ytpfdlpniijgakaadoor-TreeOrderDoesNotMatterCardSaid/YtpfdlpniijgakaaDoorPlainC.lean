/- What Diff, Nodes, Count and Path say of trees and lists: no program in sight. -/
import Derived.Test.YtpfdlpniijgakaaDoorPlainB
namespace Go.Proofs.YtpfdlpniijgakaaDoor
open Go

/-- One block holds one node. -/
theorem tr_get {T : Nat} {K : Fz} : ∀ (L : Nat) (a b : PT), Tr T K a → Tr T K b → a.ptr = b.ptr → ∀ x, a.get L x = b.get L x
  | L, .nil, .nil, _, _, _, x => rfl
  | L, .nil, .node _ _ _ _, _, _, h, x => by cases h
  | L, .node _ _ _ _, .nil, _, _, h, x => by cases h
  | L, .node g h k c, .node g' h' k' c', ha, hb, e, x => by
    have eg : g = g' := by simpa [PT.ptr] using e
    subst eg
    have e1 := ha.1.symm.trans hb.1
    have ec : nodeCells h k c = nodeCells h' k' c' := by simpa using e1
    have e2 : h = h' := by
      have := nodeCells_has h k c
      rw [ec, nodeCells_has] at this
      have : ((h' : Nat) : Int) = (h : Nat) := by simpa using this
      omega
    have e3 : ∀ i, i < 16 → (k i).ptr = (k' i).ptr := fun i hi => by
      have := nodeCells_kid h k c i hi
      rw [ec, nodeCells_kid _ _ _ i hi] at this
      simpa using this.symm
    have e4 : ∀ i, i < 16 → c i = c' i := fun i hi => by
      have := nodeCells_chunk h k c i hi
      rw [ec, nodeCells_chunk _ _ _ i hi] at this
      simpa using this.symm
    cases L with
    | zero => rw [get_node0, get_node0]; simp [PT.chunk, PT.has, e2, e4 _ (sl_lt 0 x)]
    | succ L => rw [get_nodeS, get_nodeS]; exact tr_get L _ _ (ha.2.2 _) (hb.2.2 _) (e3 _ (sl_lt _ _)) x

theorem or_off {a b : Bool} (h : (a || b) = false) : a = false ∧ b = false := by simpa using h
theorem pow_step (i M r : Nat) (hi : i < 16) (hr : r < M) : i * M + r < M * 16 := by
  calc i * M + r < i * M + M := by omega
    _ = (i + 1) * M := by rw [Nat.succ_mul]
    _ ≤ 16 * M := Nat.mul_le_mul_right _ (by omega)
    _ = M * 16 := Nat.mul_comm _ _

/-- The blocks that Diff yields. -/
theorem diffs_mem {T : Nat} {K : Fz} : ∀ (L : Nat) (a b : PT) (first : Nat), Tr T K a → Tr T K b → a.Wf L → b.Wf L → ∀ x, x ∈ diffs L a b first ↔ ∃ r, r < 16 ^ (L + 1) ∧ x = first + r ∧ a.get L r ≠ b.get L r
  | 0, a, b, first, ha, hb, wa, wb, x => by
    by_cases hp : a.ptr = b.ptr
    · rw [diffs_same _ _ _ _ hp]
      constructor
      · intro h; simp at h
      · rintro ⟨r, _, _, h⟩; exact (h (tr_get 0 a b ha hb hp r)).elim
    · unfold diffs
      rw [if_neg hp]
      simp only [List.mem_flatMap, List.mem_range]
      constructor
      · rintro ⟨i, hi, h⟩
        split at h
        · split at h
          · rename_i h2
            have hx : x = first + i := by simpa using h
            refine ⟨i, hi, hx, ?_⟩
            rw [get_low a hi, get_low b hi]
            intro e
            obtain ⟨e1, e2⟩ := Prod.mk.inj e
            rw [Nat.testBit_xor, e1, e2] at h2
            simp at h2
          · simp at h
        · simp at h
      · rintro ⟨i, hi, rfl, h⟩
        have hi : i < 16 := hi
        refine ⟨i, hi, ?_⟩
        rw [get_low a hi, get_low b hi] at h
        by_cases h1 : (a.has ||| b.has).testBit i = true
        · rw [if_pos h1]
          have h2 : ((a.has ^^^ b.has).testBit i || a.chunk i != b.chunk i) = true := by
            rw [Nat.testBit_xor]
            cases h3 : (a.has.testBit i ^^ b.has.testBit i) || a.chunk i != b.chunk i with
            | true => rfl
            | false =>
              exfalso
              apply h
              obtain ⟨h4, h5⟩ := or_off h3
              have h6 : a.chunk i = b.chunk i := by simpa using h5
              have h7 : a.has.testBit i = b.has.testBit i := by simpa using h4
              rw [h6, h7]
          rw [if_pos h2]; simp
        · exfalso
          apply h
          rw [Nat.testBit_or, Bool.not_eq_true] at h1
          obtain ⟨h2, h3⟩ := or_off h1
          rw [h2, h3, wa.off hi h2, wb.off hi h3]
  | L + 1, a, b, first, ha, hb, wa, wb, x => by
    by_cases hp : a.ptr = b.ptr
    · rw [diffs_same _ _ _ _ hp]
      constructor
      · intro h; simp at h
      · rintro ⟨r, _, _, h⟩; exact (h (tr_get _ a b ha hb hp r)).elim
    · unfold diffs
      rw [if_neg hp]
      simp only [List.mem_flatMap, List.mem_range]
      constructor
      · rintro ⟨i, hi, h⟩
        split at h
        · obtain ⟨r, hr, rfl, hne⟩ := (diffs_mem L _ _ _ (ha.kid i) (hb.kid i) (wa.kid i) (wb.kid i) x).1 h
          refine ⟨i * 16 ^ (L + 1) + r, ?_, by rw [Nat.add_assoc], ?_⟩
          · rw [Nat.pow_succ 16 (L + 1)]; exact pow_step _ _ _ hi hr
          · rw [get_kid a hi hr, get_kid b hi hr]; exact hne
        · simp at h
      · rintro ⟨q, hq, rfl, hne⟩
        have hM : 0 < 16 ^ (L + 1) := Nat.pow_pos (by omega)
        have hi : q / 16 ^ (L + 1) < 16 := by
          rw [Nat.div_lt_iff_lt_mul hM, Nat.mul_comm, ← Nat.pow_succ]; exact hq
        have hr : q % 16 ^ (L + 1) < 16 ^ (L + 1) := Nat.mod_lt _ hM
        have e : q / 16 ^ (L + 1) * 16 ^ (L + 1) + q % 16 ^ (L + 1) = q := Nat.div_add_mod' _ _
        rw [← e, get_kid a hi hr, get_kid b hi hr] at hne
        refine ⟨q / 16 ^ (L + 1), hi, ?_⟩
        by_cases h1 : (a.has ||| b.has).testBit (q / 16 ^ (L + 1)) = true
        · rw [if_pos h1]
          refine (diffs_mem L _ _ _ (ha.kid _) (hb.kid _) (wa.kid _) (wb.kid _) _).2 ⟨_, hr, ?_, hne⟩
          rw [Nat.add_assoc, e]
        · exfalso
          apply hne
          rw [Nat.testBit_or, Bool.not_eq_true] at h1
          obtain ⟨h2, h3⟩ := or_off h1
          rw [(wa.kid_nil hi).1 h2, (wb.kid_nil hi).1 h3]

theorem flat_srt {f : Nat → List Nat} {first M : Nat} : ∀ n, (∀ i, i < n → (f i).Pairwise (· < ·)) → (∀ i, i < n → ∀ x ∈ f i, first + i * M ≤ x ∧ x < first + i * M + M) → ((List.range n).flatMap f).Pairwise (· < ·)
  | 0, _, _ => by simp
  | n + 1, h1, h2 => by
    rw [List.range_succ, List.flatMap_append, List.pairwise_append]
    refine ⟨flat_srt n (fun i hi => h1 i (by omega)) (fun i hi => h2 i (by omega)), by simpa using h1 n (by omega), ?_⟩
    intro x hx y hy
    obtain ⟨i, hi, hx⟩ := List.mem_flatMap.1 hx
    rw [List.mem_range] at hi
    have h3 := h2 i (by omega) x hx
    have h4 := h2 n (by omega) y (by simpa using hy)
    have h5 : (i + 1) * M ≤ n * M := Nat.mul_le_mul_right _ hi
    rw [Nat.succ_mul] at h5
    omega
theorem diffs_srt {T : Nat} {K : Fz} : ∀ (L : Nat) (a b : PT) (first : Nat), Tr T K a → Tr T K b → a.Wf L → b.Wf L → (diffs L a b first).Pairwise (· < ·)
  | 0, a, b, first, ha, hb, wa, wb => by
    unfold diffs
    split
    · exact List.Pairwise.nil
    · refine flat_srt (first := first) (M := 1) 16 (fun i hi => ?_) (fun i hi x hx => ?_)
      · split
        · split <;> simp
        · simp
      · split at hx
        · split at hx
          · have : x = first + i := by simpa using hx
            omega
          · simp at hx
        · simp at hx
  | L + 1, a, b, first, ha, hb, wa, wb => by
    unfold diffs
    split
    · exact List.Pairwise.nil
    · refine flat_srt (first := first) (M := 16 ^ (L + 1)) 16 (fun i hi => ?_) (fun i hi x hx => ?_)
      · split
        · exact diffs_srt L _ _ _ (ha.kid i) (hb.kid i) (wa.kid i) (wb.kid i)
        · simp
      · split at hx
        · obtain ⟨r, hr, rfl, _⟩ := (diffs_mem L _ _ _ (ha.kid i) (hb.kid i) (wa.kid i) (wb.kid i) x).1 hx
          omega
        · simp at hx

theorem Rep.diffs {T : Nat} {K : Fz} {a b : PT} {na nb : Int} {A B : Ents} (ha : Rep a na A) (hb : Rep b nb B) (hTa : Tr T K a) (hTb : Tr T K b) :
    (Go.Proofs.YtpfdlpniijgakaaDoor.diffs 2 a b 0).map (fun (x : Nat) => (x : Int)) = rdiff A B := by
  have hsrt := diffs_srt 2 a b 0 hTa hTb ha.wf hb.wf
  refine sorted_ext id _ _ (List.Pairwise.map _ (fun x y h => by simpa using h) hsrt) (rdiff_srt A B ha.srt hb.srt) fun z => ?_
  rw [rdiff_mem A B ha.srt hb.srt, List.mem_map, ← ha.look, ← hb.look]
  constructor
  · rintro ⟨x, hx, rfl⟩
    obtain ⟨r, hr, rfl, hne⟩ := (diffs_mem 2 a b 0 hTa hTb ha.wf hb.wf x).1 hx
    have hr : r < 4096 := hr
    have hv : 0 ≤ ((0 + r : Nat) : Int) ∧ ((0 + r : Nat) : Int) < 4096 := by omega
    unfold PT.look
    rw [if_pos hv, if_pos hv]
    simpa using hne
  · intro hne
    unfold PT.look at hne
    by_cases hv : 0 ≤ z ∧ z < 4096
    · rw [if_pos hv, if_pos hv] at hne
      exact ⟨z.toNat, (diffs_mem 2 a b 0 hTa hTb ha.wf hb.wf _).2 ⟨z.toNat, by have : (16 : Nat) ^ (2 + 1) = 4096 := rfl; omega, by omega, hne⟩, by omega⟩
    · rw [if_neg hv, if_neg hv] at hne; exact (hne rfl).elim
theorem diffs_le {T : Nat} {K : Fz} {a b : PT} {na nb : Int} {A B : Ents} (ha : Rep a na A) (hb : Rep b nb B) (hTa : Tr T K a) (hTb : Tr T K b) : (Go.Proofs.YtpfdlpniijgakaaDoor.diffs 2 a b 0).length ≤ A.length + B.length := by
  have := congrArg List.length (ha.diffs hb hTa hTb)
  rw [List.length_map] at this
  have h2 := rdiff_len A B
  omega

theorem Rep.same {a b : PT} {na nb : Int} {A B : Ents} (ha : Rep a na A) (hb : Rep b nb B) : A = B ↔ ∀ z, a.look z = b.look z := by
  constructor
  · rintro rfl z; rw [ha.look, hb.look]
  · intro h; exact ents_ext ha.srt hb.srt fun z => by rw [← ha.look, ← hb.look, h]

/-- What Equal returns. -/
theorem Rep.equal {T : Nat} {K : Fz} {a b : PT} {na nb : Int} {A B : Ents} (ha : Rep a na A) (hb : Rep b nb B) (hTa : Tr T K a) (hTb : Tr T K b) :
    (na == nb && (Go.Proofs.YtpfdlpniijgakaaDoor.diffs 2 a b 0).isEmpty) = (rdiff A B).isEmpty := by
  have h := ha.diffs hb hTa hTb
  have h2 : (Go.Proofs.YtpfdlpniijgakaaDoor.diffs 2 a b 0).isEmpty = (rdiff A B).isEmpty := by rw [← h]; cases Go.Proofs.YtpfdlpniijgakaaDoor.diffs 2 a b 0 <;> rfl
  rw [h2]
  cases he : (rdiff A B).isEmpty with
  | false => simp
  | true =>
    have : A = B := (rdiff_nil ha.srt hb.srt).1 (by simpa using he)
    have : na = nb := by rw [ha.len, hb.len, this]
    simp [this]

/- gather -/
theorem gath_sub : ∀ {t : PT} {S : List Nat} {x : Nat}, x ∈ S → x ∈ gath t S := by
  intro t
  induction t with
  | nil => intro S x h; exact h
  | node b h k c ih =>
    intro S x hx
    unfold gath
    split
    · exact hx
    · have : ∀ (l : List Nat) (S : List Nat), x ∈ S → x ∈ l.foldl (fun S i => gath (k i) S) S := by
        intro l
        induction l with
        | nil => intro S h; exact h
        | cons i l ihl => intro S h; exact ihl _ (ih i h)
      exact this _ _ (by simp [hx])
theorem gath_seen {t : PT} {S : List Nat} (h : ∀ x ∈ t.blocks, x ∈ S) : gath t S = S := by
  cases t with
  | nil => rfl
  | node b h' k c => unfold gath; rw [if_pos (h b (by simp [PT.blocks]))]
theorem gath_fresh : ∀ {t : PT} {S : List Nat}, t.blocks.Nodup → (∀ x ∈ t.blocks, x ∉ S) → gath t S = S ++ t.blocks := by
  intro t
  induction t with
  | nil => intro S _ _; simp [gath, PT.blocks]
  | node b h k c ih =>
    intro S hn hd
    have hk : ((List.range 16).flatMap fun i => (k i).blocks).Nodup := (List.nodup_cons.1 hn).2
    have hb : b ∉ (List.range 16).flatMap fun i => (k i).blocks := (List.nodup_cons.1 hn).1
    have hd2 : ∀ x ∈ (List.range 16).flatMap fun i => (k i).blocks, x ∉ S ++ [b] := by
      intro x hx hx2
      rcases List.mem_append.1 hx2 with h2 | h2
      · exact hd x (List.mem_cons_of_mem _ hx) h2
      · rw [List.mem_singleton.1 h2] at hx; exact hb hx
    unfold gath
    rw [if_neg (hd b (by simp [PT.blocks]))]
    have : ∀ (l : List Nat) (S : List Nat), (l.flatMap fun i => (k i).blocks).Nodup → (∀ x ∈ l.flatMap fun i => (k i).blocks, x ∉ S) → l.foldl (fun S i => gath (k i) S) S = S ++ l.flatMap fun i => (k i).blocks := by
      intro l
      induction l with
      | nil => intro S _ _; simp
      | cons i l ihl =>
        intro S hn hd
        rw [List.flatMap_cons, List.nodup_append] at hn
        rw [List.foldl_cons, ih i hn.1 (fun x hx => hd x (by simp [hx])), ihl _ hn.2.1, List.flatMap_cons, List.append_assoc]
        intro x hx hx2
        rcases List.mem_append.1 hx2 with h2 | h2
        · exact hd x (by rw [List.flatMap_cons]; exact List.mem_append.2 (.inr hx)) h2
        · exact hn.2.2 x h2 x hx rfl
    rw [this _ _ hk hd2]
    simp [PT.blocks]

/-- The nodes on the way to a block. -/
def pathN : Nat → PT → Nat → Nat
  | _, .nil, _ => 0
  | 0, .node _ _ _ _, _ => 1
  | L + 1, .node _ _ k _, blk => 1 + pathN L (k (sl (L + 1) blk)) blk
theorem pathN_nil (L b : Nat) : pathN L .nil b = 0 := by cases L <;> rfl

theorem gath_old {k0 : Nat → PT} {k' : PT} {s : Nat} {S0 : List Nat} (hk : ∀ i, i < 16 → ∀ x ∈ (k0 i).blocks, x ∈ S0) : ∀ n, n ≤ 16 → (List.range n).foldl (fun S i => gath (upd k0 s k' i) S) S0 = if s < n then gath k' S0 else S0
  | 0, _ => by simp
  | n + 1, hn => by
    rw [List.range_succ, List.foldl_append, gath_old hk n (by omega)]
    simp only [List.foldl_cons, List.foldl_nil]
    by_cases e : n = s
    · subst e
      rw [upd_self, if_neg (by omega), if_pos (by omega)]
    · rw [upd_other _ _ e]
      by_cases h : s < n
      · rw [if_pos h, if_pos (by omega)]
        exact gath_seen fun x hx => gath_sub (hk n (by omega) x hx)
      · rw [if_neg h, if_neg (by omega)]
        exact gath_seen fun x hx => hk n (by omega) x hx
theorem gath_same {k0 : Nat → PT} {S0 : List Nat} (hk : ∀ i, i < 16 → ∀ x ∈ (k0 i).blocks, x ∈ S0) : (List.range 16).foldl (fun S i => gath (k0 i) S) S0 = S0 := by
  have := gath_old (k' := k0 0) (s := 0) hk 16 (Nat.le_refl _)
  have e : upd k0 0 (k0 0) = k0 := by funext i; unfold upd; split <;> simp_all
  rw [e] at this
  rw [this, if_pos (by omega)]
  exact gath_seen (hk 0 (by omega))
theorem kids_seen {t : PT} {S : List Nat} (h : ∀ x ∈ t.blocks, x ∈ S) (g : Nat) : ∀ i, i < 16 → ∀ x ∈ (t.kid i).blocks, x ∈ S ++ [g] := fun i hi x hx => List.mem_append.2 (.inl (h x (kid_sub hi hx)))
theorem upd_kid (t : PT) (s : Nat) (k' : PT) : upd t.kid s k' s = k' := upd_self _ _ _

theorem share_set : ∀ (L n : Nat) (t t' : PT) (blk : Nat) (ch : Int), PT.Set L n t blk ch t' → ∀ S, (∀ x ∈ t.blocks, x ∈ S) → (∀ x ∈ S, x < n) → (gath t' S).length = S.length + pathN L t' blk
  | 0, n, t, t', blk, ch, ⟨g, hg, e⟩, S, hS, hn => by
    subst e
    unfold gath
    rw [if_neg (fun h => by have := hn g h; omega), gath_same (kids_seen hS g)]
    simp [pathN]
  | L + 1, n, t, t', blk, ch, ⟨g, k', hg, hk, e⟩, S, hS, hn => by
    subst e
    unfold gath
    rw [if_neg (fun h => by have := hn g h; omega), gath_old (kids_seen hS g) 16 (Nat.le_refl _), if_pos (sl_lt _ _)]
    rw [share_set L (g + 1) _ _ _ _ hk (S ++ [g]) (fun x hx => kids_seen hS g _ (sl_lt _ _) x hx)]
    · simp only [pathN, upd_self, List.length_append, List.length_singleton]; omega
    · intro x hx
      rcases List.mem_append.1 hx with h | h
      · have := hn x h; omega
      · rw [List.mem_singleton.1 h]; omega
theorem share_clr : ∀ (L n : Nat) (t t' : PT) (blk : Nat), PT.Clr L n t blk t' → ∀ S, (∀ x ∈ t.blocks, x ∈ S) → (∀ x ∈ S, x < n) → (gath t' S).length = S.length + pathN L t' blk
  | 0, n, t, t', blk, ⟨g, hg, e⟩, S, hS, hn => by
    split at e
    · subst e; rfl
    · subst e
      unfold gath
      rw [if_neg (fun h => by have := hn g h; omega), gath_same (kids_seen hS g)]
      simp [pathN]
  | L + 1, n, t, t', blk, ⟨g, k', hg, hk, e⟩, S, hS, hn => by
    split at e
    · subst e
      unfold gath
      rw [if_neg (fun h => by have := hn g h; omega), gath_old (kids_seen hS g) 16 (Nat.le_refl _), if_pos (sl_lt _ _)]
      rw [share_clr L (g + 1) _ _ _ hk (S ++ [g]) (fun x hx => kids_seen hS g _ (sl_lt _ _) x hx)]
      · simp only [pathN, upd_self, List.length_append, List.length_singleton]; omega
      · intro x hx
        rcases List.mem_append.1 hx with h | h
        · have := hn x h; omega
        · rw [List.mem_singleton.1 h]; omega
    · split at e
      · subst e; rfl
      · subst e
        unfold gath
        rw [if_neg (fun h => by have := hn g h; omega), gath_old (kids_seen hS g) 16 (Nat.le_refl _), if_pos (sl_lt _ _)]
        simp only [pathN, upd_self, pathN_nil, gath, List.length_append, List.length_singleton]

/-- A node is there where a block of its range is mapped. -/
theorem Rep.root {t : PT} {n : Int} {L : Ents} (h : Rep t n L) : t = .nil ↔ L = [] := by
  constructor
  · rintro rfl
    refine ents_ext h.srt List.Pairwise.nil fun b => ?_
    rw [← h.look, rget_nil]; unfold PT.look; split <;> simp [get_nil]
  · rintro rfl
    apply Classical.byContradiction
    intro hne
    obtain ⟨r, hr, hg⟩ := wf_some 2 t h.wf hne
    have hr : r < 4096 := hr
    have := h.look (r : Nat)
    rw [rget_nil] at this
    unfold PT.look at this
    rw [if_pos (by omega), Int.toNat_natCast] at this
    rw [this] at hg; cases hg
theorem Rep.some {t : PT} {n : Int} {L : Ents} (h : Rep t n L) {r : Nat} (hr : r < 4096) : (t.get 2 r).2 = true ↔ ∃ x ∈ L, x.1 = r := by
  have hl := h.look (r : Nat)
  unfold PT.look at hl
  rw [if_pos (by omega), Int.toNat_natCast] at hl
  rw [hl]
  constructor
  · intro h2
    have : rget L (r : Nat) = ((rget L (r : Nat)).1, true) := by rw [← h2]
    exact ⟨_, (rget_mem h.srt).1 this, rfl⟩
  · rintro ⟨x, hx, e⟩
    have := (rget_mem h.srt (b := x.1) (c := x.2)).2 hx
    rw [e] at this; rw [this]
theorem Rep.mid {t : PT} {n : Int} {L : Ents} (h : Rep t n L) {i : Nat} (hi : i < 16) : t.kid i ≠ .nil ↔ ∃ x ∈ L, x.1 / 256 = (i : Nat) := by
  have hw := h.wf.kid i
  constructor
  · intro hne
    obtain ⟨r, hr, hg⟩ := wf_some 1 _ hw hne
    have hr' : r < 256 := hr
    rw [← get_kid (L := 1) t hi hr] at hg
    have hlt : i * 256 + r < 4096 := by omega
    obtain ⟨x, hx, e⟩ := (h.some hlt).1 hg
    exact ⟨x, hx, by omega⟩
  · rintro ⟨x, hx, e⟩ hn
    have hb := h.inb x hx
    have hlt : i * 256 + (x.1 % 256).toNat < 4096 := by omega
    have hg := (h.some hlt).2 ⟨x, hx, by omega⟩
    have hr : (x.1 % 256).toNat < 16 ^ (1 + 1) := by have : (16 : Nat) ^ (1 + 1) = 256 := rfl; omega
    have e2 := get_kid (L := 1) t hi hr
    rw [hn, get_nil] at e2
    have e3 : (16 : Nat) ^ (1 + 1) = 256 := rfl
    rw [e3] at e2
    rw [e2] at hg; cases hg
theorem Rep.low {t : PT} {n : Int} {L : Ents} (h : Rep t n L) {i j : Nat} (hi : i < 16) (hj : j < 16) : (t.kid i).kid j ≠ .nil ↔ ∃ x ∈ L, x.1 / 16 = ((i * 16 + j : Nat) : Int) := by
  have hw := (h.wf.kid i).kid j
  constructor
  · intro hne
    obtain ⟨r, hr, hg⟩ := wf_some 0 _ hw hne
    have hr' : r < 16 := hr
    have hr2 : j * 16 ^ (0 + 1) + r < 16 ^ (1 + 1) := by have : (16 : Nat) ^ (1 + 1) = 256 := rfl; have : (16 : Nat) ^ (0 + 1) = 16 := rfl; omega
    rw [← get_kid (L := 0) _ hj hr, ← get_kid (L := 1) t hi hr2] at hg
    have e2 : i * 16 ^ (1 + 1) + (j * 16 ^ (0 + 1) + r) = i * 256 + (j * 16 + r) := rfl
    rw [e2] at hg
    have hlt : i * 256 + (j * 16 + r) < 4096 := by omega
    obtain ⟨x, hx, e⟩ := (h.some hlt).1 hg
    exact ⟨x, hx, by omega⟩
  · rintro ⟨x, hx, e⟩ hn
    have hb := h.inb x hx
    have hlt : i * 256 + (j * 16 + (x.1 % 16).toNat) < 4096 := by omega
    have hg := (h.some hlt).2 ⟨x, hx, by omega⟩
    have hr : (x.1 % 16).toNat < 16 ^ (0 + 1) := by have : (16 : Nat) ^ (0 + 1) = 16 := rfl; omega
    have hr2 : j * 16 ^ (0 + 1) + (x.1 % 16).toNat < 16 ^ (1 + 1) := by have : (16 : Nat) ^ (1 + 1) = 256 := rfl; have : (16 : Nat) ^ (0 + 1) = 16 := rfl; omega
    have e2 := get_kid (L := 1) t hi hr2
    rw [get_kid (L := 0) _ hj hr, hn, get_nil] at e2
    have e3 : i * 16 ^ (1 + 1) + (j * 16 ^ (0 + 1) + (x.1 % 16).toNat) = i * 256 + (j * 16 + (x.1 % 16).toNat) := rfl
    rw [e3] at e2
    rw [e2] at hg; cases hg

theorem filt_some {L : Ents} {p : Int × Int → Bool} : L.filter p = [] ↔ ¬ ∃ x ∈ L, p x = true := by
  rw [List.filter_eq_nil_iff]
  constructor
  · rintro h ⟨x, hx, e⟩; exact h x hx e
  · intro h x hx e; exact h ⟨x, hx, e⟩
theorem pathN_le : ∀ (L : Nat) (t : PT) (b : Nat), pathN L t b ≤ L + 1
  | 0, .nil, b => by simp [pathN]
  | 0, .node _ _ _ _, b => by simp [pathN]
  | L + 1, .nil, b => by simp [pathN]
  | L + 1, .node _ _ k _, b => by have := pathN_le L (k (sl (L + 1) b)) b; simp [pathN]; omega
theorem pathN_node (L : Nat) (t : PT) (b : Nat) (h : t ≠ .nil) : pathN (L + 1) t b = 1 + pathN L (t.kid (sl (L + 1) b)) b := by
  cases t with
  | nil => exact (h rfl).elim
  | node g h' k c => rfl
theorem pathN_leaf (t : PT) (b : Nat) (h : t ≠ .nil) : pathN 0 t b = 1 := by
  cases t with
  | nil => exact (h rfl).elim
  | node g h' k c => rfl
theorem Rep.path {t : PT} {n : Int} {L : Ents} (h : Rep t n L) {b : Int} (hb : 0 ≤ b ∧ b < 4096) : pathN 2 t b.toNat = rpath L b := by
  unfold rpath
  have s1 : sl 2 b.toNat = b.toNat / 256 := by unfold sl; have : (16 : Nat) ^ 2 = 256 := rfl; rw [this]; omega
  have s2 : sl 1 b.toNat = b.toNat / 16 % 16 := by unfold sl; rw [Nat.pow_one]
  by_cases h0 : t = .nil
  · rw [if_pos (h.root.1 h0), h0]; rfl
  · rw [if_neg (fun e => h0 (h.root.2 e)), pathN_node 1 t _ h0]
    have hi : sl 2 b.toNat < 16 := sl_lt _ _
    have hj : sl 1 b.toNat < 16 := sl_lt _ _
    have f1 : L.filter (inR (b / 256 * 256) (b / 256 * 256 + 256)) = [] ↔ t.kid (sl 2 b.toNat) = .nil := by
      rw [filt_some]
      constructor
      · intro h1
        apply Classical.byContradiction
        intro h2
        obtain ⟨x, hx, e⟩ := (h.mid hi).1 h2
        refine h1 ⟨x, hx, ?_⟩
        clear h1 h2
        simp only [inR, Bool.and_eq_true, decide_eq_true_eq]
        omega
      · rintro h1 ⟨x, hx, e⟩
        simp only [inR, Bool.and_eq_true, decide_eq_true_eq] at e
        exact (h.mid hi).2 ⟨x, hx, by clear h1; omega⟩ h1
    have f2 : L.filter (inR (b / 16 * 16) (b / 16 * 16 + 16)) = [] ↔ (t.kid (sl 2 b.toNat)).kid (sl 1 b.toNat) = .nil := by
      rw [filt_some]
      constructor
      · intro h1
        apply Classical.byContradiction
        intro h2
        obtain ⟨x, hx, e⟩ := (h.low hi hj).1 h2
        refine h1 ⟨x, hx, ?_⟩
        clear h1 h2
        simp only [inR, Bool.and_eq_true, decide_eq_true_eq]
        omega
      · rintro h1 ⟨x, hx, e⟩
        simp only [inR, Bool.and_eq_true, decide_eq_true_eq] at e
        exact (h.low hi hj).2 ⟨x, hx, by clear h1; omega⟩ h1
    by_cases h1 : t.kid (sl 2 b.toNat) = .nil
    · rw [if_pos (f1.2 h1), if_pos (f2.2 (by rw [h1]; rfl)), h1]; rfl
    · rw [if_neg (fun e => h1 (f1.1 e)), pathN_node 0 _ _ h1]
      by_cases h2 : (t.kid (sl 2 b.toNat)).kid (sl 1 b.toNat) = .nil
      · rw [if_pos (f2.2 h2)]
        show 1 + (1 + pathN 0 ((t.kid (sl 2 b.toNat)).kid (sl 1 b.toNat)) _) = _
        rw [h2]; rfl
      · rw [if_neg (fun e => h2 (f2.1 e))]
        show 1 + (1 + pathN 0 ((t.kid (sl 2 b.toNat)).kid (sl 1 b.toNat)) _) = _
        rw [pathN_leaf _ _ h2]
end Go.Proofs.YtpfdlpniijgakaaDoor
