/- Look-ups in spaces, and what stays true of a space: no program in sight. -/
import Derived.Test.YtdaagmhkhfcmdaaVolM
namespace Go.Proofs.Ytdaagmhkhfcmdaa
set_option maxHeartbeats 400000

section lists
variable {α : Type} {f : α → Int}
theorem ixN_get : ∀ {l : List α} {x : Int} {a : α}, l[ixN f l x]? = some a → f a = x
  | [], _, _, h => by simp at h
  | y :: ys, x, a, h => by
    unfold ixN at h
    split at h
    · rename_i e
      simp at h; subst h; exact e
    · simp at h
      exact ixN_get h
theorem ixN_none : ∀ {l : List α} {x : Int}, l[ixN f l x]? = none → ∀ a ∈ l, f a ≠ x
  | [], _, _, _, h => by simp at h
  | y :: ys, x, hn, a, ha => by
    unfold ixN at hn
    split at hn
    · simp at hn
    · rename_i e
      simp at hn
      rcases List.mem_cons.1 ha with rfl | ha
      · exact e
      · exact ixN_none (by simpa using hn) a ha
theorem ixN_miss : ∀ {l : List α} {x : Int}, (∀ a ∈ l, f a ≠ x) → ixN f l x = l.length
  | [], _, _ => rfl
  | y :: ys, x, h => by
    simp only [ixN, h y (by simp), if_false, List.length_cons, Nat.add_right_cancel_iff]
    exact ixN_miss fun a ha => h a (by simp [ha])

/-- The element with a number. -/
def lk (f : α → Int) (l : List α) (x : Int) : Option α := l[ixN f l x]?
theorem lk_nil (x : Int) : lk f ([] : List α) x = none := rfl
theorem lk_cons (y : α) (ys : List α) (x : Int) : lk f (y :: ys) x = if f y = x then some y else lk f ys x := by
  show (y :: ys)[ixN f (y :: ys) x]? = _
  rw [ixN]
  split <;> simp [lk]
theorem lk_append : ∀ (l m : List α) (x : Int), lk f (l ++ m) x = (lk f l x).or (lk f m x)
  | [], m, x => by simp [lk_nil]
  | y :: ys, m, x => by
    rw [List.cons_append, lk_cons, lk_cons, lk_append ys m x]
    split <;> simp
theorem lk_some {l : List α} {x : Int} {a : α} (h : lk f l x = some a) : f a = x ∧ a ∈ l := ⟨ixN_get h, List.mem_of_getElem? h⟩
theorem lk_none {l : List α} {x : Int} : lk f l x = none ↔ ∀ a ∈ l, f a ≠ x := by
  constructor
  · exact ixN_none
  · intro h
    unfold lk
    rw [ixN_miss h, List.getElem?_eq_none (Nat.le_refl _)]
theorem lk_lt {l : List α} {x : Int} : ixN f l x < l.length ↔ ∃ a, lk f l x = some a := by
  constructor
  · intro h; exact ⟨_, List.getElem?_eq_getElem h⟩
  · rintro ⟨a, h⟩; exact (List.getElem?_eq_some_iff.1 h).1

def Inc (f : α → Int) (l : List α) : Prop := l.Pairwise fun x y => f x < f y
theorem lk_mem : ∀ {l : List α} {a : α}, Inc f l → a ∈ l → lk f l (f a) = some a
  | [], _, _, h => by simp at h
  | y :: ys, a, hs, h => by
    have hs' := List.pairwise_cons.1 hs
    rw [lk_cons]
    rcases List.mem_cons.1 h with rfl | h
    · simp
    · rw [if_neg (by have := hs'.1 a h; omega)]
      exact lk_mem hs'.2 h
theorem lk_ins {l : List α} {i : Nat} {a : α} {x : Int} (h : x ≠ f a) : lk f (insAt l i a) x = lk f l x := by
  unfold insAt
  rw [lk_append, lk_cons, if_neg (fun e => h e.symm), ← lk_append, List.take_append_drop]
theorem lk_ins_self {l : List α} {i : Nat} {a : α} (h : ∀ b ∈ l, f b ≠ f a) : lk f (insAt l i a) (f a) = some a := by
  unfold insAt
  rw [lk_append, lk_cons, if_pos rfl, lk_none.2 (fun b hb => h b (List.mem_of_mem_take hb))]
  rfl
theorem lk_erase : ∀ {l : List α} {x y : Int}, x ≠ y → lk f (l.eraseIdx (ixN f l y)) x = lk f l x
  | [], _, _, _ => rfl
  | z :: zs, x, y, h => by
    unfold ixN
    split
    · rename_i e
      rw [List.eraseIdx_cons_zero, lk_cons, if_neg (by omega)]
    · rw [List.eraseIdx_cons_succ, lk_cons, lk_cons, lk_erase h]
theorem lk_erase_self : ∀ {l : List α} {y : Int}, Inc f l → lk f (l.eraseIdx (ixN f l y)) y = none
  | [], _, _ => rfl
  | z :: zs, y, hs => by
    have hs' := List.pairwise_cons.1 hs
    unfold ixN
    split
    · rename_i e
      rw [List.eraseIdx_cons_zero, lk_none]
      intro a ha
      have := hs'.1 a ha
      omega
    · rename_i e
      rw [List.eraseIdx_cons_succ, lk_cons, if_neg e, lk_erase_self hs'.2]
theorem lk_modify {g : α → α} (hg : ∀ a, f (g a) = f a) : ∀ {l : List α} {x y : Int}, lk f (l.modify (ixN f l y) g) x = if x = y then (lk f l x).map g else lk f l x
  | [], x, y => by simp [lk_nil]
  | z :: zs, x, y => by
    unfold ixN
    split
    · rename_i e
      rw [List.modify_zero_cons, lk_cons, lk_cons, hg]
      by_cases hx : f z = x
      · rw [if_pos hx, if_pos hx, if_pos (by omega)]; rfl
      · rw [if_neg hx, if_neg hx, if_neg (by omega)]
    · rename_i e
      rw [List.modify_succ_cons, lk_cons, lk_cons, lk_modify hg]
      by_cases hx : f z = x
      · rw [if_pos hx, if_pos hx, if_neg (by omega)]
      · rw [if_neg hx, if_neg hx]

theorem inc_erase {l : List α} (h : Inc f l) (i : Nat) : Inc f (l.eraseIdx i) := List.Pairwise.sublist (List.eraseIdx_sublist l i) h
theorem inc_modify {g : α → α} (hg : ∀ a, f (g a) = f a) : ∀ {l : List α} (i : Nat), Inc f l → Inc f (l.modify i g)
  | [], i, h => by simpa using h
  | z :: zs, 0, h => by
    have h' := List.pairwise_cons.1 h
    rw [List.modify_zero_cons]
    exact List.pairwise_cons.2 ⟨fun a ha => by rw [hg]; exact h'.1 a ha, h'.2⟩
  | z :: zs, i + 1, h => by
    have h' := List.pairwise_cons.1 h
    rw [List.modify_succ_cons]
    refine List.pairwise_cons.2 ⟨fun a ha => ?_, inc_modify hg i h'.2⟩
    obtain ⟨b, hb, e⟩ : ∃ b ∈ zs, f a = f b := by
      obtain ⟨k, hk, rfl⟩ := List.getElem_of_mem ha
      rw [List.getElem_modify]
      rw [List.length_modify] at hk
      refine ⟨zs[k], List.getElem_mem hk, ?_⟩
      split
      · exact hg _
      · rfl
    rw [e]; exact h'.1 b hb
/-- The lowest free number: what stands ahead is lower, what follows is higher. -/
theorem frN_spec : ∀ {l : List α} {k : Nat}, Inc f l → (∀ a ∈ l, (k : Int) ≤ f a) →
    (∀ a ∈ l.take (frN f l k), f a < ((k + frN f l k : Nat) : Int)) ∧ (∀ a ∈ l.drop (frN f l k), ((k + frN f l k : Nat) : Int) < f a)
  | [], k, _, _ => ⟨fun a h => by simp at h, fun a h => by simp at h⟩
  | y :: ys, k, hs, hk => by
    have hs' := List.pairwise_cons.1 hs
    have hy := hk y (by simp)
    unfold frN
    split
    · rename_i e
      obtain ⟨h1, h2⟩ := frN_spec (l := ys) (k := k + 1) hs'.2 (fun a ha => by have := hs'.1 a ha; omega)
      rw [List.take_succ_cons, List.drop_succ_cons]
      refine ⟨fun a ha => ?_, fun a ha => ?_⟩
      · rcases List.mem_cons.1 ha with rfl | ha
        · omega
        · have := h1 a ha; omega
      · have := h2 a ha; omega
    · rename_i e
      refine ⟨fun a ha => by simp at ha, fun a ha => ?_⟩
      rcases List.mem_cons.1 ha with rfl | ha
      · omega
      · have := hs'.1 a ha; omega
theorem frN_fresh {l : List α} (hs : Inc f l) (h0 : ∀ a ∈ l, 0 ≤ f a) : ∀ a ∈ l, f a ≠ ((frN f l 0 : Nat) : Int) := by
  obtain ⟨h1, h2⟩ := frN_spec (k := 0) hs (by simpa using h0)
  intro a ha
  rw [← List.take_append_drop (frN f l 0) l, List.mem_append] at ha
  rcases ha with ha | ha
  · have := h1 a ha; omega
  · have := h2 a ha; omega
theorem inc_ins {l : List α} (hs : Inc f l) (h0 : ∀ a ∈ l, 0 ≤ f a) {x : α} (hx : f x = ((frN f l 0 : Nat) : Int)) : Inc f (insAt l (frN f l 0) x) := by
  obtain ⟨h1, h2⟩ := frN_spec (k := 0) hs (by simpa using h0)
  rw [Nat.zero_add] at h1 h2
  unfold Inc insAt
  have hs' : Inc f (l.take (frN f l 0) ++ l.drop (frN f l 0)) := by rw [List.take_append_drop]; exact hs
  have hp := List.pairwise_append.1 hs'
  refine List.pairwise_append.2 ⟨hp.1, List.pairwise_cons.2 ⟨fun a ha => by rw [hx]; exact h2 a ha, hp.2.1⟩, fun a ha b hb => ?_⟩
  rcases List.mem_cons.1 hb with rfl | hb
  · rw [hx]; exact h1 a ha
  · exact hp.2.2 a ha b hb
theorem modify_mem {g : α → α} {l : List α} {i : Nat} {b : α} (h : b ∈ l.modify i g) : ∃ a ∈ l, b = a ∨ b = g a := by
  obtain ⟨k, hk, rfl⟩ := List.getElem_of_mem h
  rw [List.getElem_modify]
  rw [List.length_modify] at hk
  refine ⟨l[k], List.getElem_mem hk, ?_⟩
  split
  · exact .inr rfl
  · exact .inl rfl
end lists

/-- A good list of volumes or snapshots. -/
structure GoodL (m : Nat) (l : List AP) : Prop where
  inc : Inc AP.id l
  id0 : ∀ a ∈ l, 0 ≤ a.id
  idm : ∀ a ∈ l, a.id < m
  ten : ∀ a ∈ l, 0 ≤ a.ten ∧ a.ten < 16
  fr : ∀ a ∈ l, 0 ≤ a.from_ ∧ a.from_ < 64
  srt : ∀ a ∈ l, Srt a.L
  inb : ∀ a ∈ l, InB a.L
  chk : ∀ a ∈ l, ∀ x ∈ a.L, 0 ≤ x.2 ∧ x.2 < 2147483648
  len : l.length ≤ m
/-- A good space. -/
structure Good (A : Asp) : Prop where
  v : GoodL 64 A.vs
  s : GoodL 256 A.ss
structure GoodE (L : Ents) : Prop where
  srt : Srt L
  inb : InB L
  chk : ∀ x ∈ L, 0 ≤ x.2 ∧ x.2 < 2147483648
theorem GoodE.nil : GoodE [] := ⟨List.Pairwise.nil, fun _ h => by simp at h, fun _ h => by simp at h⟩
theorem GoodL.ents {m : Nat} {l : List AP} (h : GoodL m l) {a : AP} (ha : a ∈ l) : GoodE a.L := ⟨h.srt a ha, h.inb a ha, h.chk a ha⟩
theorem GoodL.nil (m : Nat) : GoodL m [] := ⟨List.Pairwise.nil, by simp, by simp, by simp, by simp, by simp, by simp, by simp, by simp⟩
theorem Good.nil : Good ⟨[], []⟩ := ⟨GoodL.nil _, GoodL.nil _⟩
theorem GoodL.ins {m : Nat} {l : List AP} (h : GoodL m l) (hl : l.length < m) {t u : Int} {L : Ents} (ht : 0 ≤ t ∧ t < 16) (hu : 0 ≤ u ∧ u < 64) (hL : GoodE L) :
    GoodL m (insAt l (frN AP.id l 0) ⟨(frN AP.id l 0 : Nat), t, u, L⟩) := by
  have hle := frN_le AP.id l 0
  refine ⟨inc_ins h.inc h.id0 rfl, fun a ha => ?_, fun a ha => ?_, fun a ha => ?_, fun a ha => ?_, fun a ha => ?_, fun a ha => ?_, fun a ha => ?_, by rw [insAt_len]; omega⟩
  all_goals rcases insAt_mem.1 ha with rfl | ha
  · show (0 : Int) ≤ (frN AP.id l 0 : Nat); omega
  · exact h.id0 a ha
  · show ((frN AP.id l 0 : Nat) : Int) < m; omega
  · exact h.idm a ha
  · exact ht
  · exact h.ten a ha
  · exact hu
  · exact h.fr a ha
  · exact hL.srt
  · exact h.srt a ha
  · exact hL.inb
  · exact h.inb a ha
  · exact hL.chk
  · exact h.chk a ha
theorem GoodL.erase {m : Nat} {l : List AP} (h : GoodL m l) (i : Nat) : GoodL m (l.eraseIdx i) := by
  have hm : ∀ a, a ∈ l.eraseIdx i → a ∈ l := fun a ha => (List.eraseIdx_sublist l i).subset ha
  refine ⟨inc_erase h.inc i, fun a ha => h.id0 a (hm a ha), fun a ha => h.idm a (hm a ha), fun a ha => h.ten a (hm a ha), fun a ha => h.fr a (hm a ha), fun a ha => h.srt a (hm a ha), fun a ha => h.inb a (hm a ha), fun a ha => h.chk a (hm a ha), ?_⟩
  have := (List.eraseIdx_sublist l i).length_le
  have := h.len
  omega
theorem GoodL.modify {m : Nat} {l : List AP} (h : GoodL m l) (i : Nat) {g : AP → AP} (hg : ∀ a, (g a).id = a.id) (ht : ∀ a, 0 ≤ a.ten ∧ a.ten < 16 → 0 ≤ (g a).ten ∧ (g a).ten < 16) (hf : ∀ a, (g a).from_ = a.from_) (hL : ∀ a, GoodE a.L → GoodE (g a).L) : GoodL m (l.modify i g) := by
  refine ⟨inc_modify hg i h.inc, fun b hb => ?_, fun b hb => ?_, fun b hb => ?_, fun b hb => ?_, fun b hb => ?_, fun b hb => ?_, fun b hb => ?_, by rw [List.length_modify]; exact h.len⟩
  all_goals obtain ⟨a, ha, rfl | rfl⟩ := modify_mem hb
  · exact h.id0 _ ha
  · rw [hg]; exact h.id0 a ha
  · exact h.idm _ ha
  · rw [hg]; exact h.idm a ha
  · exact h.ten _ ha
  · exact ht a (h.ten a ha)
  · exact h.fr _ ha
  · rw [hf]; exact h.fr a ha
  · exact h.srt _ ha
  · exact (hL a (h.ents ha)).srt
  · exact h.inb _ ha
  · exact (hL a (h.ents ha)).inb
  · exact h.chk _ ha
  · exact (hL a (h.ents ha)).chk
theorem GoodE.set {L : Ents} (h : GoodE L) {b c : Int} (hb : 0 ≤ b ∧ b < 4096) (hc : 0 ≤ c ∧ c < 2147483648) : GoodE (rset L b c) := by
  rw [rset_eq L b c (by omega)]
  refine ⟨insE_srt h.srt, fun x hx => ?_, fun x hx => ?_⟩
  all_goals rcases insE_mem hx with rfl | hx
  · exact hb
  · exact h.inb x hx
  · exact hc
  · exact h.chk x hx
theorem GoodE.clr {L : Ents} (h : GoodE L) (b : Int) : GoodE (rclr L b) := by
  rw [rclr_eq]
  exact ⟨delE_srt h.srt, fun x hx => h.inb x (delE_mem hx), fun x hx => h.chk x (delE_mem hx)⟩

theorem Good.create {A : Asp} (h : Good A) {t : Int} {L : Ents} (hL : GoodE L) : Good (A.create t L).1 := by
  unfold Asp.create
  split
  · split
    · exact ⟨h.v.ins (by assumption) (by assumption) (by omega) hL, h.s⟩
    · exact h
  · exact h
theorem Good.change {A : Asp} (h : Good A) {x : Int} {ok : Bool} {g : AP → AP} (hg : ∀ a, (g a).id = a.id) (ht : ok = true → ∀ a, 0 ≤ a.ten ∧ a.ten < 16 → 0 ≤ (g a).ten ∧ (g a).ten < 16) (hf : ∀ a, (g a).from_ = a.from_) (hL : ok = true → ∀ a, GoodE a.L → GoodE (g a).L) : Good (A.change x ok g).1 := by
  unfold Asp.change
  split
  · split
    · rename_i hok
      exact ⟨h.v.modify _ hg (ht hok) hf (hL hok), h.s⟩
    · exact h
  · exact h
theorem Good.step {A : Asp} (h : Good A) (o : Opn) : Good (A.step o).1 := by
  unfold Asp.step
  split
  · exact h.create GoodE.nil
  split
  · unfold Asp.delete
    split
    · exact ⟨h.v.erase _, h.s⟩
    · exact h
  split
  · refine h.change (fun _ => rfl) (fun hok a _ => ?_) (fun _ => rfl) (fun _ a ha => ha)
    simpa [tenB, AP.give] using hok
  split
  · refine h.change (fun _ => rfl) (fun _ a ha => ha) (fun _ => rfl) (fun hok a ha => ?_)
    simp only [blkB, chkB, Bool.and_eq_true, decide_eq_true_eq] at hok
    exact ha.set hok.1 hok.2
  split
  · exact h.change (fun _ => rfl) (fun _ a ha => ha) (fun _ => rfl) (fun _ a ha => ha.clr _)
  split
  · unfold Asp.snapshot
    split
    · exact h
    · rename_i v hv
      have hm := List.mem_of_getElem? hv
      split
      · refine ⟨h.v, h.s.ins (by assumption) (h.v.ten v hm) ?_ (h.v.ents hm)⟩
        have h1 := ixN_get hv
        have h2 := h.v.id0 v hm
        have h3 := h.v.idm v hm
        constructor
        · omega
        · show o.a < 64; have : ((64 : Nat) : Int) = 64 := rfl; omega
      · exact h
  split
  · unfold Asp.drop
    split
    · exact ⟨h.v, h.s.erase _⟩
    · exact h
  split
  · unfold Asp.clone
    split
    · exact h
    · rename_i p hp
      exact h.create (h.s.ents (List.mem_of_getElem? hp))
  split
  · unfold Asp.restore
    split
    · exact h
    · rename_i p hp
      exact h.change (fun _ => rfl) (fun _ a ha => ha) (fun _ => rfl) (fun _ a _ => show GoodE p.L from h.s.ents (List.mem_of_getElem? hp))
  exact h
theorem Good.run {A : Asp} (h : Good A) : ∀ (os : List Opn), Good (A.run os)
  | [] => h
  | o :: os => by
    show Good ((A.step o).1.run os)
    exact (h.step o).run os
end Go.Proofs.Ytdaagmhkhfcmdaa
