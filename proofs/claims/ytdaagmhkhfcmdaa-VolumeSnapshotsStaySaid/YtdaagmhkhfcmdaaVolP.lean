/- What an operation leaves as it was: no program in sight. -/
import Derived.Test.YtdaagmhkhfcmdaaVolN
namespace Go.Proofs.Ytdaagmhkhfcmdaa
set_option maxHeartbeats 400000

theorem got_eq (A : Asp) (x blk : Int) : A.got x blk = match lk AP.id A.vs x with | some s => atE s.L blk | none => (0, 12) := rfl
theorem look_eq (A : Asp) (x blk : Int) : A.look x blk = match lk AP.id A.ss x with | some s => atE s.L blk | none => (0, 12) := rfl

theorem change_some {A : Asp} {x : Int} {v : AP} {g : AP → AP} (h : lk AP.id A.vs x = some v) : A.change x true g = (⟨A.vs.modify (ixN AP.id A.vs x) g, A.ss⟩, 0, 0) := by
  unfold Asp.change
  rw [if_pos (lk_lt.2 ⟨v, h⟩)]
  rfl
theorem change_none {A : Asp} {x : Int} {ok : Bool} {g : AP → AP} (h : lk AP.id A.vs x = none) : A.change x ok g = (A, 0, 12) := by
  unfold Asp.change
  rw [if_neg (fun hl => by obtain ⟨v, hv⟩ := lk_lt.1 hl; rw [h] at hv; cases hv)]
theorem change_bad {A : Asp} {x : Int} {v : AP} {g : AP → AP} (h : lk AP.id A.vs x = some v) : A.change x false g = (A, 0, 1) := by
  unfold Asp.change
  rw [if_pos (lk_lt.2 ⟨v, h⟩)]
  rfl
theorem lk_change {A : Asp} {x y : Int} {v : AP} {g : AP → AP} (hg : ∀ a, (g a).id = a.id) (h : lk AP.id A.vs x = some v) :
    lk AP.id (A.change x true g).1.vs y = if y = x then some (g v) else lk AP.id A.vs y := by
  rw [change_some h, lk_modify hg]
  split
  · rename_i e; subst e; rw [h]; rfl
  · rfl
theorem ss_change (A : Asp) (x : Int) (ok : Bool) (g : AP → AP) : (A.change x ok g).1.ss = A.ss := by
  unfold Asp.change
  split
  · split <;> rfl
  · rfl
theorem ss_create (A : Asp) (t : Int) (L : Ents) : (A.create t L).1.ss = A.ss := by
  unfold Asp.create
  split
  · split <;> rfl
  · rfl
theorem lk_create {A : Asp} (h : Good A) {x : Int} {v : AP} (hv : lk AP.id A.vs x = some v) (t : Int) (L : Ents) : lk AP.id (A.create t L).1.vs x = some v := by
  unfold Asp.create
  split
  · split
    · show lk AP.id (insAt _ _ _) x = _
      rw [lk_ins]
      · exact hv
      · have := frN_fresh h.v.inc h.v.id0 v (lk_some hv).2
        rw [← (lk_some hv).1]
        exact this
    · exact hv
  · exact hv
theorem create_ok {A : Asp} (h : Good A) {t : Int} {L : Ents} (hok : (A.create t L).2.2 = 0) : lk AP.id (A.create t L).1.vs (A.create t L).2.1 = some ⟨(A.create t L).2.1, t, 0, L⟩ := by
  unfold Asp.create at hok ⊢
  split at hok
  · rename_i h1
    rw [if_pos h1]
    split at hok
    · rename_i h2
      rw [if_pos h2]
      exact lk_ins_self fun b hb => frN_fresh h.v.inc h.v.id0 b hb
    · cases hok
  · cases hok
theorem snapshot_some {A : Asp} {x : Int} {v : AP} (hv : lk AP.id A.vs x = some v) : A.snapshot x = if A.ss.length < 256 then (⟨A.vs, insAt A.ss (frN AP.id A.ss 0) ⟨(frN AP.id A.ss 0 : Nat), v.ten, x, v.L⟩⟩, ((frN AP.id A.ss 0 : Nat) : Int), (0 : Int)) else (A, 0, 2) := by
  unfold lk at hv
  unfold Asp.snapshot
  rw [hv]
theorem snapshot_none {A : Asp} {x : Int} (hv : lk AP.id A.vs x = none) : A.snapshot x = (A, 0, 12) := by
  unfold lk at hv
  unfold Asp.snapshot
  rw [hv]
theorem clone_some {A : Asp} {x t : Int} {v : AP} (hv : lk AP.id A.ss x = some v) : A.clone x t = A.create t v.L := by
  unfold lk at hv
  unfold Asp.clone
  rw [hv]
theorem clone_none {A : Asp} {x t : Int} (hv : lk AP.id A.ss x = none) : A.clone x t = (A, 0, 12) := by
  unfold lk at hv
  unfold Asp.clone
  rw [hv]
theorem restore_some {A : Asp} {x y : Int} {v : AP} (hv : lk AP.id A.ss y = some v) : A.restore x y = A.change x true (AP.maps v.L) := by
  unfold lk at hv
  unfold Asp.restore
  rw [hv]
theorem restore_none {A : Asp} {x y : Int} (hv : lk AP.id A.ss y = none) : A.restore x y = (A, 0, 12) := by
  unfold lk at hv
  unfold Asp.restore
  rw [hv]
theorem vs_snapshot (A : Asp) (x : Int) : (A.snapshot x).1.vs = A.vs := by
  cases h : lk AP.id A.vs x with
  | none => rw [snapshot_none h]
  | some v => rw [snapshot_some h]; split <;> rfl
theorem lk_snapshot {A : Asp} (h : Good A) {x y : Int} {p : AP} (hp : lk AP.id A.ss y = some p) : lk AP.id (A.snapshot x).1.ss y = some p := by
  cases hv : lk AP.id A.vs x with
  | none => rw [snapshot_none hv]; exact hp
  | some v =>
    rw [snapshot_some hv]
    split
    · show lk AP.id (insAt _ _ _) y = _
      rw [lk_ins]
      · exact hp
      · have := frN_fresh h.s.inc h.s.id0 p (lk_some hp).2
        rw [← (lk_some hp).1]
        exact this
    · exact hp
theorem snapshot_ok {A : Asp} (h : Good A) {x : Int} (hok : (A.snapshot x).2.2 = 0) : ∃ v, lk AP.id A.vs x = some v ∧ lk AP.id (A.snapshot x).1.ss (A.snapshot x).2.1 = some ⟨(A.snapshot x).2.1, v.ten, x, v.L⟩ := by
  cases hv : lk AP.id A.vs x with
  | none => rw [snapshot_none hv] at hok; cases hok
  | some v =>
    refine ⟨v, rfl, ?_⟩
    rw [snapshot_some hv] at hok ⊢
    split at hok
    · rename_i h1
      rw [if_pos h1]
      exact lk_ins_self fun b hb => frN_fresh h.s.inc h.s.id0 b hb
    · cases hok

/-- An operation on one volume, or on a snapshot, leaves another volume as it was. -/
theorem step_other {A : Asp} (h : Good A) {x : Int} {v : AP} (hv : lk AP.id A.vs x = some v) {o : Opn} (ho : ¬ (o.a = x ∧ (o.kind = 2 ∨ o.kind = 3 ∨ o.kind = 4 ∨ o.kind = 5 ∨ o.kind = 9))) : lk AP.id (A.step o).1.vs x = some v := by
  have key : ∀ ok (g : AP → AP), (∀ a, (g a).id = a.id) → o.a ≠ x → lk AP.id (A.change o.a ok g).1.vs x = some v := by
    intro ok g hg hne
    cases hy : lk AP.id A.vs o.a with
    | none => rw [change_none hy]; exact hv
    | some y =>
      cases ok with
      | false => rw [change_bad hy]; exact hv
      | true => rw [lk_change hg hy, if_neg (fun e => hne e.symm)]; exact hv
  unfold Asp.step
  split
  · exact lk_create h hv _ _
  split
  · rename_i h1 h2
    unfold Asp.delete
    split
    · show lk AP.id (A.vs.eraseIdx _) x = _
      rw [lk_erase (fun e => ho ⟨e.symm, .inl h2⟩)]; exact hv
    · exact hv
  split
  · rename_i h2; exact key _ _ (fun _ => rfl) fun e => ho ⟨e, .inr (.inl h2)⟩
  split
  · rename_i h2; exact key _ _ (fun _ => rfl) fun e => ho ⟨e, .inr (.inr (.inl h2))⟩
  split
  · rename_i h2; exact key _ _ (fun _ => rfl) fun e => ho ⟨e, .inr (.inr (.inr (.inl h2)))⟩
  split
  · rw [vs_snapshot]; exact hv
  split
  · unfold Asp.drop
    split
    · exact hv
    · exact hv
  split
  · cases hp : lk AP.id A.ss o.a with
    | none => rw [clone_none hp]; exact hv
    | some p => rw [clone_some hp]; exact lk_create h hv _ _
  split
  · rename_i h2
    cases hp : lk AP.id A.ss o.b with
    | none => rw [restore_none hp]; exact hv
    | some p => rw [restore_some hp]; exact key _ _ (fun _ => rfl) fun e => ho ⟨e, .inr (.inr (.inr (.inr h2)))⟩
  exact hv
/-- An operation that does not drop a snapshot leaves it as it was. -/
theorem step_snap {A : Asp} (h : Good A) {y : Int} {p : AP} (hp : lk AP.id A.ss y = some p) {o : Opn} (ho : ¬ (o.kind = 7 ∧ o.a = y)) : lk AP.id (A.step o).1.ss y = some p := by
  unfold Asp.step
  split
  · rw [ss_create]; exact hp
  split
  · unfold Asp.delete
    split
    · exact hp
    · exact hp
  split
  · rw [ss_change]; exact hp
  split
  · rw [ss_change]; exact hp
  split
  · rw [ss_change]; exact hp
  split
  · exact lk_snapshot h hp
  split
  · rename_i h2
    unfold Asp.drop
    split
    · show lk AP.id (A.ss.eraseIdx _) y = _
      rw [lk_erase (fun e => ho ⟨h2, e.symm⟩)]; exact hp
    · exact hp
  split
  · cases hq : lk AP.id A.ss o.a with
    | none => rw [clone_none hq]; exact hp
    | some p => rw [clone_some hq, ss_create]; exact hp
  split
  · cases hq : lk AP.id A.ss o.b with
    | none => rw [restore_none hq]; exact hp
    | some q => rw [restore_some hq, ss_change]; exact hp
  exact hp
/-- The last write. -/
theorem atE_set {L : Ents} (hs : Srt L) {b c z : Int} (hb : 0 ≤ b ∧ b < 4096) : atE (rset L b c) z = if z = b then (c, 0) else atE L z := by
  unfold atE
  rw [rset_get hs hb]
  split
  · split <;> rfl
  · rename_i h
    rw [if_neg (fun e => h (by omega))]
theorem atE_clr {L : Ents} (hs : Srt L) {b z : Int} (hb : 0 ≤ b ∧ b < 4096) : atE (rclr L b) z = if z = b then (0, 12) else atE L z := by
  unfold atE
  rw [rclr_get hs]
  split
  · split <;> rfl
  · rename_i h
    rw [if_neg (fun e => h (by omega))]
end Go.Proofs.Ytdaagmhkhfcmdaa
