/- A range over a function: the iterator's contract over frozen memory, and the law: no program in sight. -/
import Derived.RangeFuncIn
import Derived.RangeFuncRecord
import Derived.RangeFuncSeq
import Derived.RangeFuncLeaves
import Derived.RangeFuncBound
import Derived.RangeFuncCalls
import Derived.Shelf.Abstract
import Derived.Shelf.RegionOpen
import Derived.OwnWalkIn
import Derived.TacticsInMore
import Derived.LoopNIn
import Derived.LoopIn
import Derived.Test.YtdaagmhkhfcmdaaOps
namespace Go.Proofs.Ytdaagmhkhfcmdaa
open Go Go.RowKit Go.Shelf

def Ext (K K' : Fz) : Prop := ∀ b o, K b = some o → K' b = some o
theorem Ext.refl (K : Fz) : Ext K K := fun _ _ h => h
theorem Ext.trans {A B C : Fz} (h : Ext A B) (k : Ext B C) : Ext A C := fun b o hb => k b o (h b o hb)
theorem Ext.of_le {K K' : Fz} {W : World} (hi : K.In W) (hl : K.Le W.heap.size K') : Ext K K' := fun _ _ hk => hl.keep hi (Nat.le_refl _) hk

theorem Tr.ext {T : Nat} {K K' : Fz} (h : Ext K K') : ∀ {t : PT}, Tr T K t → Tr T K' t := by
  intro t
  induction t with
  | nil => exact id
  | node b h' k c ih => exact fun ⟨h1, h2, h3⟩ => ⟨h _ _ h1, h2, fun i => ih i (h3 i)⟩
theorem Ext.of_st {K0 K : Fz} {w W : World} (hK : K0.In w) (s : St K0 w K W) : Ext K0 K := Ext.of_le hK s.le

/-- The world has grown: no plain cells and nothing below B has turned. -/
structure Ex (B : Nat) (K : Fz) (W : World) (K' : Fz) (W' : World) : Prop where
  os : W'.os = W.os
  tape : W'.tape = W.tape
  output : W'.output = W.output
  size : W.heap.size ≤ W'.heap.size
  plain : ∀ (b : Nat) (o : Obj), W.heap[b]? = some o → Plain o → W'.heap[b]? = some o
  low : ∀ b : Nat, b < B → W'.heap[b]? = W.heap[b]?
  inn : K'.In W'
  same : K.Le W.heap.size K'

theorem Ex.of_grow {B : Nat} {K K' : Fz} {W W' : World} (hB : B ≤ W.heap.size) (hb : Below W.heap.size W W') (hi : K'.In W') (hl : K.Le W.heap.size K') : Ex B K W K' W' :=
  ⟨hb.os, hb.tape, hb.output, hb.size, fun b o h _ => (hb.block b (lt_of_at h)).trans h, fun b h => hb.block b (by omega), hi, hl⟩
theorem Ex.of_put {B l : Nat} {K : Fz} {W : World} {o o' : Obj} (hi : K.In W) (hl : B ≤ l) (ho : W.heap[l]? = some o) (hp : ¬ Plain o) : Ex B K W K (W.putObj l o') := by
  have hother : ∀ (b : Nat) (o : Obj), W.heap[b]? = some o → Plain o → (W.putObj l o').heap[b]? = some o := fun b o2 h h2 =>
    (World.putObj_heap_other (by rintro rfl; rw [ho] at h; cases h; exact hp h2)).trans h
  exact ⟨rfl, rfl, rfl, by simp, hother, fun b h => World.putObj_heap_other (by omega), fun b o2 hk => ⟨hother b o2 (hi.get hk) (hi b o2 hk).2, (hi b o2 hk).2⟩, Fz.Le.refl _ _⟩
theorem St.ex {K0 K K' : Fz} {w W W' : World} {B : Nat} (s : St K0 w K W) (e : Ex B K W K' W') (hB : w.heap.size ≤ B) : St K0 w K' W' :=
  ⟨e.inn, s.le.trans e.same s.size, s.below.trans ⟨e.os, e.tape, e.output, e.size, fun b h => e.low b (by omega)⟩⟩
theorem Own.ex {K K' : Fz} {w W W' : World} {B g : Nat} {cs : Array Value} {t : TypeId} {fr : Nat × Nat} (h : Own w K W g (.cells cs t fr)) (e : Ex B K W K' W') : Own w K' W' g (.cells cs t fr) :=
  ⟨e.plain g _ h.at_ trivial, (e.same g h.lt).trans h.none_, h.base⟩

/-! ### A region of a round, walked as anywhere -/
def noDefer (l : List Oper) : Bool := l.all fun o => match o.op with | .defer _ => false | _ => true

theorem Oper.wpIn_round {P : Program} {o : Oper} {a : Act} {w : World} {N : Act → World → Prop} {Q : Exit → Act → World → Prop} {l : Nat} (hd : ∀ c, o.op ≠ .defer c) (h : o.wp P a w N Q) :
    o.wpIn (Fence.wide.inRound l) 0 P a w N Q := by
  refine ⟨fun _ _ => trivial, ?_⟩
  rw [Oper.semAt_eq _ _ _ hd]
  unfold Oper.wp at h
  generalize (execOp a.eval o).run P w = r at h
  cases r with
  | halt x w' => cases x <;> first | exact h | exact h.elim
  | ok x w' =>
    cases x with
    | value v => exact h
    | skip => exact h
    | defer d => exact h
    | enter f args => exact ⟨fun h' => by simp [Fence.wide, Fence.inRound] at h', CallsIn.inRound l (callsIn_wide.2 h)⟩
    | row r args =>
      refine ⟨fun h' => by simp [Fence.wide, Fence.inRound] at h', fun c cs _ => ?_⟩
      obtain ⟨v, w', hR, hs⟩ := h c cs
      exact ⟨v, w', hR, stepsIn_wide.2 hs⟩
    | _ => exact h.elim

theorem wpListIn_round {P : Program} {ops : Array Oper} {Q : Exit → Act → World → Prop} {l : Nat} (hno : ¬ LetsOut Q) :
    ∀ (L : List Oper), noDefer L = true → ∀ (a : Act) (w : World), wpList P ops Q L a w → wpListIn (Fence.wide.inRound l) 0 P ops Q L a w
  | [], _, a, w, h => h
  | o :: L, hd, a, w, h => by
    have hd1 : ∀ c, o.op ≠ .defer c := by
      intro c e
      simp [noDefer, e] at hd
    have hd2 : noDefer L = true := by
      simp only [noDefer, List.all_cons, Bool.and_eq_true] at hd ⊢
      exact hd.2
    unfold wpList at h
    unfold wpListIn
    split at h
    · rename_i hw
      rw [if_pos hw]
      rcases h with h | ⟨_, h⟩
      · exact Oper.wpIn_round hd1 (Oper.wp_mono (fun a w => wpListIn_round hno L hd2 a w) h)
      · exact (hno h).elim
    · rename_i hw
      rw [if_neg hw]
      exact ⟨fun _ _ => trivial, wpListIn_round hno L hd2 _ _ h⟩

theorem region_round {P : Program} {id : Nat} {L : List Oper} {Q : Exit → Act → World → Prop} {a : Act} {w : World} {l : Nat} (hno : ¬ LetsOut Q) (hd : noDefer L = true) (h : wpList P L.toArray Q L a w) :
    (Code.region id L.toArray false).wpIn (Fence.wide.inRound l) 0 P Q a w := wpIn_region_lit (wpListIn_round hno L hd a w h)

/-- The iterator's contract: it hands out xs, in order; what is frozen it may read between two rounds. -/
def Iter {α : Type} (P : Program) (gf : Nat) (lb : Array Value) (encs : α → Array Value) (xs : List α) (K0 : Fz) : Prop :=
  ∀ (l : Nat) (J : List α → Fz → World → Prop) (Jx : World → Prop) (K : Fz) (W : World), Ext K0 K →
    (∀ pre K W, J pre K W → K.In W) →
    (∀ pre K W K' W', J pre K W → Below W.heap.size W W' → K'.In W' → K.Le W.heap.size K' → J pre K' W') →
    (∀ pre x rest K W, pre ++ x :: rest = xs → J pre K W → YieldAt Fence.wide 0 P l (encs x) W fun e W' =>
      (e = .returned (.bool true) ∧ ∃ K', Ext K K' ∧ J (pre ++ [x]) K' W') ∨ (e = .returned (.bool false) ∧ Jx W')) →
    J [] K W →
    CallsIn Fence.wide 0 P gf (#[.func (.yield l) #[] #[]] ++ lb) W fun e W' => (∃ v, e = .returned v) ∧ ((∃ K', Ext K K' ∧ J xs K' W') ∨ Jx W')

/-- How a round may end. -/
def roundEnd {α : Type} (I : List α → Fz → World → Prop) (Ix : Code → Fz → World → Prop) (K : Fz) (l D : Nat) (r : Loop) (pre : List α) : Exit → Act → World → Prop
  | .normal, _, W => (∃ K', Ext K K' ∧ I pre K' W) ∧ W.heap[l]? = some (.loop r) ∧ W.heap[D]? = some (.deferred (some []))
  | .ret, _, W => (∃ K', Ix .ret K' W) ∧ W.heap[l]? = some (.loop r) ∧ W.heap[D]? = some (.deferred (some []))
  | .exit id, _, W => (∃ K', Ix (.exit id) K' W) ∧ W.heap[l]? = some (.loop r) ∧ W.heap[D]? = some (.deferred (some []))
  | _, _, _ => False

theorem not_plain_loop (r : Loop) : ¬ Plain (.loop r) := id
theorem not_plain_def (d : Option (List Deferred)) : ¬ Plain (.deferred d) := id

set_option maxHeartbeats 1000000 in
theorem range_ok {α : Type} {P : Program} {g : Operand} {ps : Array Tmp} {assign body : Code} {Q : Exit → Act → World → Prop} {a : Act} {w : World} {gf : Nat} {lb : Array Value} {encs : α → Array Value} {xs : List α} {K : Fz}
    (hg : a.eval g = .func (.func gf) #[] lb) (eg : ∀ args w, (callFunc gf args).run P w = .ok (.enter gf args) w) (hit : Iter P gf lb encs xs K) (hps : ∀ x, (encs x).size = ps.size)
    (I : List α → Fz → World → Prop) (Ix : Code → Fz → World → Prop)
    (hIn : ∀ pre K W, I pre K W → K.In W) (hI : ∀ pre K W K' W', I pre K W → Ex w.heap.size K W K' W' → I pre K' W')
    (hIxn : ∀ c K W, Ix c K W → K.In W) (hIx : ∀ c K W K' W', Ix c K W → Ex w.heap.size K W K' W' → Ix c K' W') (h0 : I [] K w) (a₁ : α → Act)
    (hassign : ∀ (l : Nat) (x : α) (W : World) (N : Act → World → Prop), N (a₁ x) W →
      assign.wpIn (Fence.wide.inRound l) 0 P (Exit.then N (fun _ _ _ => False)) { tmps := (ps.zip (encs x)).foldl (fun t (p, v) => t.setIfInBounds p v) a.tmps, defers := [] } W)
    (hbody : ∀ (l D : Nat) (r : Loop) (pre : List α) (x : α) (rest : List α) (K1 : Fz) (W : World), pre ++ x :: rest = xs → Ext K K1 → I pre K1 W → W.heap[l]? = some (.loop r) → W.heap[D]? = some (.deferred (some [])) → l ≠ D → w.heap.size ≤ l → w.heap.size ≤ D →
      body.wpIn (Fence.wide.inRound l) 0 P (roundEnd I Ix K1 l D r (pre ++ [x])) (a₁ x) W)
    (hdone : ∀ (D : Nat) (K1 : Fz) (W : World), w.heap.size ≤ D → Ext K K1 → I xs K1 W → W.heap[D]? = some (.deferred (some [])) → Q .normal { a with defers := { target := .collected D, args := #[] } :: a.defers } W)
    (hstop : ∀ (D : Nat) (c : Code) (K1 : Fz) (W : World), w.heap.size ≤ D → Ix c K1 W → W.heap[D]? = some (.deferred (some [])) → c.wpIn Fence.wide 0 P Q { a with defers := { target := .collected D, args := #[] } :: a.defers } W) :
    (Code.rangeFunc g ps assign body).wpIn Fence.wide 0 P Q a w := by
  refine wpIn_rangeFunc ?_
  intro fn hfn
  obtain ⟨rec, hrec⟩ : ∃ rec : LoopState → Option Code → Loop, rec = fun st pe => { state := st, pending := pe, fn, tmps := a.tmps, params := ps, assign, body, defers := w.heap.size } := ⟨_, rfl⟩
  obtain ⟨W1, hW1⟩ : ∃ W1, (w.alloc (.deferred (some []))).alloc (.loop (rec .ready none)) = W1 := ⟨_, rfl⟩
  have hL1 : W1.heap[w.heap.size + 1]? = some (.loop (rec .ready none)) := by
    rw [← hW1]; have := heap_alloc_new (w.alloc (.deferred (some []))) (.loop (rec .ready none)); rwa [World.size_alloc] at this
  have hK1 : W1.heap[w.heap.size]? = some (.deferred (some [])) := by
    rw [← hW1]; exact (Below.heap_alloc _ _ _ (by simp)).trans (heap_alloc_new w _)
  have hKin : K.In w := hIn _ _ _ h0
  have hb1 : Below w.heap.size w W1 := by rw [← hW1]; exact ((Below.refl _ w).alloc (Nat.le_refl _) _).alloc (by simp) _
  have hI1 : I [] K W1 := hI _ _ _ _ _ h0 (Ex.of_grow (Nat.le_refl _) hb1 (hKin.below hb1) (Fz.Le.refl _ _))
  refine ⟨w.heap.size + 1, [{ target := .collected w.heap.size, args := #[] }], W1, { target := .fn (.func gf) lb, args := #[.func (.yield (w.heap.size + 1)) #[] #[]] }, W1, gf,
    #[.func (.yield (w.heap.size + 1)) #[] #[]] ++ lb, W1, ?_, ?_, ?_, ?_, fun h => by simp [Fence.wide] at h, ?_⟩
  · rw [← hW1, hrec]; exact run_enterLoop_outer _ _ _ _ _
  · simp only [resolve, hg]
    simp [go_sem]
  · intro f' hf'; exact trivial
  · simp [invoke, go_sem, eg]
  · refine (hit (w.heap.size + 1)
      (fun pre K1 W => (I pre K1 W ∧ Ext K K1) ∧ W.heap[w.heap.size + 1]? = some (.loop (rec .ready none)) ∧ W.heap[w.heap.size]? = some (.deferred (some [])))
      (fun W => ∃ c K, Ix c K W ∧ W.heap[w.heap.size + 1]? = some (.loop (rec .done (some c))) ∧ W.heap[w.heap.size]? = some (.deferred (some [])))
      K W1 (Ext.refl K) (fun pre K W h => hIn _ _ _ h.1.1)
      (fun pre K W K' W' h hb hi hl => ⟨⟨hI _ _ _ _ _ h.1.1 (Ex.of_grow (by have := lt_of_at h.2.1; omega) hb hi hl), h.1.2.trans (Ext.of_le (hIn _ _ _ h.1.1) hl)⟩, below_at hb h.2.1 (lt_of_at h.2.1), below_at hb h.2.2 (lt_of_at h.2.2)⟩)
      ?_ ⟨⟨hI1, Ext.refl K⟩, hL1, hK1⟩).mono ?_
    · -- one round
      rintro pre x rest K1 W hx ⟨⟨hi, hs⟩, hl, hk⟩
      have hlt := lt_of_at hl
      have hy := run_yield (P := P) (args := encs x) hl (by rw [hrec]; exact hps x)
      rw [hrec] at hy
      refine ⟨fn, _, assign, body, hy, roundIn_of_wpIn hfn (hassign _ x W _ ⟨_, run_beginRound hl (by rw [hrec]), ?_⟩)⟩
      have hl2 : (W.putObj (w.heap.size + 1) (.loop { rec .ready none with state := .busy })).heap[w.heap.size + 1]? = some (.loop { rec .ready none with state := .busy }) := World.putObj_heap_same hlt
      have hk2 : (W.putObj (w.heap.size + 1) (.loop { rec .ready none with state := .busy })).heap[w.heap.size]? = some (.deferred (some [])) := (World.putObj_heap_other (by omega)).trans hk
      refine wpIn_mono (hbody _ w.heap.size { rec .ready none with state := .busy } pre x rest K1 _ hx hs (hI _ _ _ _ _ hi (Ex.of_put (hIn _ _ _ hi) (by omega) hl (not_plain_loop _))) hl2 hk2 (by omega) (by omega) (Nat.le_refl _)) ?_
      have fin : ∀ (jump : Option Code) (W3 : World), W3.heap[w.heap.size + 1]? = some (.loop { rec .ready none with state := .busy }) → W3.heap[w.heap.size]? = some (.deferred (some [])) →
          (Instr.endRound (w.heap.size + 1) jump).run P W3 = .ok (.bool jump.isNone) (W3.putObj (w.heap.size + 1) (.loop (rec (if jump.isNone then .ready else .done) jump))) ∧
          (W3.putObj (w.heap.size + 1) (.loop (rec (if jump.isNone then .ready else .done) jump))).heap[w.heap.size + 1]? = some (.loop (rec (if jump.isNone then .ready else .done) jump)) ∧
          (W3.putObj (w.heap.size + 1) (.loop (rec (if jump.isNone then .ready else .done) jump))).heap[w.heap.size]? = some (.deferred (some [])) := fun jump W3 hl3 hk3 => by
        have := run_endRound (P := P) jump hl3
        rw [hrec] at this ⊢
        exact ⟨this, World.putObj_heap_same (lt_of_at hl3), (World.putObj_heap_other (by omega)).trans hk3⟩
      rintro e a3 W3 hp
      cases e with
      | normal =>
        obtain ⟨⟨K2, hs2, hi3⟩, hl3, hk3⟩ := hp
        obtain ⟨hr, hl4, hk4⟩ := fin none W3 hl3 hk3
        exact ⟨_, _, hr, .inl ⟨rfl, K2, hs2, ⟨hI _ _ _ _ _ hi3 (Ex.of_put (hIn _ _ _ hi3) (by omega) hl3 (not_plain_loop _)), hs.trans hs2⟩, hl4, hk4⟩⟩
      | ret =>
        obtain ⟨⟨K2, hi3⟩, hl3, hk3⟩ := hp
        obtain ⟨hr, hl4, hk4⟩ := fin (some .ret) W3 hl3 hk3
        exact ⟨_, _, hr, .inr ⟨rfl, .ret, K2, hIx _ _ _ _ _ hi3 (Ex.of_put (hIxn _ _ _ hi3) (by omega) hl3 (not_plain_loop _)), hl4, hk4⟩⟩
      | exit id =>
        obtain ⟨⟨K2, hi3⟩, hl3, hk3⟩ := hp
        obtain ⟨hr, hl4, hk4⟩ := fin (some (.exit id)) W3 hl3 hk3
        exact ⟨_, _, hr, .inr ⟨rfl, .exit id, K2, hIx _ _ _ _ _ hi3 (Ex.of_put (hIxn _ _ _ hi3) (by omega) hl3 (not_plain_loop _)), hl4, hk4⟩⟩
      | goto t => exact hp.elim
      | panic ch => exact hp.elim
      | outgrown => exact hp.elim
    · -- behind the iterator
      rintro e W2 ⟨⟨v, rfl⟩, (⟨K', _, ⟨hi, hs⟩, hl, hk⟩ | ⟨c, K', hi, hl, hk⟩)⟩
      · refine ⟨none, _, by have := run_endLoop (P := P) hl (by rw [hrec]; simp); rw [hrec] at this; exact this, ?_⟩
        exact hdone _ K' _ (Nat.le_refl _) hs (hI _ _ _ _ _ hi (Ex.of_put (hIn _ _ _ hi) (by omega) hl (not_plain_loop _))) ((World.putObj_heap_other (by omega)).trans hk)
      · refine ⟨some c, _, by have := run_endLoop (P := P) hl (by rw [hrec]; simp); rw [hrec] at this; exact this, ?_⟩
        exact hstop _ c K' _ (Nat.le_refl _) (hIx _ _ _ _ _ hi (Ex.of_put (hIxn _ _ _ hi) (by omega) hl (not_plain_loop _))) ((World.putObj_heap_other (by omega)).trans hk)
end Go.Proofs.Ytdaagmhkhfcmdaa
