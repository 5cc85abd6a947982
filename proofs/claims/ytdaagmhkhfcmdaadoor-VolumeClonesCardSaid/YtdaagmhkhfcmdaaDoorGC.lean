/- A range over a function: the iterator's contract over frozen memory, and the law: no program in sight. -/
import Derived.RangeFuncIn
import Derived.RangeFuncRecord
import Derived.RangeFuncSeq
import Derived.RangeFuncLeaves
import Derived.RangeFuncBound
import Derived.RangeFuncCalls
import Derived.Shelf.Abstract
import Derived.Shelf.RegionOpen
import Derived.OwnWalkIn
import Derived.TacticsInMore
import Derived.LoopNIn
import Derived.LoopIn
import Derived.Test.YtdaagmhkhfcmdaaDoorGA
import Derived.Maps.AppendAt
import Derived.Laws.OwnMore
import Derived.Great.BuildSlice
namespace Go.Proofs.YtdaagmhkhfcmdaaDoor
open Go Go.RowKit Go.Shelf

def Ext (K K' : Fz) : Prop := ∀ b o, K b = some o → K' b = some o
theorem Ext.refl (K : Fz) : Ext K K := fun _ _ h => h
theorem Ext.trans {A B C : Fz} (h : Ext A B) (k : Ext B C) : Ext A C := fun b o hb => k b o (h b o hb)
theorem Ext.of_le {K K' : Fz} {W : World} (hi : K.In W) (hl : K.Le W.heap.size K') : Ext K K' := fun _ _ hk => hl.keep hi (Nat.le_refl _) hk

theorem Tr.ext {T : Nat} {K K' : Fz} (h : Ext K K') : ∀ {t : PT}, Tr T K t → Tr T K' t := by
  intro t
  induction t with
  | nil => exact id
  | node b h' k c ih => exact fun ⟨h1, h2, h3⟩ => ⟨h _ _ h1, h2, fun i => ih i (h3 i)⟩
theorem Ext.of_st {K0 K : Fz} {w W : World} (hK : K0.In w) (s : St K0 w K W) : Ext K0 K := Ext.of_le hK s.le

/-- The world has grown: no plain cells and nothing below B has turned. -/
structure Ex (B : Nat) (K : Fz) (W : World) (K' : Fz) (W' : World) : Prop where
  os : W'.os = W.os
  tape : W'.tape = W.tape
  output : W'.output = W.output
  size : W.heap.size ≤ W'.heap.size
  plain : ∀ (b : Nat) (o : Obj), W.heap[b]? = some o → Plain o → W'.heap[b]? = some o
  low : ∀ b : Nat, b < B → W'.heap[b]? = W.heap[b]?
  inn : K'.In W'
  same : K.Le W.heap.size K'

theorem Ex.of_grow {B : Nat} {K K' : Fz} {W W' : World} (hB : B ≤ W.heap.size) (hb : Below W.heap.size W W') (hi : K'.In W') (hl : K.Le W.heap.size K') : Ex B K W K' W' :=
  ⟨hb.os, hb.tape, hb.output, hb.size, fun b o h _ => (hb.block b (lt_of_at h)).trans h, fun b h => hb.block b (by omega), hi, hl⟩
theorem Ex.of_put {B l : Nat} {K : Fz} {W : World} {o o' : Obj} (hi : K.In W) (hl : B ≤ l) (ho : W.heap[l]? = some o) (hp : ¬ Plain o) : Ex B K W K (W.putObj l o') := by
  have hother : ∀ (b : Nat) (o : Obj), W.heap[b]? = some o → Plain o → (W.putObj l o').heap[b]? = some o := fun b o2 h h2 =>
    (World.putObj_heap_other (by rintro rfl; rw [ho] at h; cases h; exact hp h2)).trans h
  exact ⟨rfl, rfl, rfl, by simp, hother, fun b h => World.putObj_heap_other (by omega), fun b o2 hk => ⟨hother b o2 (hi.get hk) (hi b o2 hk).2, (hi b o2 hk).2⟩, Fz.Le.refl _ _⟩
theorem St.ex {K0 K K' : Fz} {w W W' : World} {B : Nat} (s : St K0 w K W) (e : Ex B K W K' W') (hB : w.heap.size ≤ B) : St K0 w K' W' :=
  ⟨e.inn, s.le.trans e.same s.size, s.below.trans ⟨e.os, e.tape, e.output, e.size, fun b h => e.low b (by omega)⟩⟩
theorem Own.ex {K K' : Fz} {w W W' : World} {B g : Nat} {cs : Array Value} {t : TypeId} {fr : Nat × Nat} (h : Own w K W g (.cells cs t fr)) (e : Ex B K W K' W') : Own w K' W' g (.cells cs t fr) :=
  ⟨e.plain g _ h.at_ trivial, (e.same g h.lt).trans h.none_, h.base⟩

/-! ### A region of a round, walked as anywhere -/
def noDefer (l : List Oper) : Bool := l.all fun o => match o.op with | .defer _ => false | _ => true

theorem Oper.wpIn_round {P : Program} {o : Oper} {a : Act} {w : World} {N : Act → World → Prop} {Q : Exit → Act → World → Prop} {l : Nat} (hd : ∀ c, o.op ≠ .defer c) (h : o.wp P a w N Q) :
    o.wpIn (Fence.wide.inRound l) 0 P a w N Q := by
  refine ⟨fun _ _ => trivial, ?_⟩
  rw [Oper.semAt_eq _ _ _ hd]
  unfold Oper.wp at h
  generalize (execOp a.eval o).run P w = r at h
  cases r with
  | halt x w' => cases x <;> first | exact h | exact h.elim
  | ok x w' =>
    cases x with
    | value v => exact h
    | skip => exact h
    | defer d => exact h
    | enter f args => exact ⟨fun h' => by simp [Fence.wide, Fence.inRound] at h', CallsIn.inRound l (callsIn_wide.2 h)⟩
    | row r args =>
      refine ⟨fun h' => by simp [Fence.wide, Fence.inRound] at h', fun c cs _ => ?_⟩
      obtain ⟨v, w', hR, hs⟩ := h c cs
      exact ⟨v, w', hR, stepsIn_wide.2 hs⟩
    | _ => exact h.elim

theorem wpListIn_round {P : Program} {ops : Array Oper} {Q : Exit → Act → World → Prop} {l : Nat} (hno : ¬ LetsOut Q) :
    ∀ (L : List Oper), noDefer L = true → ∀ (a : Act) (w : World), wpList P ops Q L a w → wpListIn (Fence.wide.inRound l) 0 P ops Q L a w
  | [], _, a, w, h => h
  | o :: L, hd, a, w, h => by
    have hd1 : ∀ c, o.op ≠ .defer c := by
      intro c e
      simp [noDefer, e] at hd
    have hd2 : noDefer L = true := by
      simp only [noDefer, List.all_cons, Bool.and_eq_true] at hd ⊢
      exact hd.2
    unfold wpList at h
    unfold wpListIn
    split at h
    · rename_i hw
      rw [if_pos hw]
      rcases h with h | ⟨_, h⟩
      · exact Oper.wpIn_round hd1 (Oper.wp_mono (fun a w => wpListIn_round hno L hd2 a w) h)
      · exact (hno h).elim
    · rename_i hw
      rw [if_neg hw]
      exact ⟨fun _ _ => trivial, wpListIn_round hno L hd2 _ _ h⟩

theorem region_round {P : Program} {id : Nat} {L : List Oper} {Q : Exit → Act → World → Prop} {a : Act} {w : World} {l : Nat} (hno : ¬ LetsOut Q) (hd : noDefer L = true) (h : wpList P L.toArray Q L a w) :
    (Code.region id L.toArray false).wpIn (Fence.wide.inRound l) 0 P Q a w := wpIn_region_lit (wpListIn_round hno L hd a w h)

/-- The iterator's contract: it hands out xs, in order; what is frozen it may read between two rounds. -/
def Iter {α : Type} (P : Program) (gf : Nat) (lb : Array Value) (encs : α → Array Value) (xs : List α) (K0 : Fz) : Prop :=
  ∀ (l : Nat) (J : List α → Fz → World → Prop) (Jx : World → Prop) (K : Fz) (W : World), Ext K0 K →
    (∀ pre K W, J pre K W → K.In W) →
    (∀ pre K W K' W', J pre K W → Below W.heap.size W W' → K'.In W' → K.Le W.heap.size K' → J pre K' W') →
    (∀ pre x rest K W, pre ++ x :: rest = xs → J pre K W → YieldAt Fence.wide 0 P l (encs x) W fun e W' =>
      (e = .returned (.bool true) ∧ ∃ K', Ext K K' ∧ J (pre ++ [x]) K' W') ∨ (e = .returned (.bool false) ∧ Jx W')) →
    J [] K W →
    CallsIn Fence.wide 0 P gf (#[.func (.yield l) #[] #[]] ++ lb) W fun e W' => (∃ v, e = .returned v) ∧ ((∃ K', Ext K K' ∧ J xs K' W') ∨ Jx W')

/-- How a round may end. -/
def roundEnd {α : Type} (I : List α → Fz → World → Prop) (Ix : Code → Fz → World → Prop) (K : Fz) (l D : Nat) (r : Loop) (pre : List α) : Exit → Act → World → Prop
  | .normal, _, W => (∃ K', Ext K K' ∧ I pre K' W) ∧ W.heap[l]? = some (.loop r) ∧ W.heap[D]? = some (.deferred (some []))
  | .ret, _, W => (∃ K', Ix .ret K' W) ∧ W.heap[l]? = some (.loop r) ∧ W.heap[D]? = some (.deferred (some []))
  | .exit id, _, W => (∃ K', Ix (.exit id) K' W) ∧ W.heap[l]? = some (.loop r) ∧ W.heap[D]? = some (.deferred (some []))
  | _, _, _ => False

theorem not_plain_loop (r : Loop) : ¬ Plain (.loop r) := id
theorem not_plain_def (d : Option (List Deferred)) : ¬ Plain (.deferred d) := id

set_option maxHeartbeats 1000000 in
theorem range_ok {α : Type} {P : Program} {g : Operand} {ps : Array Tmp} {assign body : Code} {Q : Exit → Act → World → Prop} {a : Act} {w : World} {gf : Nat} {lb : Array Value} {encs : α → Array Value} {xs : List α} {K : Fz}
    (hg : a.eval g = .func (.func gf) #[] lb) (eg : ∀ args w, (callFunc gf args).run P w = .ok (.enter gf args) w) (hit : Iter P gf lb encs xs K) (hps : ∀ x, (encs x).size = ps.size)
    (I : List α → Fz → World → Prop) (Ix : Code → Fz → World → Prop)
    (hIn : ∀ pre K W, I pre K W → K.In W) (hI : ∀ pre K W K' W', I pre K W → Ex w.heap.size K W K' W' → I pre K' W')
    (hIxn : ∀ c K W, Ix c K W → K.In W) (hIx : ∀ c K W K' W', Ix c K W → Ex w.heap.size K W K' W' → Ix c K' W') (h0 : I [] K w) (a₁ : α → Act)
    (hassign : ∀ (l : Nat) (x : α) (W : World) (N : Act → World → Prop), N (a₁ x) W →
      assign.wpIn (Fence.wide.inRound l) 0 P (Exit.then N (fun _ _ _ => False)) { tmps := (ps.zip (encs x)).foldl (fun t (p, v) => t.setIfInBounds p v) a.tmps, defers := [] } W)
    (hbody : ∀ (l D : Nat) (r : Loop) (pre : List α) (x : α) (rest : List α) (K1 : Fz) (W : World), pre ++ x :: rest = xs → Ext K K1 → I pre K1 W → W.heap[l]? = some (.loop r) → W.heap[D]? = some (.deferred (some [])) → l ≠ D → w.heap.size ≤ l → w.heap.size ≤ D →
      body.wpIn (Fence.wide.inRound l) 0 P (roundEnd I Ix K1 l D r (pre ++ [x])) (a₁ x) W)
    (hdone : ∀ (D : Nat) (K1 : Fz) (W : World), w.heap.size ≤ D → Ext K K1 → I xs K1 W → W.heap[D]? = some (.deferred (some [])) → Q .normal { a with defers := { target := .collected D, args := #[] } :: a.defers } W)
    (hstop : ∀ (D : Nat) (c : Code) (K1 : Fz) (W : World), w.heap.size ≤ D → Ix c K1 W → W.heap[D]? = some (.deferred (some [])) → c.wpIn Fence.wide 0 P Q { a with defers := { target := .collected D, args := #[] } :: a.defers } W) :
    (Code.rangeFunc g ps assign body).wpIn Fence.wide 0 P Q a w := by
  refine wpIn_rangeFunc ?_
  intro fn hfn
  obtain ⟨rec, hrec⟩ : ∃ rec : LoopState → Option Code → Loop, rec = fun st pe => { state := st, pending := pe, fn, tmps := a.tmps, params := ps, assign, body, defers := w.heap.size } := ⟨_, rfl⟩
  obtain ⟨W1, hW1⟩ : ∃ W1, (w.alloc (.deferred (some []))).alloc (.loop (rec .ready none)) = W1 := ⟨_, rfl⟩
  have hL1 : W1.heap[w.heap.size + 1]? = some (.loop (rec .ready none)) := by
    rw [← hW1]; have := heap_alloc_new (w.alloc (.deferred (some []))) (.loop (rec .ready none)); rwa [World.size_alloc] at this
  have hK1 : W1.heap[w.heap.size]? = some (.deferred (some [])) := by
    rw [← hW1]; exact (Below.heap_alloc _ _ _ (by simp)).trans (heap_alloc_new w _)
  have hKin : K.In w := hIn _ _ _ h0
  have hb1 : Below w.heap.size w W1 := by rw [← hW1]; exact ((Below.refl _ w).alloc (Nat.le_refl _) _).alloc (by simp) _
  have hI1 : I [] K W1 := hI _ _ _ _ _ h0 (Ex.of_grow (Nat.le_refl _) hb1 (hKin.below hb1) (Fz.Le.refl _ _))
  refine ⟨w.heap.size + 1, [{ target := .collected w.heap.size, args := #[] }], W1, { target := .fn (.func gf) lb, args := #[.func (.yield (w.heap.size + 1)) #[] #[]] }, W1, gf,
    #[.func (.yield (w.heap.size + 1)) #[] #[]] ++ lb, W1, ?_, ?_, ?_, ?_, fun h => by simp [Fence.wide] at h, ?_⟩
  · rw [← hW1, hrec]; exact run_enterLoop_outer _ _ _ _ _
  · simp only [resolve, hg]
    simp [go_sem]
  · intro f' hf'; exact trivial
  · simp [invoke, go_sem, eg]
  · refine (hit (w.heap.size + 1)
      (fun pre K1 W => (I pre K1 W ∧ Ext K K1) ∧ W.heap[w.heap.size + 1]? = some (.loop (rec .ready none)) ∧ W.heap[w.heap.size]? = some (.deferred (some [])))
      (fun W => ∃ c K, Ix c K W ∧ W.heap[w.heap.size + 1]? = some (.loop (rec .done (some c))) ∧ W.heap[w.heap.size]? = some (.deferred (some [])))
      K W1 (Ext.refl K) (fun pre K W h => hIn _ _ _ h.1.1)
      (fun pre K W K' W' h hb hi hl => ⟨⟨hI _ _ _ _ _ h.1.1 (Ex.of_grow (by have := lt_of_at h.2.1; omega) hb hi hl), h.1.2.trans (Ext.of_le (hIn _ _ _ h.1.1) hl)⟩, below_at hb h.2.1 (lt_of_at h.2.1), below_at hb h.2.2 (lt_of_at h.2.2)⟩)
      ?_ ⟨⟨hI1, Ext.refl K⟩, hL1, hK1⟩).mono ?_
    · -- one round
      rintro pre x rest K1 W hx ⟨⟨hi, hs⟩, hl, hk⟩
      have hlt := lt_of_at hl
      have hy := run_yield (P := P) (args := encs x) hl (by rw [hrec]; exact hps x)
      rw [hrec] at hy
      refine ⟨fn, _, assign, body, hy, roundIn_of_wpIn hfn (hassign _ x W _ ⟨_, run_beginRound hl (by rw [hrec]), ?_⟩)⟩
      have hl2 : (W.putObj (w.heap.size + 1) (.loop { rec .ready none with state := .busy })).heap[w.heap.size + 1]? = some (.loop { rec .ready none with state := .busy }) := World.putObj_heap_same hlt
      have hk2 : (W.putObj (w.heap.size + 1) (.loop { rec .ready none with state := .busy })).heap[w.heap.size]? = some (.deferred (some [])) := (World.putObj_heap_other (by omega)).trans hk
      refine wpIn_mono (hbody _ w.heap.size { rec .ready none with state := .busy } pre x rest K1 _ hx hs (hI _ _ _ _ _ hi (Ex.of_put (hIn _ _ _ hi) (by omega) hl (not_plain_loop _))) hl2 hk2 (by omega) (by omega) (Nat.le_refl _)) ?_
      have fin : ∀ (jump : Option Code) (W3 : World), W3.heap[w.heap.size + 1]? = some (.loop { rec .ready none with state := .busy }) → W3.heap[w.heap.size]? = some (.deferred (some [])) →
          (Instr.endRound (w.heap.size + 1) jump).run P W3 = .ok (.bool jump.isNone) (W3.putObj (w.heap.size + 1) (.loop (rec (if jump.isNone then .ready else .done) jump))) ∧
          (W3.putObj (w.heap.size + 1) (.loop (rec (if jump.isNone then .ready else .done) jump))).heap[w.heap.size + 1]? = some (.loop (rec (if jump.isNone then .ready else .done) jump)) ∧
          (W3.putObj (w.heap.size + 1) (.loop (rec (if jump.isNone then .ready else .done) jump))).heap[w.heap.size]? = some (.deferred (some [])) := fun jump W3 hl3 hk3 => by
        have := run_endRound (P := P) jump hl3
        rw [hrec] at this ⊢
        exact ⟨this, World.putObj_heap_same (lt_of_at hl3), (World.putObj_heap_other (by omega)).trans hk3⟩
      rintro e a3 W3 hp
      cases e with
      | normal =>
        obtain ⟨⟨K2, hs2, hi3⟩, hl3, hk3⟩ := hp
        obtain ⟨hr, hl4, hk4⟩ := fin none W3 hl3 hk3
        exact ⟨_, _, hr, .inl ⟨rfl, K2, hs2, ⟨hI _ _ _ _ _ hi3 (Ex.of_put (hIn _ _ _ hi3) (by omega) hl3 (not_plain_loop _)), hs.trans hs2⟩, hl4, hk4⟩⟩
      | ret =>
        obtain ⟨⟨K2, hi3⟩, hl3, hk3⟩ := hp
        obtain ⟨hr, hl4, hk4⟩ := fin (some .ret) W3 hl3 hk3
        exact ⟨_, _, hr, .inr ⟨rfl, .ret, K2, hIx _ _ _ _ _ hi3 (Ex.of_put (hIxn _ _ _ hi3) (by omega) hl3 (not_plain_loop _)), hl4, hk4⟩⟩
      | exit id =>
        obtain ⟨⟨K2, hi3⟩, hl3, hk3⟩ := hp
        obtain ⟨hr, hl4, hk4⟩ := fin (some (.exit id)) W3 hl3 hk3
        exact ⟨_, _, hr, .inr ⟨rfl, .exit id, K2, hIx _ _ _ _ _ hi3 (Ex.of_put (hIxn _ _ _ hi3) (by omega) hl3 (not_plain_loop _)), hl4, hk4⟩⟩
      | goto t => exact hp.elim
      | panic ch => exact hp.elim
      | outgrown => exact hp.elim
    · -- behind the iterator
      rintro e W2 ⟨⟨v, rfl⟩, (⟨K', _, ⟨hi, hs⟩, hl, hk⟩ | ⟨c, K', hi, hl, hk⟩)⟩
      · refine ⟨none, _, by have := run_endLoop (P := P) hl (by rw [hrec]; simp); rw [hrec] at this; exact this, ?_⟩
        exact hdone _ K' _ (Nat.le_refl _) hs (hI _ _ _ _ _ hi (Ex.of_put (hIn _ _ _ hi) (by omega) hl (not_plain_loop _))) ((World.putObj_heap_other (by omega)).trans hk)
      · refine ⟨some c, _, by have := run_endLoop (P := P) hl (by rw [hrec]; simp); rw [hrec] at this; exact this, ?_⟩
        exact hstop _ c K' _ (Nat.le_refl _) (hIx _ _ _ _ _ hi (Ex.of_put (hIxn _ _ _ hi) (by omega) hl (not_plain_loop _))) ((World.putObj_heap_other (by omega)).trans hk)
end Go.Proofs.YtdaagmhkhfcmdaaDoor
/- A slice of the call's own that grows: no program in sight. -/
namespace Go.Proofs.YtdaagmhkhfcmdaaDoor
open Go Go.RowKit

/-- A slice of the call's own: n elements of sz cells; its cells are xs. -/
structure Row (w : World) (K : Fz) (W : World) (e : TypeId) (sz : Nat) (v : Value) (n : Nat) (xs : List Value) : Prop where
  own : W.ownsRow w.heap.size e sz v n xs
  none_ : ∀ b, v.ownBlock = some b → K b = none

/-- An append's new world and value. -/
structure Grown (W W' : World) (v v' : Value) : Prop where
  by_ : W.grownBy W' v.ownBlock
  at_ : v'.ownBlock = v.ownBlock ∨ v'.ownBlock = some W.heap.size

section
variable {K0 K K' : Fz} {w W W' : World} {e : TypeId} {sz n g : Nat} {v v' : Value} {xs ys : List Value} {o o' : Obj}

theorem ownsRow_lt {base : Nat} (h : W.ownsRow base e sz v n xs) {b : Nat} (hb : v.ownBlock = some b) : b < W.heap.size ∧ base ≤ b := by
  rcases h.2 with ⟨rfl, _⟩ | ⟨g, cap, cur, rfl, hg, hh, _⟩
  · cases hb
  · cases hb; exact ⟨lt_of_at hh, hg⟩
theorem ownsRow_move {base : Nat} (h : W.ownsRow base e sz v n xs) (hb : ∀ b, v.ownBlock = some b → W'.heap[b]? = W.heap[b]?) : W'.ownsRow base e sz v n xs := by
  refine ⟨h.1, ?_⟩
  rcases h.2 with h0 | ⟨g, cap, cur, rfl, hg, hh, r⟩
  · exact .inl h0
  · exact .inr ⟨g, cap, cur, rfl, hg, (hb g rfl).trans hh, r⟩
theorem Row.lt (r : Row w K W e sz v n xs) {b : Nat} (hb : v.ownBlock = some b) : b < W.heap.size := (ownsRow_lt r.own hb).1
theorem Row.nil (w : World) (K : Fz) (W : World) (e : TypeId) (sz : Nat) : Row w K W e sz (.slice none 0 0) 0 [] := ⟨World.ownsRow_nil _ _ _ _, fun b h => by cases h⟩
theorem Row.ne (r : Row w K W e sz v n xs) (e' : g = W.heap.size) : v.ownBlock ≠ some g := fun h => by have := r.lt h; omega
theorem Row.new (r : Row w K W e sz v n xs) (hn : New W o W') : Row w K W' e sz v n xs := ⟨ownsRow_move r.own fun b hb => hn.other b (r.lt hb), r.none_⟩
theorem Row.upd (r : Row w K W e sz v n xs) (hu : Upd W g o W') (hne : v.ownBlock ≠ some g) : Row w K W' e sz v n xs :=
  ⟨ownsRow_move r.own fun b hb => hu.other b (by rintro rfl; exact hne hb), r.none_⟩
theorem Row.call (r : Row w K W e sz v n xs) (h2 : K.Le W.heap.size K') (h3 : Below W.heap.size W W') : Row w K' W' e sz v n xs :=
  ⟨ownsRow_move r.own fun b hb => h3.block b (r.lt hb), fun b hb => (h2 b (r.lt hb)).trans (r.none_ b hb)⟩
theorem Row.quiet (r : Row w K W e sz v n xs) (h3 : Below W.heap.size W W') : Row w K W' e sz v n xs := r.call (Fz.Le.refl _ _) h3
theorem Row.drew (r : Row w K W e sz v n xs) : Row w K W.drew e sz v n xs := ⟨ownsRow_move r.own fun _ _ => rfl, r.none_⟩
theorem Row.drewN (r : Row w K W e sz v n xs) (m : Nat) : Row w K (W.drewN m) e sz v n xs := ⟨ownsRow_move r.own fun _ _ => rfl, r.none_⟩
theorem Row.freeze (r : Row w K W e sz v n xs) (hne : v.ownBlock ≠ some g) : Row w (K.add g o) W e sz v n xs :=
  ⟨r.own, fun b hb => by rw [Fz.add_other _ _ (by rintro rfl; exact hne hb)]; exact r.none_ b hb⟩
theorem Row.ex {B : Nat} (r : Row w K W e sz v n xs) (h : Ex B K W K' W') : Row w K' W' e sz v n xs := by
  have hb : ∀ b, v.ownBlock = some b → W'.heap[b]? = W.heap[b]? := by
    intro b hb
    rcases r.own.2 with ⟨rfl, _⟩ | ⟨g, cap, cur, rfl, hg, hh, _⟩
    · cases hb
    · cases hb; rw [hh]; exact h.plain _ _ hh trivial
  exact ⟨ownsRow_move r.own hb, fun b hb => (h.same b (r.lt hb)).trans (r.none_ b hb)⟩

theorem St.grown (s : St K0 w K W) (r : Row w K W e sz v n xs) (gr : Grown W W' v v') : St K0 w K W' := by
  refine ⟨fun b o hk => ⟨(gr.by_.block b (s.inn.lt hk) ?_).trans (s.inn.get hk), (s.inn b o hk).2⟩, s.le, s.below.trans ⟨gr.by_.os, gr.by_.tape, gr.by_.output, gr.by_.size, fun b hb => gr.by_.block b (by have := s.size; omega) ?_⟩⟩
  · intro h; rw [r.none_ b h.symm] at hk; cases hk
  · intro h; have := (ownsRow_lt r.own h.symm).2; omega
theorem Own.grown (ow : Own w K W g o) (gr : Grown W W' v v') (hne : v.ownBlock ≠ some g) : Own w K W' g o :=
  ⟨(gr.by_.block g ow.lt (fun h => hne h.symm)).trans ow.at_, ow.none_, ow.base⟩
theorem Own.apart (ow : Own w K W g o) (gr : Grown W W' v v') (hne : v.ownBlock ≠ some g) : v'.ownBlock ≠ some g := by
  rcases gr.at_ with h | h
  · rw [h]; exact hne
  · rw [h]; intro e; cases e; have := ow.lt; omega

theorem Row.lit {t : TypeId} {cs : Array Value} (s : St K0 w K W) (e' : g = W.heap.size) (hn : New W (.cells cs t) W') (hs : cs.size = n * sz) (hm : n ≤ maxLen) : Row w K W' t sz (.slice (some ⟨g, 0, none⟩) n n) n cs.toList := by
  subst e'
  refine ⟨⟨by simpa using hs, .inr ⟨_, _, cs, rfl, s.size, hn.here, Nat.le_refl _, hm, hs, List.take_of_length_le (by simp [hs])⟩⟩, fun b hb => ?_⟩
  cases hb
  exact s.inn.out (Nat.le_refl _)
theorem Row.form (r : Row w K W e sz v n xs) : ∃ a n' c, v = .slice a n' c := by
  rcases r.own.2 with ⟨rfl, _⟩ | ⟨g, cap, cur, rfl, _⟩
  · exact ⟨_, _, _, rfl⟩
  · exact ⟨_, _, _, rfl⟩
theorem Row.form1 (r : Row w K W e sz v n xs) (hn : 0 < n) : ∃ g c, v = .slice (some ⟨g, 0, none⟩) n c := by
  rcases r.own.2 with ⟨_, h0⟩ | ⟨g, cap, cur, rfl, _⟩
  · omega
  · exact ⟨_, _, rfl⟩
theorem Row.ne_of (r : Row w K W e sz v n xs) {l : Nat} (h : W.heap[l]? = some o) (ho : ¬ Plain o) : v.ownBlock ≠ some l := by
  intro hb
  rcases r.own.2 with ⟨rfl, _⟩ | ⟨g, cap, cur, rfl, hg, hh, _⟩
  · cases hb
  · cases hb; rw [hh] at h; cases h; exact ho trivial
theorem Own.ne_of {cs : Array Value} {t : TypeId} {fr : Nat × Nat} (r : Own w K W g (.cells cs t fr)) {l : Nat} (h : W.heap[l]? = some o) (ho : ¬ Plain o) : l ≠ g := by
  rintro rfl
  rw [r.at_] at h; cases h; exact ho trivial
theorem Grown.at (gr : Grown W W' v v') {l : Nat} (h : W.heap[l]? = some o) (hne : v.ownBlock ≠ some l) : W'.heap[l]? = some o :=
  (gr.by_.block l (lt_of_at h) (fun e => hne e.symm)).trans h
theorem cells_here {cs : Array Value} {t : TypeId} {fr : Nat × Nat} (h : W.heap[g]? = some (.cells cs t fr)) : ∀ ad, some (⟨g, 0, none⟩ : Addr) = some ad → ∀ (j : Nat) (u : Value), cs.toList[j]? = some u → W.cell? (ad.add j) = some u := by
  rintro ad ⟨⟩ j u hj
  have : (⟨g, 0, none⟩ : Addr).add j = ⟨g, j, none⟩ := by unfold Addr.add; split <;> simp_all
  rw [this, cell_of_row W g j cs t fr h]
  simpa using hj

/-- The row is frozen now, and read as a list. -/
theorem Row.fix {α : Type} {enc : α → List Value} (s : St K0 w K W) (r : Row w K W e sz v n xs) {zs : List α} (hl : ∀ x, (enc x).length = sz) (hn : n = zs.length) (hc : xs = zs.flatMap enc) :
    ∃ K', St K0 w K' W ∧ Ext K K' ∧ SlK K' sz enc v zs ∧ ∀ b, K' b = K b ∨ v.ownBlock = some b := by
  subst hn
  rcases r.own.2 with ⟨rfl, h0⟩ | ⟨g, cap, cur, rfl, hg, hh, _⟩
  · obtain rfl := List.length_eq_zero_iff.1 h0
    exact ⟨K, s, Ext.refl _, SlK.nil _ _ _ _ _, fun _ => .inl rfl⟩
  · obtain ⟨cur', t', hh', hb', hS⟩ := SlK.made (base := w.heap.size) r.own rfl hl hc
    have hk : K g = none := r.none_ g rfl
    have ho : Own w K W g (.cells cur' t' (0, 0)) := ⟨hh', hk, hb'⟩
    refine ⟨_, s.freeze ho, fun b o' hb => ?_, hS K, fun b => ?_⟩
    · rw [Fz.add_other _ _ (by rintro rfl; rw [hk] at hb; cases hb)]; exact hb
    · by_cases h : b = g
      · subst h; exact .inr rfl
      · exact .inl (Fz.add_other _ _ h)
theorem Own.fixed (ow : Own w K W g o) (h : ∀ b, K' b = K b ∨ v.ownBlock = some b) (hne : v.ownBlock ≠ some g) : Own w K' W g o :=
  ⟨ow.at_, (h g).elim (fun e => e.trans ow.none_) (fun e => (hne e).elim), ow.base⟩
end

section ops
variable {P : Program} {ops : Array Oper} {rest : List Oper} {o : Oper} {a : Act} {K0 K : Fz} {w W : World} {Q : Exit → Act → World → Prop}

/-- '[]T{x}'. -/
theorem wpList_buildSlice1 {t e : TypeId} {x : Operand} {u z : Value} {sz bytes : Nat} {cs : Array Value} (hgd : o.guard = none) (ho : o.op = .buildSlice t 1 #[(0, x)]) (hx : a.eval x = u)
    (hu : P.underlying t = some (.slice e)) (hi : (P.info? e).map (fun i => (i.zero, i.size, i.bytes)) = some (some z, sz, bytes)) (hpos : 0 < sz) (hsmall : sz ≤ 1000)
    (hfill : Instr.fill (fun i => some (i * sz, sz)) ((Array.range (1 * sz)).map (z.cells[· % z.cells.size]!)) [(0, u)] = some cs)
    (h : ∀ g W', g = W.heap.size → New W (.cells cs e) W' → wpList P ops Q rest (a.put o.dst (.slice (some ⟨g, 0, none⟩) 1 1)) W') : wpList P ops Q (o :: rest) a W := by
  cases hie : P.info? e with
  | none => simp [hie] at hi
  | some ie =>
    simp only [hie, Option.map_some, Option.some.injEq, Prod.mk.injEq] at hi
    obtain ⟨hz, rfl, _⟩ := hi
    exact wpList_buildSlice hgd t e 1 _ ho cs ie z hu hie hz (by omega) (by omega) (by simpa [hx] using hfill) (h _ _ rfl (New.alloc _ _))

/-- 'append(s, x...)' to a row of the call's own. -/
theorem wpList_appendRow {s x : Operand} {t e : TypeId} {v z : Value} {n m c sz bytes : Nat} {xs news : List Value} {ao : Option Addr} (hgd : o.guard = none)
    (ho : o.op = .call { callee := .builtin .append, args := #[s, x], argTypes := #[t, t] })
    (hu : P.underlying t = some (.slice e)) (hi : (P.info? e).map (fun i => (i.zero, i.size, i.bytes)) = some (some z, sz, bytes)) (hzs : z.cells.size = sz) (hpos : 0 < sz)
    (hs : a.eval s = v) (st : St K0 w K W) (r : Row w K W e sz v n xs) (hx : a.eval x = .slice ao m c) (hl : news.length = m * sz)
    (h0 : ao = none → m = 0) (hnews : ∀ ad, ao = some ad → ∀ j u, news[j]? = some u → W.cell? (ad.add j) = some u) (h1 : ∀ u ∈ news, u.oneCell' = true)
    (hsmall : n + m ≤ 1000000000) (hb : bytes ≤ 10000)
    (h : ∀ v' W', Row w K W' e sz v' (n + m) (xs ++ news) → Grown W W' v v' → wpList P ops Q rest (a.put o.dst v') W') : wpList P ops Q (o :: rest) a W := by
  cases hie : P.info? e with
  | none => simp [hie] at hi
  | some ie =>
    simp only [hie, Option.map_some, Option.some.injEq, Prod.mk.injEq] at hi
    obtain ⟨hz, rfl, rfl⟩ := hi
    cases ao with
    | none =>
      obtain rfl := h0 rfl
      obtain rfl : news = [] := List.eq_nil_of_length_eq_zero (by simpa using hl)
      have hrun : (Builtin.append_ #[t, t] o.type #[v, .slice none 0 c]).run P W = .ok v W := by
        rcases r.own.2 with ⟨rfl, rfl⟩ | ⟨g, cap, cur, rfl, _, _, hnc, _⟩
        · simp [Builtin.append_, run_underlying hu, sizeOf, typeInfo, hie, Builtin.lenOf, Builtin.firstCells]
        · simp [Builtin.append_, run_underlying hu, sizeOf, typeInfo, hie, Builtin.lenOf, Builtin.firstCells, hnc, storeCells]
      refine wpList_run hgd ?_ (h v W (by simpa using r) ⟨⟨rfl, rfl, rfl, Nat.le_refl _, fun _ _ _ => rfl⟩, .inl rfl⟩)
      unfold execOp
      simp only [ho, resolve, invoke, builtin, Sem.run_bind, Sem.run_pure, Result.andThen_ok, List.map_toArray, List.map_cons, List.map_nil, hs, hx, hrun]
    | some ad =>
      refine wpList_append_own_at W hgd s x t ho w.heap.size e ie z ie.size ie.bytes hu hie hz rfl rfl hzs hpos v n xs hs r.own ad m c news hx hl (hnews ad rfl) h1 (by simp only [maxLen]; omega) ?_ st.size ?_
      · have : (n + m) * ie.bytes ≤ 1000000000 * 10000 := Nat.mul_le_mul hsmall hb
        omega
      · intro v' W' hr hg _ hat
        refine h v' W' ⟨hr, fun b hb' => ?_⟩ ⟨hg, hat⟩
        rcases hat with hat | hat
        · exact r.none_ b (by rw [← hat]; exact hb')
        · rw [hat] at hb'; cases hb'; exact st.inn.out (Nat.le_refl _)

theorem gate_append {dst : Option Tmp} {ty : TypeId} {pos : String} {after : Array Edge} {gd : Option (Nat × Bool)} {x : Array Operand} {ts : Array TypeId}
    (h : wpList P ops Q ({ dst, op := .call { callee := .builtin .append, args := x, argTypes := ts }, type := ty, pos, after, guard := gd } :: rest) a W) :
    wpList P ops Q ({ dst, op := .call { callee := .builtin .append, args := x, argTypes := ts }, type := ty, pos, after, guard := gd } :: rest) a W := h
end ops
end Go.Proofs.YtdaagmhkhfcmdaaDoor
