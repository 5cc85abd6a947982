/- Steps of a walk over a block known whole: no program in sight. -/
import Derived.Test.YtdaagmhkhfcmdaaPt
namespace Go.Proofs.Ytdaagmhkhfcmdaa
open Go Go.RowKit

/-- One block has turned, nothing else. -/
structure Upd (w : World) (g : Nat) (o : Obj) (w' : World) : Prop where
  os : w'.os = w.os
  tape : w'.tape = w.tape
  output : w'.output = w.output
  size : w'.heap.size = w.heap.size
  here : w'.heap[g]? = some o
  other : ∀ k, k ≠ g → w'.heap[k]? = w.heap[k]?

/-- One block has come, nothing else. -/
structure New (w : World) (o : Obj) (w' : World) : Prop where
  os : w'.os = w.os
  tape : w'.tape = w.tape
  output : w'.output = w.output
  size : w'.heap.size = w.heap.size + 1
  here : w'.heap[w.heap.size]? = some o
  other : ∀ k, k < w.heap.size → w'.heap[k]? = w.heap[k]?

theorem New.alloc (w : World) (o : Obj) : New w o (w.alloc o) :=
  ⟨rfl, rfl, rfl, by simp, heap_alloc_new w o, fun k hk => Below.heap_alloc w o k hk⟩
theorem Upd.setRow {w : World} {g : Nat} {cur cs : Array Value} {t : TypeId} {fr : Nat × Nat} (hg : w.heap[g]? = some (.cells cur t fr)) : Upd w g (.cells cs t fr) (w.setRow g cs) :=
  ⟨rfl, rfl, rfl, by simp, setRow_heap w g cur cs t fr hg, fun k hk => setRow_other w g k cs hk⟩
theorem Upd.setCell {w : World} {g i : Nat} {cur : Array Value} {t : TypeId} {fr : Nat × Nat} (v : Value) (hg : w.heap[g]? = some (.cells cur t fr)) :
    Upd w g (.cells (cur.setIfInBounds i v) t fr) (w.setCell ⟨g, i, none⟩ v) := by
  rw [setCell_eq_setRow w g i cur t fr v hg]; exact Upd.setRow hg

theorem Upd.drew {w w' : World} {g : Nat} {o : Obj} (hu : Upd w g o w') : Upd w g o w'.drew := ⟨hu.os, hu.tape, hu.output, hu.size, hu.here, hu.other⟩

theorem Upd.below {B g : Nat} {w0 w w' : World} {o : Obj} (hu : Upd w g o w') (hb : Below B w0 w) (hg : B ≤ g) : Below B w0 w' :=
  hb.trans ⟨hu.os, hu.tape, hu.output, by rw [hu.size]; exact Nat.le_refl _, fun k hk => hu.other k (by omega)⟩
theorem New.below {B : Nat} {w0 w w' : World} {o : Obj} (hn : New w o w') (hb : Below B w0 w) (hB : B ≤ w.heap.size) : Below B w0 w' :=
  hb.trans ⟨hn.os, hn.tape, hn.output, by rw [hn.size]; exact Nat.le_succ _, fun k hk => hn.other k (by omega)⟩
theorem Upd.inn {K : Fz} {g : Nat} {w w' : World} {o : Obj} (hu : Upd w g o w') (h : K.In w) (hg : K g = none) : K.In w' :=
  fun b o' hk => ⟨(hu.other b (by rintro rfl; rw [hg] at hk; cases hk)).trans (h.get hk), (h b o' hk).2⟩
theorem New.inn {K : Fz} {w w' : World} {o : Obj} (hn : New w o w') (h : K.In w) : K.In w' :=
  fun b o' hk => ⟨(hn.other b (h.lt hk)).trans (h.get hk), (h b o' hk).2⟩
theorem New.at {w w' : World} {o o' : Obj} {g : Nat} (hn : New w o w') (h : w.heap[g]? = some o') : w'.heap[g]? = some o' :=
  (hn.other g (Array.getElem?_eq_some_iff.1 h).1).trans h
theorem Upd.at {w w' : World} {o o' : Obj} {g k : Nat} (hu : Upd w g o w') (h : w.heap[k]? = some o') (hne : k ≠ g) : w'.heap[k]? = some o' :=
  (hu.other k hne).trans h
theorem below_at {B : Nat} {w w' : World} {o : Obj} {g : Nat} (hb : Below B w w') (h : w.heap[g]? = some o) (hg : g < B) : w'.heap[g]? = some o := (hb.block g hg).trans h
theorem lt_of_at {w : World} {g : Nat} {o : Obj} (h : w.heap[g]? = some o) : g < w.heap.size := (Array.getElem?_eq_some_iff.1 h).1

/-- How a call stands: what is frozen now; nothing older has turned. -/
structure St (K0 : Fz) (w : World) (K : Fz) (W : World) : Prop where
  inn : K.In W
  le : K0.Le w.heap.size K
  below : Below w.heap.size w W

/-- A block of the call's own, and what it holds. -/
structure Own (w : World) (K : Fz) (W : World) (g : Nat) (o : Obj) : Prop where
  at_ : W.heap[g]? = some o
  none_ : K g = none
  base : w.heap.size ≤ g

section st
variable {K0 K K' : Fz} {w W W' : World} {g g' : Nat} {o o' : Obj}
theorem St.start (h : K0.In w) : St K0 w K0 w := ⟨h, Fz.Le.refl _ _, Below.refl _ _⟩
theorem St.size (s : St K0 w K W) : w.heap.size ≤ W.heap.size := s.below.size
theorem St.new (s : St K0 w K W) (hn : New W o W') : St K0 w K W' := ⟨hn.inn s.inn, s.le, hn.below s.below s.size⟩
theorem Own.made (s : St K0 w K W) (e : g = W.heap.size) (hn : New W o W') : Own w K W' g o := by
  subst e; exact ⟨hn.here, s.inn.out (Nat.le_refl _), s.size⟩
theorem Own.lt (h : Own w K W g o) : g < W.heap.size := lt_of_at h.at_
theorem Own.new (h : Own w K W g o) (hn : New W o' W') : Own w K W' g o := ⟨hn.at h.at_, h.none_, h.base⟩
theorem Own.ne (h : Own w K W g o) (e : g' = W.heap.size) : g ≠ g' := by have := h.lt; omega
theorem St.upd (s : St K0 w K W) (h : Own w K W g o) (hu : Upd W g o' W') : St K0 w K W' := ⟨hu.inn s.inn h.none_, s.le, hu.below s.below h.base⟩
theorem Own.upd (h : Own w K W g o) (hu : Upd W g o' W') : Own w K W' g o' := ⟨hu.here, h.none_, h.base⟩
theorem Own.other (h : Own w K W g o) (hu : Upd W g' o' W') (hne : g ≠ g') : Own w K W' g o := ⟨hu.at h.at_ hne, h.none_, h.base⟩
theorem St.call (s : St K0 w K W) (h1 : K'.In W') (h2 : K.Le W.heap.size K') (h3 : Below W.heap.size W W') : St K0 w K' W' :=
  ⟨h1, s.le.trans h2 s.size, s.below.trans (h3.mono s.size)⟩
theorem Own.call (h : Own w K W g o) (h2 : K.Le W.heap.size K') (h3 : Below W.heap.size W W') : Own w K' W' g o :=
  ⟨below_at h3 h.at_ h.lt, (h2 _ h.lt).trans h.none_, h.base⟩
theorem St.quiet (s : St K0 w K W) (h3 : Below W.heap.size W W') : St K0 w K W' := s.call (s.inn.below h3) (Fz.Le.refl _ _) h3
theorem Own.quiet (h : Own w K W g o) (h3 : Below W.heap.size W W') : Own w K W' g o := h.call (Fz.Le.refl _ _) h3
theorem St.drew (s : St K0 w K W) : St K0 w K W.drew := ⟨s.inn, s.le, s.below.drew⟩
theorem Own.drew (h : Own w K W g o) : Own w K W.drew g o := ⟨h.at_, h.none_, h.base⟩
theorem St.drewN (s : St K0 w K W) (n : Nat) : St K0 w K (W.drewN n) := ⟨s.inn, s.le, s.below.drewN' n⟩
theorem Own.drewN (h : Own w K W g o) (n : Nat) : Own w K (W.drewN n) g o := ⟨h.at_, h.none_, h.base⟩
theorem St.freeze {cs : Array Value} {t : TypeId} {fr : Nat × Nat} (s : St K0 w K W) (h : Own w K W g (.cells cs t fr)) : St K0 w (K.add g (.cells cs t fr)) W := ⟨s.inn.add h.at_, s.le.add _ _ h.base, s.below⟩
theorem Own.freeze (h : Own w K W g o) (hne : g ≠ g') : Own w (K.add g' o') W g o := ⟨h.at_, (Fz.add_other _ _ hne).trans h.none_, h.base⟩
theorem St.ret {R : Fz → Value → Prop} (s : St K0 w K W) {v : Value} (h : R K v) : Ret K0 w R (.returned v) W := ⟨v, K, rfl, s.inn, s.le, s.below, h⟩
theorem Tr.call {T : Nat} {t : PT} : Tr T K t → K.In W → K.Le W.heap.size K' → Tr T K' t := fun h hi hl => h.le hl hi (Nat.le_refl _)
end st

section gates
variable {P : Program} {ops : Array Oper} {rest : List Oper} {a : Act} {w : World} {Q : Exit → Act → World → Prop} {dst : Option Tmp} {ty : TypeId} {pos : String} {after : Array Edge} {gd : Option (Nat × Bool)}
theorem gate_alloc {T : TypeId} (h : wpList P ops Q ({ dst, op := .alloc T, type := ty, pos, after, guard := gd } :: rest) a w) : wpList P ops Q ({ dst, op := .alloc T, type := ty, pos, after, guard := gd } :: rest) a w := h
theorem gate_box {T : TypeId} {x : Operand} (h : wpList P ops Q ({ dst, op := .box T x, type := ty, pos, after, guard := gd } :: rest) a w) : wpList P ops Q ({ dst, op := .box T x, type := ty, pos, after, guard := gd } :: rest) a w := h
theorem gate_load {T : TypeId} {x : Operand} (h : wpList P ops Q ({ dst, op := .load T x, type := ty, pos, after, guard := gd } :: rest) a w) : wpList P ops Q ({ dst, op := .load T x, type := ty, pos, after, guard := gd } :: rest) a w := h
theorem gate_store {T : TypeId} {x y : Operand} (h : wpList P ops Q ({ dst, op := .store T x y, type := ty, pos, after, guard := gd } :: rest) a w) : wpList P ops Q ({ dst, op := .store T x y, type := ty, pos, after, guard := gd } :: rest) a w := h
theorem gate_build {T : TypeId} {x : Array (Nat × Operand)} (h : wpList P ops Q ({ dst, op := .build T x, type := ty, pos, after, guard := gd } :: rest) a w) : wpList P ops Q ({ dst, op := .build T x, type := ty, pos, after, guard := gd } :: rest) a w := h
theorem gate_buildSlice {T n : TypeId} {x : Array (Nat × Operand)} (h : wpList P ops Q ({ dst, op := .buildSlice T n x, type := ty, pos, after, guard := gd } :: rest) a w) : wpList P ops Q ({ dst, op := .buildSlice T n x, type := ty, pos, after, guard := gd } :: rest) a w := h
end gates

section ops
variable {P : Program} {ops : Array Oper} {rest : List Oper} {o : Oper} {a : Act} {w : World} {Q : Exit → Act → World → Prop}

theorem wpList_run {v : Value} {w' : World} (hgd : o.guard = none) (hr : (execOp a.eval o).run P w = .ok (.value v) w') (h : wpList P ops Q rest (a.put o.dst v) w') : wpList P ops Q (o :: rest) a w :=
  wpList_plain hgd fun K hK => by unfold Oper.wp; rw [hr]; exact hK _ _ h

/-- 'T{}': the zero value. -/
theorem wpList_build0 {T : TypeId} {v : Value} (hgd : o.guard = none) (ho : o.op = .build T #[]) (hz : ∀ w, (Instr.build T #[]).run P w = .ok v w)
    (h : wpList P ops Q rest (a.put o.dst v) w) : wpList P ops Q (o :: rest) a w :=
  wpList_run hgd (by simp [execOp, ho, hz]) h

/-- A new variable, zero. -/
theorem wpList_alloc {T : TypeId} {z : Value} {cs : Array Value} (hgd : o.guard = none) (ho : o.op = .alloc T) (hz : ∀ w, (zeroValue T).run P w = .ok z w) (hcs : z.cells = cs)
    (h : ∀ w', New w (.cells cs T) w' → wpList P ops Q rest (a.put o.dst (.pointer (some ⟨w.heap.size, 0, none⟩))) w') : wpList P ops Q (o :: rest) a w :=
  wpList_run hgd (by simp [execOp, ho, Instr.alloc, hz, newVar, newRow, run_newObj_alloc, hcs]) (h _ (New.alloc _ _))

/-- A new variable that holds x. -/
theorem wpList_box {T : TypeId} {x : Operand} {v : Value} {cs : Array Value} (hgd : o.guard = none) (ho : o.op = .box T x) (hx : a.eval x = v) (hcs : v.cells = cs)
    (h : ∀ w', New w (.cells cs T) w' → wpList P ops Q rest (a.put o.dst (.pointer (some ⟨w.heap.size, 0, none⟩))) w') : wpList P ops Q (o :: rest) a w :=
  wpList_run hgd (by simp [execOp, ho, hx, Instr.box, newVar, newRow, run_newObj_alloc, hcs]) (h _ (New.alloc _ _))

theorem wpList_allocG {T : TypeId} {z : Value} {cs : Array Value} (hgd : o.guard = none) (ho : o.op = .alloc T) (hz : ∀ w, (zeroValue T).run P w = .ok z w) (hcs : z.cells = cs)
    (h : ∀ g w', g = w.heap.size → New w (.cells cs T) w' → wpList P ops Q rest (a.put o.dst (.pointer (some ⟨g, 0, none⟩))) w') : wpList P ops Q (o :: rest) a w :=
  wpList_alloc hgd ho hz hcs (fun w' hn => h _ w' rfl hn)
theorem wpList_boxG {T : TypeId} {x : Operand} {v : Value} {cs : Array Value} (hgd : o.guard = none) (ho : o.op = .box T x) (hx : a.eval x = v) (hcs : v.cells = cs)
    (h : ∀ g w', g = w.heap.size → New w (.cells cs T) w' → wpList P ops Q rest (a.put o.dst (.pointer (some ⟨g, 0, none⟩))) w') : wpList P ops Q (o :: rest) a w :=
  wpList_box hgd ho hx hcs (fun w' hn => h _ w' rfl hn)

/-- A store of a whole value into the head of a block. -/
theorem wpList_storeAll {T t : TypeId} {x y : Operand} {g : Nat} {v : Value} {cs cur : Array Value} (hgd : o.guard = none) (ho : o.op = .store T x y) (hx : a.eval x = .pointer (some ⟨g, 0, none⟩)) (hy : a.eval y = v) (hcs : v.cells = cs)
    (hg : w.heap[g]? = some (.cells cur t (0, 0))) (hs : cs.size = cur.size) (hT : (P.info? T).map (·.size) = some cs.size) (h1 : ∀ u ∈ cs.toList, u.oneCell' = true)
    (h : ∀ w', Upd w g (.cells cs t (0, 0)) w' → wpList P ops Q rest (a.put o.dst undef) w') : wpList P ops Q (o :: rest) a w := by
  refine wpList_plain hgd fun K hK => ?_
  subst hcs
  have hst := run_storeCells_at (P := P) g 0 t v.cells.toList 0 cur w hg (by simp [hs]) h1
  have e : (cur.toList.take (0 + 0) ++ v.cells.toList ++ cur.toList.drop (0 + 0 + v.cells.toList.length)).toArray = v.cells := by
    have hd : cur.toList.drop v.cells.size = [] := List.drop_eq_nil_of_le (by simp [hs])
    simp [hd]
  rw [e] at hst
  cases hq : P.info? T with
  | none => simp [hq] at hT
  | some i =>
    have hi : i.size = cur.size := by simpa [hq, hs] using hT
    unfold Oper.wp
    simp only [execOp, ho, hx, hy, Instr.storeAt, Instr.sureAddr, storeVar, sizeOf, typeInfo, hq, hi, hs, Sem.run_bind, Sem.run_pure, Result.andThen_ok, hst]
    simp [hq, hi, hst, Oper.upon]
    exact hK _ _ (h _ (Upd.setRow hg))

/-- A store of one cell into a block. -/
theorem wpList_storeCell {T t : TypeId} {x y : Operand} {g off : Nat} {v : Value} {cur : Array Value} (hgd : o.guard = none) (ho : o.op = .store T x y) (hx : a.eval x = .pointer (some ⟨g, off, none⟩)) (hy : a.eval y = v)
    (hg : w.heap[g]? = some (.cells cur t (0, 0))) (hs : off < cur.size) (hT : (P.info? T).map (·.size) = some 1) (hc : v.cells = #[v]) (h1 : v.oneCell' = true)
    (h : ∀ w', Upd w g (.cells (cur.setIfInBounds off v) t (0, 0)) w' → wpList P ops Q rest (a.put o.dst undef) w') : wpList P ops Q (o :: rest) a w := by
  refine wpList_plain hgd fun K hK => ?_
  have hst := run_storeCells_at (P := P) g off t [v] 0 cur w hg (by simp; omega) (by simpa using h1)
  have e : (cur.toList.take (off + 0) ++ [v] ++ cur.toList.drop (off + 0 + [v].length)).toArray = cur.setIfInBounds off v := by
    apply Array.toList_inj.1
    rw [Array.toList_setIfInBounds, List.set_eq_take_append_cons_drop, if_pos (by simpa using hs)]
    simp
  rw [e] at hst
  cases hq : P.info? T with
  | none => simp [hq] at hT
  | some i =>
    have hi : i.size = 1 := by simpa [hq] using hT
    unfold Oper.wp
    simp only [execOp, ho, hx, hy, Instr.storeAt, Instr.sureAddr, storeVar, sizeOf, typeInfo, hq, hi, hc, Sem.run_bind, Sem.run_pure, Result.andThen_ok, hst]
    simp [hq, hi, hst, Oper.upon]
    exact hK _ _ (h _ (Upd.setRow hg))

/-- A load of one cell of a block. -/
theorem wpList_loadCell {T t : TypeId} {x : Operand} {g off : Nat} {v : Value} {cur : Array Value} {fr : Nat × Nat} {d : TypeDesc} (hgd : o.guard = none) (ho : o.op = .load T x) (hx : a.eval x = .pointer (some ⟨g, off, none⟩))
    (hu : P.underlying T = some d) (hd : (match d with | .struct _ | .array _ _ => true | _ => false) = false) (hg : w.heap[g]? = some (.cells cur t fr)) (hc : cur[off]? = some v)
    (h : wpList P ops Q rest (a.put o.dst v) w) : wpList P ops Q (o :: rest) a w := by
  refine wpList_run hgd ?_ h
  have hcell : w.cell? ⟨g, off, none⟩ = some v := (cell_of_row w g off cur t fr hg).trans hc
  have hagg : (isAgg T).run P w = .ok false w := by
    unfold isAgg
    rw [Sem.run_bind, run_underlying hu w]
    cases d <;> simp_all
  simp [execOp, ho, hx, Instr.loadAt, Instr.sureAddr, loadVar, Sem.run_bind, hagg, run_load, hcell]

/-- A load of a whole value out of a block. -/
theorem wpList_loadAgg {T t : TypeId} {x : Operand} {g off : Nat} {vs : List Value} {cur : Array Value} {fr : Nat × Nat} {d : TypeDesc} (hgd : o.guard = none) (ho : o.op = .load T x) (hx : a.eval x = .pointer (some ⟨g, off, none⟩))
    (hu : P.underlying T = some d) (hd : (match d with | .struct _ | .array _ _ => true | _ => false) = true) (hg : w.heap[g]? = some (.cells cur t fr)) (hT : (P.info? T).map (·.size) = some vs.length)
    (hc : ∀ (j : Nat) (v : Value), vs[j]? = some v → cur[off + j]? = some v)
    (h : wpList P ops Q rest (a.put o.dst (.agg vs.toArray)) w) : wpList P ops Q (o :: rest) a w := by
  refine wpList_run hgd ?_ h
  have hl : (loadCells ⟨g, off, none⟩ vs.length).run P w = .ok vs.toArray w :=
    run_loadCells_list (P := P) w ⟨g, off, none⟩ vs (fun j v hv => by
      have hadd : (⟨g, off, none⟩ : Addr).add j = ⟨g, off + j, none⟩ := by unfold Addr.add; split <;> simp_all
      rw [hadd, cell_of_row w g (off + j) cur t fr hg]
      exact hc j v hv)
  have hagg : (isAgg T).run P w = .ok true w := by
    unfold isAgg
    rw [Sem.run_bind, run_underlying hu w]
    cases d <;> simp_all
  cases hq : P.info? T with
  | none => simp [hq] at hT
  | some i =>
    have hi : i.size = vs.length := by simpa [hq] using hT
    simp [execOp, ho, hx, Instr.loadAt, Instr.sureAddr, loadVar, Sem.run_bind, hagg, sizeOf, typeInfo, hq, hi, hl]
end ops
end Go.Proofs.Ytdaagmhkhfcmdaa
