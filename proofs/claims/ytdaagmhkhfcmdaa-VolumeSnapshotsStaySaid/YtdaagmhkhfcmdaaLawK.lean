/- Steps of the laws' walks, guarded or not: a length, a literal, a load: no program in sight. -/
import Derived.Test.YtdaagmhkhfcmdaaOps
import Derived.Great.BuildSlice
namespace Go.Proofs.Ytdaagmhkhfcmdaa
open Go Go.RowKit
set_option maxHeartbeats 400000

section
variable {P : Program} {ops : Array Oper} {rest : List Oper} {o : Oper} {a : Act} {w : World} {Q : Exit → Act → World → Prop}

theorem wpList_runW {v : Value} {w' : World} (hw : Region.wanted o (yielded ops a.tmps) = true) (hr : (execOp a.eval o).run P w = .ok (.value v) w') (h : wpList P ops Q rest (a.put o.dst v) w') : wpList P ops Q (o :: rest) a w :=
  wpList_step fun K hK => by rw [if_pos hw]; unfold Oper.wp; rw [hr]; exact hK _ _ h

theorem gate_call {dst : Option Tmp} {ty : TypeId} {pos : String} {after : Array Edge} {gd : Option (Nat × Bool)} {c : Call}
    (h : wpList P ops Q ({ dst, op := .call c, type := ty, pos, after, guard := gd } :: rest) a w) : wpList P ops Q ({ dst, op := .call c, type := ty, pos, after, guard := gd } :: rest) a w := h

/-- 'len' of a slice of which only the length is known. -/
theorem wpList_lenSlice {T te : TypeId} {x : Operand} {v : Value} {ad : Option Addr} {n c : Nat} (hw : Region.wanted o (yielded ops a.tmps) = true) (ho : o.op = .call { callee := .builtin .len, args := #[x], argTypes := #[T] }) (hx : a.eval x = v)
    (hv : v = .slice ad n c) (hT : P.underlying T = some (.slice te)) (h : wpList P ops Q rest (a.put o.dst (.int .i64 (n : Nat))) w) : wpList P ops Q (o :: rest) a w := by
  subst hv
  refine wpList_runW hw ?_ h
  simp [execOp, ho, hx, resolve, invoke, builtin, Builtin.len_, Sem.run_bind, run_underlying hT, goInt]

theorem wpList_build1W {t e : TypeId} {x : Operand} {u z : Value} {sz bytes : Nat} {cs : Array Value} (hw : Region.wanted o (yielded ops a.tmps) = true) (ho : o.op = .buildSlice t 1 #[(0, x)]) (hx : a.eval x = u)
    (hu : P.underlying t = some (.slice e)) (hi : (P.info? e).map (fun i => (i.zero, i.size, i.bytes)) = some (some z, sz, bytes)) (hpos : 0 < sz) (hsmall : sz ≤ 1000)
    (hfill : Instr.fill (fun i => some (i * sz, sz)) ((Array.range (1 * sz)).map (z.cells[· % z.cells.size]!)) [(0, u)] = some cs)
    (h : ∀ g W', g = w.heap.size → New w (.cells cs e) W' → wpList P ops Q rest (a.put o.dst (.slice (some ⟨g, 0, none⟩) 1 1)) W') : wpList P ops Q (o :: rest) a w := by
  cases hie : P.info? e with
  | none => simp [hie] at hi
  | some ie =>
    simp only [hie, Option.map_some, Option.some.injEq, Prod.mk.injEq] at hi
    obtain ⟨hz, rfl, _⟩ := hi
    refine wpList_step fun K hK => ?_
    rw [if_pos hw]
    exact wp_buildSlice t e 1 _ ho cs ie z hu hie hz (by omega) (by omega) (by simpa [hx] using hfill) (hK _ _ (h _ _ rfl (New.alloc _ _)))
theorem wpList_build2W {t e : TypeId} {x y : Operand} {u v z : Value} {sz bytes : Nat} {cs : Array Value} (hw : Region.wanted o (yielded ops a.tmps) = true) (ho : o.op = .buildSlice t 2 #[(0, x), (1, y)]) (hx : a.eval x = u) (hy : a.eval y = v)
    (hu : P.underlying t = some (.slice e)) (hi : (P.info? e).map (fun i => (i.zero, i.size, i.bytes)) = some (some z, sz, bytes)) (hpos : 0 < sz) (hsmall : sz ≤ 1000)
    (hfill : Instr.fill (fun i => some (i * sz, sz)) ((Array.range (2 * sz)).map (z.cells[· % z.cells.size]!)) [(0, u), (1, v)] = some cs)
    (h : ∀ g W', g = w.heap.size → New w (.cells cs e) W' → wpList P ops Q rest (a.put o.dst (.slice (some ⟨g, 0, none⟩) 2 2)) W') : wpList P ops Q (o :: rest) a w := by
  cases hie : P.info? e with
  | none => simp [hie] at hi
  | some ie =>
    simp only [hie, Option.map_some, Option.some.injEq, Prod.mk.injEq] at hi
    obtain ⟨hz, rfl, _⟩ := hi
    refine wpList_step fun K hK => ?_
    rw [if_pos hw]
    exact wp_buildSlice t e 2 _ ho cs ie z hu hie hz (by omega) (by omega) (by simpa [hx, hy] using hfill) (hK _ _ (h _ _ rfl (New.alloc _ _)))

/-- A load of a whole value out of a block, the operation guarded or not. -/
theorem wpList_loadAggW {T t : TypeId} {x : Operand} {g off : Nat} {vs : List Value} {cur : Array Value} {fr : Nat × Nat} {d : TypeDesc} (hw : Region.wanted o (yielded ops a.tmps) = true) (ho : o.op = .load T x) (hx : a.eval x = .pointer (some ⟨g, off, none⟩))
    (hu : P.underlying T = some d) (hd : (match d with | .struct _ | .array _ _ => true | _ => false) = true) (hg : w.heap[g]? = some (.cells cur t fr)) (hT : (P.info? T).map (·.size) = some vs.length)
    (hc : ∀ (j : Nat) (v : Value), vs[j]? = some v → cur[off + j]? = some v)
    (h : wpList P ops Q rest (a.put o.dst (.agg vs.toArray)) w) : wpList P ops Q (o :: rest) a w := by
  refine wpList_runW hw ?_ h
  have hl : (loadCells ⟨g, off, none⟩ vs.length).run P w = .ok vs.toArray w :=
    run_loadCells_list (P := P) w ⟨g, off, none⟩ vs (fun j v hv => by
      have hadd : (⟨g, off, none⟩ : Addr).add j = ⟨g, off + j, none⟩ := by unfold Addr.add; split <;> simp_all
      rw [hadd, cell_of_row w g (off + j) cur t fr hg]
      exact hc j v hv)
  have hagg : (isAgg T).run P w = .ok true w := by
    unfold isAgg
    rw [Sem.run_bind, run_underlying hu w]
    cases d <;> simp_all
  cases hq : P.info? T with
  | none => simp [hq] at hT
  | some i =>
    have hi : i.size = vs.length := by simpa [hq] using hT
    simp [execOp, ho, hx, Instr.loadAt, Instr.sureAddr, loadVar, Sem.run_bind, hagg, sizeOf, typeInfo, hq, hi, hl]
theorem wpList_loadCellW {T t : TypeId} {x : Operand} {g off : Nat} {v : Value} {cur : Array Value} {fr : Nat × Nat} {d : TypeDesc} (hw : Region.wanted o (yielded ops a.tmps) = true) (ho : o.op = .load T x) (hx : a.eval x = .pointer (some ⟨g, off, none⟩))
    (hu : P.underlying T = some d) (hd : (match d with | .struct _ | .array _ _ => true | _ => false) = false) (hg : w.heap[g]? = some (.cells cur t fr)) (hc : cur[off]? = some v)
    (h : wpList P ops Q rest (a.put o.dst v) w) : wpList P ops Q (o :: rest) a w := by
  refine wpList_runW hw ?_ h
  have hcell : w.cell? ⟨g, off, none⟩ = some v := (cell_of_row w g off cur t fr hg).trans hc
  have hagg : (isAgg T).run P w = .ok false w := by
    unfold isAgg
    rw [Sem.run_bind, run_underlying hu w]
    cases d <;> simp_all
  simp [execOp, ho, hx, Instr.loadAt, Instr.sureAddr, loadVar, Sem.run_bind, hagg, run_load, hcell]
end
end Go.Proofs.Ytdaagmhkhfcmdaa
