/- Steps for the law package's yields. -/
import Derived.Test.YtpfdlpniijgakaaDoorRangeW
import Derived.Test.YtpfdlpniijgakaaDoorLawKit2
namespace Go.Proofs.YtpfdlpniijgakaaDoor
open Go Go.RowKit
set_option maxHeartbeats 400000

theorem walkPart_walks : ∀ (L : Nat) (t : PT) (first f u : Int), walkTo L t first f u 16 = walks L t first f u
  | 0, t, first, f, u => by
    unfold walkTo walks
    congr 1
    funext i
    unfold walkIf walkPart
    simp
  | L + 1, t, first, f, u => by
    unfold walkTo walks
    congr 1
    funext i
    unfold walkIf
    rw [walkPart_succ, walkPart_walks L]

section
variable {P : Program} {ops : Array Oper} {rest : List Oper} {o : Oper} {a : Act} {w : World} {Q : Exit → Act → World → Prop}
/-- A load of one cell, the operation guarded or not. -/
theorem wpList_loadCellW {T t : TypeId} {x : Operand} {g off : Nat} {v : Value} {cur : Array Value} {fr : Nat × Nat} {d : TypeDesc} (hw : Region.wanted o (yielded ops a.tmps) = true) (ho : o.op = .load T x) (hx : a.eval x = .pointer (some ⟨g, off, none⟩))
    (hu : P.underlying T = some d) (hd : (match d with | .struct _ | .array _ _ => true | _ => false) = false) (hg : w.heap[g]? = some (.cells cur t fr)) (hc : cur[off]? = some v)
    (h : wpList P ops Q rest (a.put o.dst v) w) : wpList P ops Q (o :: rest) a w := by
  refine wpList_runW hw ?_ h
  have hcell : w.cell? ⟨g, off, none⟩ = some v := (cell_of_row w g off cur t fr hg).trans hc
  have hagg : (isAgg T).run P w = .ok false w := by
    unfold isAgg
    rw [Sem.run_bind, run_underlying hu w]
    cases d <;> simp_all
  simp [execOp, ho, hx, Instr.loadAt, Instr.sureAddr, loadVar, Sem.run_bind, hagg, run_load, hcell]
end
theorem zero_int (w : World) : (zeroValue 3).run Tryd.prog w = .ok (.int .i64 0) w := by kernel_rfl
theorem size_int : (Tryd.prog.info? 3).map (·.size) = some 1 := by kernel_rfl
theorem size_bool : (Tryd.prog.info? 4).map (·.size) = some 1 := by kernel_rfl

/-- A box of the call's own, frozen; its other boxes stay its own. -/
theorem St.shut' {K0 K : Fz} {w W : World} {g : Nat} {cs : Array Value} {t : TypeId} {fr : Nat × Nat} (s : St K0 w K W) (o : Own w K W g (.cells cs t fr)) :
    ∃ K', Ext K K' ∧ St K0 w K' W ∧ K' g = some (.cells cs t fr) ∧ ∀ g2 o2, Own w K W g2 o2 → g2 ≠ g → Own w K' W g2 o2 := by
  refine ⟨_, fun b o' hb => ?_, s.freeze o, Fz.add_self _ _ _, fun g2 o2 h2 hne => h2.freeze hne⟩
  rw [Fz.add_other _ _ (by rintro rfl; rw [o.none_] at hb; cases hb)]; exact hb
theorem Iter.ext {α : Type} {P : Program} {gf : Nat} {lb : Array Value} {encs : α → Array Value} {xs : List α} {K K' : Fz} (h : Iter P gf lb encs xs K) (hE : Ext K K') : Iter P gf lb encs xs K' :=
  fun l J Jx K1 W hE1 => h l J Jx K1 W (hE.trans hE1)

/-- What a round of yields keeps. -/
def YI (K0 : Fz) (w : World) (B g12 g15 : Nat) (ds : List Nat) (pre : List (Int × Int)) (K : Fz) (W : World) : Prop :=
  St K0 w K W ∧ Own w K W g15 (.cells #[.int .i64 (pre.length : Nat)] 3 (0, 0)) ∧ Own w K W g12 (.cells #[.bool false] 4 (0, 0)) ∧ ∀ D ∈ ds, D < B ∧ W.heap[D]? = some (.deferred (some []))
theorem YI.ex {K0 : Fz} {w : World} {B g12 g15 : Nat} {ds : List Nat} {pre : List (Int × Int)} {K K' : Fz} {W W' : World} (hB : w.heap.size ≤ B) (h : YI K0 w B g12 g15 ds pre K W) (e : Ex B K W K' W') : YI K0 w B g12 g15 ds pre K' W' :=
  ⟨h.1.ex e hB, h.2.1.ex e, h.2.2.1.ex e, fun D hD => ⟨(h.2.2.2 D hD).1, (e.low D (h.2.2.2 D hD).1).trans (h.2.2.2 D hD).2⟩⟩
/-- How a round of yields may leave. -/
def YX (stop : Prop) (nn : Int) (Kb K0 : Fz) (w : World) (B g12 g15 : Nat) (ds : List Nat) (c : Code) (K : Fz) (W : World) : Prop := stop ∧ c = .exit 2 ∧ Ext Kb K ∧ ∃ pre : List (Int × Int), ((pre.length : Nat) : Int) = nn ∧ YI K0 w B g12 g15 ds pre K W
end Go.Proofs.YtpfdlpniijgakaaDoor
