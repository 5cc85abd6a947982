/- Boxes that are frozen and thawed; a ghost with marks: no program in sight. -/
import Derived.Test.YtdaagmhkhfcmdaaDoorDrawn
import Derived.Test.YtdaagmhkhfcmdaaDoorGC
import Derived.Test.YtdaagmhkhfcmdaaDoorGA
import Derived.Great.BuildSlice
import Derived.Test.YtdaagmhkhfcmdaaDoorVolS
import Derived.Test.YtdaagmhkhfcmdaaDoorGD
namespace Go.Proofs.YtdaagmhkhfcmdaaDoor
open Go Go.RowKit
set_option maxHeartbeats 400000

def Fz.del (K : Fz) (g : Nat) : Fz := fun c => if c = g then none else K c
theorem Fz.del_self (K : Fz) (g : Nat) : K.del g g = none := by simp [Fz.del]
theorem Fz.del_other (K : Fz) {g c : Nat} (h : c ≠ g) : K.del g c = K c := by simp [Fz.del, h]
theorem Ext.del {K K' : Fz} {g : Nat} (h : Ext K K') (hg : K g = none) : Ext K (K'.del g) := fun b o hb => by
  rw [Fz.del_other _ (by rintro rfl; rw [hg] at hb; cases hb)]; exact h b o hb
theorem Tr.del {T : Nat} {K : Fz} {g : Nat} {cs : Array Value} {T' : Nat} {fr : Nat × Nat} (hk : K g = some (.cells cs T' fr)) (hs : cs.size ≠ 33) : ∀ {t : PT}, Tr T K t → Tr T (K.del g) t := by
  intro t
  induction t with
  | nil => exact id
  | node b h k c ih =>
    rintro ⟨h1, h2, h3⟩
    refine ⟨?_, h2, fun i => ih i (h3 i)⟩
    rw [Fz.del_other]
    · exact h1
    · rintro rfl
      rw [hk] at h1
      have e : cs = nodeCells h k c := by cases Option.some.inj h1; rfl
      exact hs (by rw [e, nodeCells_size])
/-- A frozen box becomes the call's own. -/
theorem St.thaw {K0 K : Fz} {w W : World} {g : Nat} {o : Obj} (s : St K0 w K W) (hk : K g = some o) (hg : w.heap.size ≤ g) : St K0 w (K.del g) W ∧ Own w (K.del g) W g o := by
  refine ⟨⟨fun b o' hb => ?_, fun b hb => ?_, s.below⟩, ⟨s.inn.get hk, Fz.del_self _ _, hg⟩⟩
  · unfold Fz.del at hb
    split at hb
    · cases hb
    · exact s.inn b o' hb
  · rw [Fz.del_other _ (by omega)]; exact s.le b hb
/-- A box just made, frozen. -/
theorem St.box {K0 K : Fz} {w W W' : World} {g e : Nat} {cs : Array Value} (s : St K0 w K W) (hg : g = W.heap.size) (hn : New W (.cells cs e) W') :
    ∃ K', Ext K K' ∧ St K0 w K' W' ∧ K' g = some (.cells cs e (0, 0)) ∧ w.heap.size ≤ g ∧ K g = none := by
  have o := Own.made s hg hn
  refine ⟨_, fun b o' hb => ?_, (s.new hn).freeze o, Fz.add_self _ _ _, o.base, o.none_⟩
  rw [Fz.add_other _ _ (by rintro rfl; rw [o.none_] at hb; cases hb)]; exact hb
/-- A box of the call's own, frozen. -/
theorem St.shut {K0 K : Fz} {w W : World} {g : Nat} {cs : Array Value} {t : TypeId} {fr : Nat × Nat} (s : St K0 w K W) (o : Own w K W g (.cells cs t fr)) :
    ∃ K', Ext K K' ∧ St K0 w K' W ∧ K' g = some (.cells cs t fr) := by
  refine ⟨_, fun b o' hb => ?_, s.freeze o, Fz.add_self _ _ _⟩
  rw [Fz.add_other _ _ (by rintro rfl; rw [o.none_] at hb; cases hb)]; exact hb

/-- The value of an 'alloc' in a drawn region. -/
def BoxV (base : Nat) (K0 : Fz) (cs : Array Value) (T : Nat) (K : Fz) (v : Value) : Prop := ∃ g, v = .pointer (some ⟨g, 0, none⟩) ∧ K g = some (.cells cs T (0, 0)) ∧ base ≤ g ∧ K0 g = none
theorem BoxV.ext {base : Nat} {K0 : Fz} {cs : Array Value} {T : Nat} {K K' : Fz} {v : Value} (hE : Ext K K') (h : BoxV base K0 cs T K v) : BoxV base K0 cs T K' v := by
  obtain ⟨g, e, hk, hb, hn⟩ := h
  exact ⟨g, e, hE _ _ hk, hb, hn⟩
theorem none_of_ext {K K' : Fz} {g : Nat} (h : Ext K K') (hg : K' g = none) : K g = none := by
  cases e : K g with
  | none => rfl
  | some o => rw [h _ _ e] at hg; cases hg


/-- A ghost that names a row of the call's own. -/
structure Rg where
  K : Fz
  row : Option Value
instance : Gh Rg := ⟨fun a b => Ext a.K b.K ∧ ∀ v, a.row = some v → b.row = some v, fun _ => ⟨Ext.refl _, fun _ h => h⟩, fun h k => ⟨h.1.trans k.1, fun v hv => k.2 v (h.2 v hv)⟩⟩
/-- In a region whose i-th operation makes a row and whose j-th one uses it: how things stand when the operations of L have come. g: a box of the call's own. -/
structure RowI (K0 : Fz) (w : World) (g : Nat) (o : Obj) (e sz n : Nat) (xs : List Value) (i j : Nat) (L : Nat → Bool) (T : Rg) (W : World) : Prop where
  st : St K0 w T.K W
  own : Own w T.K W g o
  none_ : L i = false → T.row = none
  row : L j = false → ∀ v, T.row = some v → Row w T.K W e sz v n xs ∧ v.ownBlock ≠ some g
section
variable {K0 : Fz} {w : World} {g : Nat} {o : Obj} {e sz n : Nat} {xs : List Value} {i j k : Nat} {L : Nat → Bool} {T : Rg} {W W' : World}
theorem RowI.same (h : RowI K0 w g o e sz n xs i j L T W) (hi : i ≠ k) (hj : j ≠ k) : RowI K0 w g o e sz n xs i j (come L k) T W :=
  ⟨h.st, h.own, fun hl => h.none_ (by rwa [come_other hi] at hl), fun hl => h.row (by rwa [come_other hj] at hl)⟩
theorem RowI.call {K' : Fz} (h : RowI K0 w g o e sz n xs i j L T W) (hi : i ≠ k) (hj : j ≠ k) (h1 : K'.In W') (h2 : T.K.Le W.heap.size K') (h3 : Below W.heap.size W W') : RowI K0 w g o e sz n xs i j (come L k) ⟨K', T.row⟩ W' :=
  ⟨h.st.call h1 h2 h3, h.own.call h2 h3, fun hl => h.none_ (by rwa [come_other hi] at hl), fun hl v hv => by
    obtain ⟨r, hne⟩ := h.row (by rwa [come_other hj] at hl) v hv
    exact ⟨r.call h2 h3, hne⟩⟩
theorem RowI.quiet (h : RowI K0 w g o e sz n xs i j L T W) (hi : i ≠ k) (hj : j ≠ k) (h3 : Below W.heap.size W W') : RowI K0 w g o e sz n xs i j (come L k) T W' :=
  h.call hi hj (h.st.inn.below h3) (Fz.Le.refl _ _) h3
theorem Rg.le_call {K' : Fz} {T : Rg} {W : World} (hi : T.K.In W) (hl : T.K.Le W.heap.size K') : Gh.le T ⟨K', T.row⟩ := ⟨Ext.of_le hi hl, fun _ h => h⟩
/-- The row is made. -/
theorem RowI.made {v : Value} (h : RowI K0 w g o e sz n xs i j L T W) (hL : L i = false) (hb : Below W.heap.size W W') (hr : W'.ownsRow W.heap.size e sz v n xs) :
    RowI K0 w g o e sz n xs i j (come L i) ⟨T.K, some v⟩ W' ∧ Gh.le T ⟨T.K, some v⟩ := by
  have r : Row w T.K W' e sz v n xs := ⟨⟨hr.1, by
    rcases hr.2 with h0 | ⟨g', cap, cur, h1, h2, h3⟩
    · exact .inl h0
    · exact .inr ⟨g', cap, cur, h1, Nat.le_trans h.st.size h2, h3⟩⟩, fun b hb' => h.st.inn.out (ownsRow_lt hr hb').2⟩
  refine ⟨⟨h.st.quiet hb, h.own.quiet hb, fun hl => by simp [come] at hl, fun _ u hu => ?_⟩, Ext.refl _, fun u hu => ?_⟩
  · cases hu
    exact ⟨r, fun hg => by have h1 := (ownsRow_lt hr hg).2; have h2 := h.own.lt; omega⟩
  · rw [h.none_ hL] at hu; cases hu
/-- A block is made, and frozen. -/
theorem RowI.box {gn t : Nat} {cs : Array Value} (h : RowI K0 w g o e sz n xs i j L T W) (hi : i ≠ k) (hj : j ≠ k) (hg : gn = W.heap.size) (hn : New W (.cells cs t) W') :
    ∃ T' : Rg, Gh.le T T' ∧ RowI K0 w g o e sz n xs i j (come L k) T' W' ∧ T'.K gn = some (.cells cs t (0, 0)) := by
  have ow := Own.made h.st hg hn
  have hne : g ≠ gn := h.own.ne hg
  refine ⟨⟨T.K.add gn (.cells cs t (0, 0)), T.row⟩, ⟨fun b o' hb => ?_, fun _ hv => hv⟩, ⟨(h.st.new hn).freeze ow, (h.own.new hn).freeze hne, fun hl => h.none_ (by rwa [come_other hi] at hl), fun hl v hv => ?_⟩, Fz.add_self _ _ _⟩
  · show T.K.add gn _ b = _
    rw [Fz.add_other _ _ (by rintro rfl; rw [ow.none_] at hb; cases hb)]; exact hb
  · obtain ⟨r, hr⟩ := h.row (by rwa [come_other hj] at hl) v hv
    exact ⟨(r.new hn).freeze (r.ne hg), hr⟩
end
end Go.Proofs.YtdaagmhkhfcmdaaDoor
/- Steps of the laws' walks, guarded or not: a length, a literal, a load: no program in sight. -/
namespace Go.Proofs.YtdaagmhkhfcmdaaDoor
open Go Go.RowKit
set_option maxHeartbeats 400000

section
variable {P : Program} {ops : Array Oper} {rest : List Oper} {o : Oper} {a : Act} {w : World} {Q : Exit → Act → World → Prop}

theorem wpList_runW {v : Value} {w' : World} (hw : Region.wanted o (yielded ops a.tmps) = true) (hr : (execOp a.eval o).run P w = .ok (.value v) w') (h : wpList P ops Q rest (a.put o.dst v) w') : wpList P ops Q (o :: rest) a w :=
  wpList_step fun K hK => by rw [if_pos hw]; unfold Oper.wp; rw [hr]; exact hK _ _ h

theorem gate_call {dst : Option Tmp} {ty : TypeId} {pos : String} {after : Array Edge} {gd : Option (Nat × Bool)} {c : Call}
    (h : wpList P ops Q ({ dst, op := .call c, type := ty, pos, after, guard := gd } :: rest) a w) : wpList P ops Q ({ dst, op := .call c, type := ty, pos, after, guard := gd } :: rest) a w := h

/-- 'len' of a slice of which only the length is known. -/
theorem wpList_lenSlice {T te : TypeId} {x : Operand} {v : Value} {ad : Option Addr} {n c : Nat} (hw : Region.wanted o (yielded ops a.tmps) = true) (ho : o.op = .call { callee := .builtin .len, args := #[x], argTypes := #[T] }) (hx : a.eval x = v)
    (hv : v = .slice ad n c) (hT : P.underlying T = some (.slice te)) (h : wpList P ops Q rest (a.put o.dst (.int .i64 (n : Nat))) w) : wpList P ops Q (o :: rest) a w := by
  subst hv
  refine wpList_runW hw ?_ h
  simp [execOp, ho, hx, resolve, invoke, builtin, Builtin.len_, Sem.run_bind, run_underlying hT, goInt]

theorem wpList_build1W {t e : TypeId} {x : Operand} {u z : Value} {sz bytes : Nat} {cs : Array Value} (hw : Region.wanted o (yielded ops a.tmps) = true) (ho : o.op = .buildSlice t 1 #[(0, x)]) (hx : a.eval x = u)
    (hu : P.underlying t = some (.slice e)) (hi : (P.info? e).map (fun i => (i.zero, i.size, i.bytes)) = some (some z, sz, bytes)) (hpos : 0 < sz) (hsmall : sz ≤ 1000)
    (hfill : Instr.fill (fun i => some (i * sz, sz)) ((Array.range (1 * sz)).map (z.cells[· % z.cells.size]!)) [(0, u)] = some cs)
    (h : ∀ g W', g = w.heap.size → New w (.cells cs e) W' → wpList P ops Q rest (a.put o.dst (.slice (some ⟨g, 0, none⟩) 1 1)) W') : wpList P ops Q (o :: rest) a w := by
  cases hie : P.info? e with
  | none => simp [hie] at hi
  | some ie =>
    simp only [hie, Option.map_some, Option.some.injEq, Prod.mk.injEq] at hi
    obtain ⟨hz, rfl, _⟩ := hi
    refine wpList_step fun K hK => ?_
    rw [if_pos hw]
    exact wp_buildSlice t e 1 _ ho cs ie z hu hie hz (by omega) (by omega) (by simpa [hx] using hfill) (hK _ _ (h _ _ rfl (New.alloc _ _)))
theorem wpList_build2W {t e : TypeId} {x y : Operand} {u v z : Value} {sz bytes : Nat} {cs : Array Value} (hw : Region.wanted o (yielded ops a.tmps) = true) (ho : o.op = .buildSlice t 2 #[(0, x), (1, y)]) (hx : a.eval x = u) (hy : a.eval y = v)
    (hu : P.underlying t = some (.slice e)) (hi : (P.info? e).map (fun i => (i.zero, i.size, i.bytes)) = some (some z, sz, bytes)) (hpos : 0 < sz) (hsmall : sz ≤ 1000)
    (hfill : Instr.fill (fun i => some (i * sz, sz)) ((Array.range (2 * sz)).map (z.cells[· % z.cells.size]!)) [(0, u), (1, v)] = some cs)
    (h : ∀ g W', g = w.heap.size → New w (.cells cs e) W' → wpList P ops Q rest (a.put o.dst (.slice (some ⟨g, 0, none⟩) 2 2)) W') : wpList P ops Q (o :: rest) a w := by
  cases hie : P.info? e with
  | none => simp [hie] at hi
  | some ie =>
    simp only [hie, Option.map_some, Option.some.injEq, Prod.mk.injEq] at hi
    obtain ⟨hz, rfl, _⟩ := hi
    refine wpList_step fun K hK => ?_
    rw [if_pos hw]
    exact wp_buildSlice t e 2 _ ho cs ie z hu hie hz (by omega) (by omega) (by simpa [hx, hy] using hfill) (hK _ _ (h _ _ rfl (New.alloc _ _)))

/-- A load of a whole value out of a block, the operation guarded or not. -/
theorem wpList_loadAggW {T t : TypeId} {x : Operand} {g off : Nat} {vs : List Value} {cur : Array Value} {fr : Nat × Nat} {d : TypeDesc} (hw : Region.wanted o (yielded ops a.tmps) = true) (ho : o.op = .load T x) (hx : a.eval x = .pointer (some ⟨g, off, none⟩))
    (hu : P.underlying T = some d) (hd : (match d with | .struct _ | .array _ _ => true | _ => false) = true) (hg : w.heap[g]? = some (.cells cur t fr)) (hT : (P.info? T).map (·.size) = some vs.length)
    (hc : ∀ (j : Nat) (v : Value), vs[j]? = some v → cur[off + j]? = some v)
    (h : wpList P ops Q rest (a.put o.dst (.agg vs.toArray)) w) : wpList P ops Q (o :: rest) a w := by
  refine wpList_runW hw ?_ h
  have hl : (loadCells ⟨g, off, none⟩ vs.length).run P w = .ok vs.toArray w :=
    run_loadCells_list (P := P) w ⟨g, off, none⟩ vs (fun j v hv => by
      have hadd : (⟨g, off, none⟩ : Addr).add j = ⟨g, off + j, none⟩ := by unfold Addr.add; split <;> simp_all
      rw [hadd, cell_of_row w g (off + j) cur t fr hg]
      exact hc j v hv)
  have hagg : (isAgg T).run P w = .ok true w := by
    unfold isAgg
    rw [Sem.run_bind, run_underlying hu w]
    cases d <;> simp_all
  cases hq : P.info? T with
  | none => simp [hq] at hT
  | some i =>
    have hi : i.size = vs.length := by simpa [hq] using hT
    simp [execOp, ho, hx, Instr.loadAt, Instr.sureAddr, loadVar, Sem.run_bind, hagg, sizeOf, typeInfo, hq, hi, hl]
theorem wpList_loadCellW {T t : TypeId} {x : Operand} {g off : Nat} {v : Value} {cur : Array Value} {fr : Nat × Nat} {d : TypeDesc} (hw : Region.wanted o (yielded ops a.tmps) = true) (ho : o.op = .load T x) (hx : a.eval x = .pointer (some ⟨g, off, none⟩))
    (hu : P.underlying T = some d) (hd : (match d with | .struct _ | .array _ _ => true | _ => false) = false) (hg : w.heap[g]? = some (.cells cur t fr)) (hc : cur[off]? = some v)
    (h : wpList P ops Q rest (a.put o.dst v) w) : wpList P ops Q (o :: rest) a w := by
  refine wpList_runW hw ?_ h
  have hcell : w.cell? ⟨g, off, none⟩ = some v := (cell_of_row w g off cur t fr hg).trans hc
  have hagg : (isAgg T).run P w = .ok false w := by
    unfold isAgg
    rw [Sem.run_bind, run_underlying hu w]
    cases d <;> simp_all
  simp [execOp, ho, hx, Instr.loadAt, Instr.sureAddr, loadVar, Sem.run_bind, hagg, run_load, hcell]
end
end Go.Proofs.YtdaagmhkhfcmdaaDoor
/- Give, Map, Unmap and Restore. Written by gen_VolT.py. -/
namespace Go.Proofs.YtdaagmhkhfcmdaaDoor
open Go Go.RowKit
set_option maxHeartbeats 400000

theorem zero_int1 (w : World) : (zeroValue 3).run Tryd.prog w = .ok (.int .i64 0) w := by kernel_rfl
/-- Two boxes of the call's own, frozen. -/
theorem St.shut2 {K0 K : Fz} {w W : World} {g g' : Nat} {cs cs' : Array Value} {t t' : TypeId} {fr fr' : Nat × Nat} (s : St K0 w K W) (o : Own w K W g (.cells cs t fr)) (o' : Own w K W g' (.cells cs' t' fr')) (hne : g ≠ g') :
    ∃ K', Ext K K' ∧ St K0 w K' W ∧ K' g = some (.cells cs t fr) ∧ K' g' = some (.cells cs' t' fr') := by
  have o2 := o'.freeze (o' := .cells cs t fr) (fun e => hne e.symm)
  refine ⟨_, fun b oo hb => ?_, (s.freeze o).freeze o2, ?_, Fz.add_self _ _ _⟩
  · rw [Fz.add_other _ _ (by rintro rfl; rw [o'.none_] at hb; cases hb), Fz.add_other _ _ (by rintro rfl; rw [o.none_] at hb; cases hb)]
    exact hb
  · rw [Fz.add_other _ _ hne]; exact Fz.add_self _ _ _
/-- What a verb with two results leaves. -/
def Two (r : Asp × Int × Int) (K' : Fz) (u : Value) : Prop := ∃ v', u = .tuple #[v', .int .i64 r.2.2] ∧ Res K' r v'
def Three (r : Asp × Int × Int) (K' : Fz) (u : Value) : Prop := ∃ v', u = .tuple #[v', .int .i64 r.2.1, .int .i64 r.2.2] ∧ Res K' r v'

set_option maxRecDepth 100000 in
theorem Give_ok (K : Fz) (v : Value) (A : Asp) (x b : Int) (w : World) (hK : K.In w) (hS : SpA K v A) (hG : Good A) :
    Calls Tryd.prog 18 #[v, .int .i64 x, .int .i64 b] w (Ret K w (Two (A.change x (tenB b) (AP.give b)))) := by
  obtain ⟨q, hq⟩ : ∃ q, tenB b = q := ⟨_, rfl⟩
  have Hq : Hid (decide (0 ≤ b ∧ b < 16) = q) := Lib.hid hq
  rw [hq]
  have s := St.start hK
  have HS := Lib.hid hS
  clear hS hq
  go_enter Tryd.func18, Tryd.ntmps18
  go_wp2_with (first
    | ((with_reducible refine gate_box (T := 3) (x := .tmp 2) ?_); refine wpList_boxG rfl rfl rfl (cs := #[.int .i64 b]) rfl ?_; intro g1 W1 e hn; have o1 := Own.made s e hn; replace s := s.new hn; clear e hn)
    | ((with_reducible refine gate_load (T := 3) (x := .tmp 5) ?_); refine wpList_loadCell rfl rfl rfl Tryd.underlying3 rfl o1.at_ rfl ?_)
    | (go_at_call 37; refine (tenantOK_ok b _).mono ?_; rw [Hq.out]; rintro e W ⟨rfl, rfl⟩)
    | (go_at_call 36; obtain ⟨K1, hE1, s1, hk1⟩ := s.shut o1; refine (change_give K1 v A x q _ s1.inn (HS.out.ext hE1) hG hk1).mono ?_; rintro e W5 ⟨u, K2, rfl, hi, hl, hb, v', rfl, hres⟩; replace s1 := s1.call hi hl hb; clear hi hl hb)
    | fail)
  go_ret2
  exact s1.ret ⟨v', rfl, hres⟩

set_option maxRecDepth 100000 in
theorem Unmap_ok (K : Fz) (v : Value) (A : Asp) (x b : Int) (w : World) (hK : K.In w) (hS : SpA K v A) (hG : Good A) :
    Calls Tryd.prog 20 #[v, .int .i64 x, .int .i64 b] w (Ret K w (Two (A.change x (blkB b) (AP.unmap b)))) := by
  obtain ⟨q, hq⟩ : ∃ q, blkB b = q := ⟨_, rfl⟩
  have Hq : Hid (decide (0 ≤ b ∧ b < 4096) = q) := Lib.hid hq
  rw [hq]
  have s := St.start hK
  have HS := Lib.hid hS
  clear hS hq
  go_enter Tryd.func20, Tryd.ntmps20
  go_wp2_with (first
    | ((with_reducible refine gate_box (T := 3) (x := .tmp 2) ?_); refine wpList_boxG rfl rfl rfl (cs := #[.int .i64 b]) rfl ?_; intro g1 W1 e hn; have o1 := Own.made s e hn; replace s := s.new hn; clear e hn)
    | ((with_reducible refine gate_load (T := 3) (x := .tmp 5) ?_); refine wpList_loadCell rfl rfl rfl Tryd.underlying3 rfl o1.at_ rfl ?_)
    | (go_at_call 39; refine (blockOK_ok b _).mono ?_; rw [Hq.out]; rintro e W ⟨rfl, rfl⟩)
    | (go_at_call 36; obtain ⟨K1, hE1, s1, hk1⟩ := s.shut o1; refine (change_unmap K1 v A x q _ s1.inn (HS.out.ext hE1) hG hk1).mono ?_; rintro e W5 ⟨u, K2, rfl, hi, hl, hb, v', rfl, hres⟩; replace s1 := s1.call hi hl hb; clear hi hl hb)
    | fail)
  go_ret2
  exact s1.ret ⟨v', rfl, hres⟩

set_option maxRecDepth 100000 in
set_option maxHeartbeats 4000000 in
theorem Map_ok (K : Fz) (v : Value) (A : Asp) (x b c : Int) (w : World) (hK : K.In w) (hS : SpA K v A) (hG : Good A) :
    Calls Tryd.prog 19 #[v, .int .i64 x, .int .i64 b, .int .i64 c] w (Ret K w (Two (A.change x (blkB b && chkB c) (AP.map b c)))) := by
  obtain ⟨q, hq⟩ : ∃ q, blkB b = q := ⟨_, rfl⟩
  obtain ⟨z, hz⟩ : ∃ z, (blkB b && chkB c) = z := ⟨_, rfl⟩
  have Hq : Hid (decide (0 ≤ b ∧ b < 4096) = q) := Lib.hid hq
  rw [hz]
  rw [hq] at hz
  have s := St.start hK
  have HS := Lib.hid hS
  clear hS hq
  by_cases h0 : 0 ≤ c <;> by_cases h1 : c < 2147483648 <;> cases q
  any_goals (exfalso; omega)
  all_goals
    first | have hd1 := decide_eq_true h1 | have hd1 := decide_eq_false h1
    simp only [chkB, h0, h1, Bool.false_and, Bool.true_and, and_true, and_false, true_and, false_and, decide_true, decide_false] at hz
    subst hz
    go_enter Tryd.func19, Tryd.ntmps19
    go_wp2_with (first
      | ((with_reducible refine gate_box (T := 3) (x := .tmp 2) ?_); refine wpList_boxG rfl rfl rfl (cs := #[.int .i64 b]) rfl ?_; intro g1 W1 e hn; have o1 := Own.made s e hn; replace s := s.new hn; clear e hn)
      | ((with_reducible refine gate_box (T := 3) (x := .tmp 3) ?_); refine wpList_boxG rfl rfl rfl (cs := #[.int .i64 c]) rfl ?_; intro g2 W2 e hn; have n12 := Lib.hid (o1.ne e); have o2 := Own.made s e hn; replace s := s.new hn; replace o1 := o1.new hn; clear e hn)
      | ((with_reducible refine gate_load (T := 3) (x := .tmp 6) ?_); refine wpList_loadCell rfl rfl rfl Tryd.underlying3 rfl o1.at_ rfl ?_)
      | ((with_reducible refine gate_load (T := 3) (x := .tmp 7) ?_); refine wpList_loadCellW rfl rfl rfl Tryd.underlying3 rfl o2.at_ rfl ?_)
      | (go_at_call 39; refine (blockOK_ok b _).mono ?_; rw [Hq.out]; rintro e W ⟨rfl, rfl⟩)
      | (go_at_call 36; obtain ⟨K1, hE1, s1, hk1⟩ := s.shut2 o1 o2 n12.out; refine (change_map K1 v A x _ _ s1.inn (HS.out.ext hE1) hG hk1.1 hk1.2).mono ?_; rintro e W5 ⟨u, K2, rfl, hi, hl, hb, v', rfl, hres⟩; replace s1 := s1.call hi hl hb; clear hi hl hb)
      | fail)
    go_ret2
    first | exact s1.ret ⟨v', rfl, hres⟩ | (rw [show decide (c < 2147483648) = false from decide_eq_false (by omega)] at hres ⊢; exact s1.ret ⟨v', rfl, hres⟩)

set_option maxRecDepth 100000 in
theorem Restore_ok (K : Fz) (v : Value) (A : Asp) (x y : Int) (w : World) (hK : K.In w) (hS : SpA K v A) (hG : Good A) :
    Calls Tryd.prog 24 #[v, .int .i64 x, .int .i64 y] w (Ret K w (Two (A.restore x y))) := by
  have HS := Lib.hid hS
  obtain ⟨S, hSp, e1, e2, hR1, hR2⟩ := hS
  obtain rfl := Asp.eq_mk e1 e2
  clear e1 e2
  have hlen : S.ss.length ≤ 1000000 := by have := hG.s.len; simp only [List.length_map] at this; omega
  have HSp := Lib.hid hSp
  obtain ⟨g, T, sv, ss, rfl, hb, h1, h2, h3, h4, f1, f2⟩ := hSp
  have s := St.start hK
  have Hat := Lib.hid fun W (hW : K.In W) => sAt_ok K ss S.ss y W hW h2 hlen
  have hle := ixN_le Snp.num S.ss y
  have hix : ixN AP.id (S.ss.map Snp.abs) y = ixN Snp.num S.ss y := ixN_map _ _ _ _
  obtain ⟨n, hn⟩ : ∃ n, ixN Snp.num S.ss y = n := ⟨_, rfl⟩
  rw [hn] at hle hix
  obtain ⟨a, cap, rfl, _, _⟩ := h2
  by_cases hlt : n < S.ss.length
  · have hv : Hid (ixV Snp.num S.ss y = (n : Int)) := Lib.hid (by rw [ixV, hn, if_pos hlt])
    obtain ⟨q, hqn⟩ : ∃ q, S.ss[n]? = some q := ⟨_, List.getElem?_eq_getElem hlt⟩
    have hres : Hid (Asp.restore ⟨S.vs.map Vol.abs, S.ss.map Snp.abs⟩ x y = Asp.change ⟨S.vs.map Vol.abs, S.ss.map Snp.abs⟩ x true (AP.maps q.L)) := Lib.hid (by
      refine restore_some (v := q.abs) ?_
      show (S.ss.map Snp.abs)[ixN AP.id (S.ss.map Snp.abs) y]? = _
      rw [hix, List.getElem?_map, hqn]
      rfl)
    have hTq := h4 _ (List.mem_of_getElem? hqn)
    have hRq := hR2 _ (List.mem_of_getElem? hqn)
    have Hqn := Lib.hid hqn
    clear h1 h3 h4 hn hix f1 f2 hR1 hR2 hqn
    go_enter Tryd.func24, Tryd.ntmps24
    go_wp2_with (first
      | ((with_reducible refine gate_box (T := 24) (x := .tmp 0) ?_); refine wpList_boxG rfl rfl rfl (cs := #[.pointer (some ⟨g, 0, none⟩)]) rfl ?_; intro g1 W1 e hn; have o1 := Own.made s e hn; replace s := s.new hn; clear e hn)
      | ((with_reducible refine gate_load (T := 24) ?_); refine wpList_loadCell rfl rfl rfl Tryd.underlying24 rfl o1.at_ rfl ?_)
      | ((with_reducible refine gate_load (T := 48) ?_); refine wpList_loadCell rfl rfl rfl Tryd.underlying48 rfl (s.inn.get hb) rfl ?_)
      | (go_at_call 25; refine (Hat.out _ s.inn).mono ?_; rw [hv.out]; rintro e W4 ⟨rfl, hb4⟩; replace s := s.quiet hb4; replace o1 := o1.quiet hb4; clear hb4)
      | ((with_reducible refine gate_alloc (T := 3) ?_); refine wpList_allocG rfl rfl zero_int1 (cs := #[.int .i64 0]) rfl ?_; intro g2 W2 e hn; have n12 := Lib.hid (o1.ne e); have o2 := Own.made s e hn; replace s := s.new hn; replace o1 := o1.new hn; clear e hn)
      | ((with_reducible refine gate_store (T := 3) ?_); refine wpList_storeAll rfl rfl rfl rfl (cs := #[.int .i64 (n : Nat)]) rfl o2.at_ rfl (by rw [size_int1]; rfl) (by simp [Value.oneCell']) ?_; intro W hu; replace s := s.upd o2 hu; replace o1 := o1.other hu n12.out; replace o2 := o2.upd hu; clear hu)
      | ((with_reducible refine gate_load (T := 3) ?_); refine wpList_loadCell rfl rfl rfl Tryd.underlying3 rfl o2.at_ rfl ?_)
      | (go_at_call 36; obtain ⟨K1, hE1, s1, hk1⟩ := s.shut2 o1 o2 n12.out; refine (change_restore K1 _ _ x true _ s1.inn (HS.out.ext hE1) hG (HSp.out.ext hE1) Hqn.out (hTq.ext hE1) hRq hlen hk1.1 hk1.2).mono ?_; rintro e W5 ⟨u, K2, rfl, hi, hl, hb, v', rfl, hr⟩; replace s1 := s1.call hi hl hb; clear hi hl hb)
      | fail)
    go_ret2
    rw [hres.out]
    exact s1.ret ⟨v', rfl, hr⟩
  · have hv : Hid (ixV Snp.num S.ss y = -1) := Lib.hid (by rw [ixV, hn, if_neg hlt])
    have hres : Hid (Asp.restore ⟨S.vs.map Vol.abs, S.ss.map Snp.abs⟩ x y = (⟨S.vs.map Vol.abs, S.ss.map Snp.abs⟩, 0, 12)) := Lib.hid (by
      refine restore_none ?_
      show (S.ss.map Snp.abs)[ixN AP.id (S.ss.map Snp.abs) y]? = _
      rw [hix, List.getElem?_eq_none (by rw [List.length_map]; omega)])
    clear h1 h3 h4 hn hix f1 f2 hR1 hR2
    go_enter Tryd.func24, Tryd.ntmps24
    go_wp2_with (first
      | ((with_reducible refine gate_box (T := 24) (x := .tmp 0) ?_); refine wpList_boxG rfl rfl rfl (cs := #[.pointer (some ⟨g, 0, none⟩)]) rfl ?_; intro g1 W1 e hn; have o1 := Own.made s e hn; replace s := s.new hn; clear e hn)
      | ((with_reducible refine gate_load (T := 24) ?_); refine wpList_loadCell rfl rfl rfl Tryd.underlying24 rfl o1.at_ rfl ?_)
      | ((with_reducible refine gate_load (T := 48) ?_); refine wpList_loadCell rfl rfl rfl Tryd.underlying48 rfl (s.inn.get hb) rfl ?_)
      | (go_at_call 25; refine (Hat.out _ s.inn).mono ?_; rw [hv.out]; rintro e W4 ⟨rfl, hb4⟩; replace s := s.quiet hb4; replace o1 := o1.quiet hb4; clear hb4)
      | ((with_reducible refine gate_alloc (T := 3) ?_); refine wpList_allocG rfl rfl zero_int1 (cs := #[.int .i64 0]) rfl ?_; intro g2 W2 e hn; have n12 := Lib.hid (o1.ne e); have o2 := Own.made s e hn; replace s := s.new hn; replace o1 := o1.new hn; clear e hn)
      | ((with_reducible refine gate_store (T := 3) ?_); refine wpList_storeAll rfl rfl rfl rfl (cs := #[.int .i64 (-1)]) rfl o2.at_ rfl (by rw [size_int1]; rfl) (by simp [Value.oneCell']) ?_; intro W hu; replace s := s.upd o2 hu; replace o1 := o1.other hu n12.out; replace o2 := o2.upd hu; clear hu)
      | ((with_reducible refine gate_load (T := 3) ?_); refine wpList_loadCell rfl rfl rfl Tryd.underlying3 rfl o2.at_ rfl ?_)
      | fail)
    go_ret2
    rw [hres.out]
    exact s.ret ⟨.pointer none, rfl, ⟨fun h => (by cases h), fun _ => rfl⟩⟩
end Go.Proofs.YtdaagmhkhfcmdaaDoor
