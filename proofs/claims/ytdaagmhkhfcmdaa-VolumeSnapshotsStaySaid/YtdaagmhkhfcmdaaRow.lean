/- A slice of the call's own that grows: no program in sight. -/
import Derived.Maps.AppendAt
import Derived.Laws.OwnMore
import Derived.Great.BuildSlice
import Derived.Test.YtdaagmhkhfcmdaaSl
import Derived.Test.YtdaagmhkhfcmdaaRng
namespace Go.Proofs.Ytdaagmhkhfcmdaa
open Go Go.RowKit

/-- A slice of the call's own: n elements of sz cells; its cells are xs. -/
structure Row (w : World) (K : Fz) (W : World) (e : TypeId) (sz : Nat) (v : Value) (n : Nat) (xs : List Value) : Prop where
  own : W.ownsRow w.heap.size e sz v n xs
  none_ : ∀ b, v.ownBlock = some b → K b = none

/-- An append's new world and value. -/
structure Grown (W W' : World) (v v' : Value) : Prop where
  by_ : W.grownBy W' v.ownBlock
  at_ : v'.ownBlock = v.ownBlock ∨ v'.ownBlock = some W.heap.size

section
variable {K0 K K' : Fz} {w W W' : World} {e : TypeId} {sz n g : Nat} {v v' : Value} {xs ys : List Value} {o o' : Obj}

theorem ownsRow_lt {base : Nat} (h : W.ownsRow base e sz v n xs) {b : Nat} (hb : v.ownBlock = some b) : b < W.heap.size ∧ base ≤ b := by
  rcases h.2 with ⟨rfl, _⟩ | ⟨g, cap, cur, rfl, hg, hh, _⟩
  · cases hb
  · cases hb; exact ⟨lt_of_at hh, hg⟩
theorem ownsRow_move {base : Nat} (h : W.ownsRow base e sz v n xs) (hb : ∀ b, v.ownBlock = some b → W'.heap[b]? = W.heap[b]?) : W'.ownsRow base e sz v n xs := by
  refine ⟨h.1, ?_⟩
  rcases h.2 with h0 | ⟨g, cap, cur, rfl, hg, hh, r⟩
  · exact .inl h0
  · exact .inr ⟨g, cap, cur, rfl, hg, (hb g rfl).trans hh, r⟩
theorem Row.lt (r : Row w K W e sz v n xs) {b : Nat} (hb : v.ownBlock = some b) : b < W.heap.size := (ownsRow_lt r.own hb).1
theorem Row.nil (w : World) (K : Fz) (W : World) (e : TypeId) (sz : Nat) : Row w K W e sz (.slice none 0 0) 0 [] := ⟨World.ownsRow_nil _ _ _ _, fun b h => by cases h⟩
theorem Row.ne (r : Row w K W e sz v n xs) (e' : g = W.heap.size) : v.ownBlock ≠ some g := fun h => by have := r.lt h; omega
theorem Row.new (r : Row w K W e sz v n xs) (hn : New W o W') : Row w K W' e sz v n xs := ⟨ownsRow_move r.own fun b hb => hn.other b (r.lt hb), r.none_⟩
theorem Row.upd (r : Row w K W e sz v n xs) (hu : Upd W g o W') (hne : v.ownBlock ≠ some g) : Row w K W' e sz v n xs :=
  ⟨ownsRow_move r.own fun b hb => hu.other b (by rintro rfl; exact hne hb), r.none_⟩
theorem Row.call (r : Row w K W e sz v n xs) (h2 : K.Le W.heap.size K') (h3 : Below W.heap.size W W') : Row w K' W' e sz v n xs :=
  ⟨ownsRow_move r.own fun b hb => h3.block b (r.lt hb), fun b hb => (h2 b (r.lt hb)).trans (r.none_ b hb)⟩
theorem Row.quiet (r : Row w K W e sz v n xs) (h3 : Below W.heap.size W W') : Row w K W' e sz v n xs := r.call (Fz.Le.refl _ _) h3
theorem Row.drew (r : Row w K W e sz v n xs) : Row w K W.drew e sz v n xs := ⟨ownsRow_move r.own fun _ _ => rfl, r.none_⟩
theorem Row.drewN (r : Row w K W e sz v n xs) (m : Nat) : Row w K (W.drewN m) e sz v n xs := ⟨ownsRow_move r.own fun _ _ => rfl, r.none_⟩
theorem Row.freeze (r : Row w K W e sz v n xs) (hne : v.ownBlock ≠ some g) : Row w (K.add g o) W e sz v n xs :=
  ⟨r.own, fun b hb => by rw [Fz.add_other _ _ (by rintro rfl; exact hne hb)]; exact r.none_ b hb⟩
theorem Row.ex {B : Nat} (r : Row w K W e sz v n xs) (h : Ex B K W K' W') : Row w K' W' e sz v n xs := by
  have hb : ∀ b, v.ownBlock = some b → W'.heap[b]? = W.heap[b]? := by
    intro b hb
    rcases r.own.2 with ⟨rfl, _⟩ | ⟨g, cap, cur, rfl, hg, hh, _⟩
    · cases hb
    · cases hb; rw [hh]; exact h.plain _ _ hh trivial
  exact ⟨ownsRow_move r.own hb, fun b hb => (h.same b (r.lt hb)).trans (r.none_ b hb)⟩

theorem St.grown (s : St K0 w K W) (r : Row w K W e sz v n xs) (gr : Grown W W' v v') : St K0 w K W' := by
  refine ⟨fun b o hk => ⟨(gr.by_.block b (s.inn.lt hk) ?_).trans (s.inn.get hk), (s.inn b o hk).2⟩, s.le, s.below.trans ⟨gr.by_.os, gr.by_.tape, gr.by_.output, gr.by_.size, fun b hb => gr.by_.block b (by have := s.size; omega) ?_⟩⟩
  · intro h; rw [r.none_ b h.symm] at hk; cases hk
  · intro h; have := (ownsRow_lt r.own h.symm).2; omega
theorem Own.grown (ow : Own w K W g o) (gr : Grown W W' v v') (hne : v.ownBlock ≠ some g) : Own w K W' g o :=
  ⟨(gr.by_.block g ow.lt (fun h => hne h.symm)).trans ow.at_, ow.none_, ow.base⟩
theorem Own.apart (ow : Own w K W g o) (gr : Grown W W' v v') (hne : v.ownBlock ≠ some g) : v'.ownBlock ≠ some g := by
  rcases gr.at_ with h | h
  · rw [h]; exact hne
  · rw [h]; intro e; cases e; have := ow.lt; omega

theorem Row.lit {t : TypeId} {cs : Array Value} (s : St K0 w K W) (e' : g = W.heap.size) (hn : New W (.cells cs t) W') (hs : cs.size = n * sz) (hm : n ≤ maxLen) : Row w K W' t sz (.slice (some ⟨g, 0, none⟩) n n) n cs.toList := by
  subst e'
  refine ⟨⟨by simpa using hs, .inr ⟨_, _, cs, rfl, s.size, hn.here, Nat.le_refl _, hm, hs, List.take_of_length_le (by simp [hs])⟩⟩, fun b hb => ?_⟩
  cases hb
  exact s.inn.out (Nat.le_refl _)
theorem Row.form (r : Row w K W e sz v n xs) : ∃ a n' c, v = .slice a n' c := by
  rcases r.own.2 with ⟨rfl, _⟩ | ⟨g, cap, cur, rfl, _⟩
  · exact ⟨_, _, _, rfl⟩
  · exact ⟨_, _, _, rfl⟩
theorem Row.form1 (r : Row w K W e sz v n xs) (hn : 0 < n) : ∃ g c, v = .slice (some ⟨g, 0, none⟩) n c := by
  rcases r.own.2 with ⟨_, h0⟩ | ⟨g, cap, cur, rfl, _⟩
  · omega
  · exact ⟨_, _, rfl⟩
theorem Row.ne_of (r : Row w K W e sz v n xs) {l : Nat} (h : W.heap[l]? = some o) (ho : ¬ Plain o) : v.ownBlock ≠ some l := by
  intro hb
  rcases r.own.2 with ⟨rfl, _⟩ | ⟨g, cap, cur, rfl, hg, hh, _⟩
  · cases hb
  · cases hb; rw [hh] at h; cases h; exact ho trivial
theorem Own.ne_of {cs : Array Value} {t : TypeId} {fr : Nat × Nat} (r : Own w K W g (.cells cs t fr)) {l : Nat} (h : W.heap[l]? = some o) (ho : ¬ Plain o) : l ≠ g := by
  rintro rfl
  rw [r.at_] at h; cases h; exact ho trivial
theorem Grown.at (gr : Grown W W' v v') {l : Nat} (h : W.heap[l]? = some o) (hne : v.ownBlock ≠ some l) : W'.heap[l]? = some o :=
  (gr.by_.block l (lt_of_at h) (fun e => hne e.symm)).trans h
theorem cells_here {cs : Array Value} {t : TypeId} {fr : Nat × Nat} (h : W.heap[g]? = some (.cells cs t fr)) : ∀ ad, some (⟨g, 0, none⟩ : Addr) = some ad → ∀ (j : Nat) (u : Value), cs.toList[j]? = some u → W.cell? (ad.add j) = some u := by
  rintro ad ⟨⟩ j u hj
  have : (⟨g, 0, none⟩ : Addr).add j = ⟨g, j, none⟩ := by unfold Addr.add; split <;> simp_all
  rw [this, cell_of_row W g j cs t fr h]
  simpa using hj

/-- The row is frozen now, and read as a list. -/
theorem Row.fix {α : Type} {enc : α → List Value} (s : St K0 w K W) (r : Row w K W e sz v n xs) {zs : List α} (hl : ∀ x, (enc x).length = sz) (hn : n = zs.length) (hc : xs = zs.flatMap enc) :
    ∃ K', St K0 w K' W ∧ Ext K K' ∧ SlK K' sz enc v zs ∧ ∀ b, K' b = K b ∨ v.ownBlock = some b := by
  subst hn
  rcases r.own.2 with ⟨rfl, h0⟩ | ⟨g, cap, cur, rfl, hg, hh, _⟩
  · obtain rfl := List.length_eq_zero_iff.1 h0
    exact ⟨K, s, Ext.refl _, SlK.nil _ _ _ _ _, fun _ => .inl rfl⟩
  · obtain ⟨cur', t', hh', hb', hS⟩ := SlK.made (base := w.heap.size) r.own rfl hl hc
    have hk : K g = none := r.none_ g rfl
    have ho : Own w K W g (.cells cur' t' (0, 0)) := ⟨hh', hk, hb'⟩
    refine ⟨_, s.freeze ho, fun b o' hb => ?_, hS K, fun b => ?_⟩
    · rw [Fz.add_other _ _ (by rintro rfl; rw [hk] at hb; cases hb)]; exact hb
    · by_cases h : b = g
      · subst h; exact .inr rfl
      · exact .inl (Fz.add_other _ _ h)
theorem Own.fixed (ow : Own w K W g o) (h : ∀ b, K' b = K b ∨ v.ownBlock = some b) (hne : v.ownBlock ≠ some g) : Own w K' W g o :=
  ⟨ow.at_, (h g).elim (fun e => e.trans ow.none_) (fun e => (hne e).elim), ow.base⟩
end

section ops
variable {P : Program} {ops : Array Oper} {rest : List Oper} {o : Oper} {a : Act} {K0 K : Fz} {w W : World} {Q : Exit → Act → World → Prop}

/-- '[]T{x}'. -/
theorem wpList_buildSlice1 {t e : TypeId} {x : Operand} {u z : Value} {sz bytes : Nat} {cs : Array Value} (hgd : o.guard = none) (ho : o.op = .buildSlice t 1 #[(0, x)]) (hx : a.eval x = u)
    (hu : P.underlying t = some (.slice e)) (hi : (P.info? e).map (fun i => (i.zero, i.size, i.bytes)) = some (some z, sz, bytes)) (hpos : 0 < sz) (hsmall : sz ≤ 1000)
    (hfill : Instr.fill (fun i => some (i * sz, sz)) ((Array.range (1 * sz)).map (z.cells[· % z.cells.size]!)) [(0, u)] = some cs)
    (h : ∀ g W', g = W.heap.size → New W (.cells cs e) W' → wpList P ops Q rest (a.put o.dst (.slice (some ⟨g, 0, none⟩) 1 1)) W') : wpList P ops Q (o :: rest) a W := by
  cases hie : P.info? e with
  | none => simp [hie] at hi
  | some ie =>
    simp only [hie, Option.map_some, Option.some.injEq, Prod.mk.injEq] at hi
    obtain ⟨hz, rfl, _⟩ := hi
    exact wpList_buildSlice hgd t e 1 _ ho cs ie z hu hie hz (by omega) (by omega) (by simpa [hx] using hfill) (h _ _ rfl (New.alloc _ _))

/-- 'append(s, x...)' to a row of the call's own. -/
theorem wpList_appendRow {s x : Operand} {t e : TypeId} {v z : Value} {n m c sz bytes : Nat} {xs news : List Value} {ao : Option Addr} (hgd : o.guard = none)
    (ho : o.op = .call { callee := .builtin .append, args := #[s, x], argTypes := #[t, t] })
    (hu : P.underlying t = some (.slice e)) (hi : (P.info? e).map (fun i => (i.zero, i.size, i.bytes)) = some (some z, sz, bytes)) (hzs : z.cells.size = sz) (hpos : 0 < sz)
    (hs : a.eval s = v) (st : St K0 w K W) (r : Row w K W e sz v n xs) (hx : a.eval x = .slice ao m c) (hl : news.length = m * sz)
    (h0 : ao = none → m = 0) (hnews : ∀ ad, ao = some ad → ∀ j u, news[j]? = some u → W.cell? (ad.add j) = some u) (h1 : ∀ u ∈ news, u.oneCell' = true)
    (hsmall : n + m ≤ 1000000000) (hb : bytes ≤ 10000)
    (h : ∀ v' W', Row w K W' e sz v' (n + m) (xs ++ news) → Grown W W' v v' → wpList P ops Q rest (a.put o.dst v') W') : wpList P ops Q (o :: rest) a W := by
  cases hie : P.info? e with
  | none => simp [hie] at hi
  | some ie =>
    simp only [hie, Option.map_some, Option.some.injEq, Prod.mk.injEq] at hi
    obtain ⟨hz, rfl, rfl⟩ := hi
    cases ao with
    | none =>
      obtain rfl := h0 rfl
      obtain rfl : news = [] := List.eq_nil_of_length_eq_zero (by simpa using hl)
      have hrun : (Builtin.append_ #[t, t] o.type #[v, .slice none 0 c]).run P W = .ok v W := by
        rcases r.own.2 with ⟨rfl, rfl⟩ | ⟨g, cap, cur, rfl, _, _, hnc, _⟩
        · simp [Builtin.append_, run_underlying hu, sizeOf, typeInfo, hie, Builtin.lenOf, Builtin.firstCells]
        · simp [Builtin.append_, run_underlying hu, sizeOf, typeInfo, hie, Builtin.lenOf, Builtin.firstCells, hnc, storeCells]
      refine wpList_run hgd ?_ (h v W (by simpa using r) ⟨⟨rfl, rfl, rfl, Nat.le_refl _, fun _ _ _ => rfl⟩, .inl rfl⟩)
      unfold execOp
      simp only [ho, resolve, invoke, builtin, Sem.run_bind, Sem.run_pure, Result.andThen_ok, List.map_toArray, List.map_cons, List.map_nil, hs, hx, hrun]
    | some ad =>
      refine wpList_append_own_at W hgd s x t ho w.heap.size e ie z ie.size ie.bytes hu hie hz rfl rfl hzs hpos v n xs hs r.own ad m c news hx hl (hnews ad rfl) h1 (by simp only [maxLen]; omega) ?_ st.size ?_
      · have : (n + m) * ie.bytes ≤ 1000000000 * 10000 := Nat.mul_le_mul hsmall hb
        omega
      · intro v' W' hr hg _ hat
        refine h v' W' ⟨hr, fun b hb' => ?_⟩ ⟨hg, hat⟩
        rcases hat with hat | hat
        · exact r.none_ b (by rw [← hat]; exact hb')
        · rw [hat] at hb'; cases hb'; exact st.inn.out (Nat.le_refl _)

theorem gate_append {dst : Option Tmp} {ty : TypeId} {pos : String} {after : Array Edge} {gd : Option (Nat × Bool)} {x : Array Operand} {ts : Array TypeId}
    (h : wpList P ops Q ({ dst, op := .call { callee := .builtin .append, args := x, argTypes := ts }, type := ty, pos, after, guard := gd } :: rest) a W) :
    wpList P ops Q ({ dst, op := .call { callee := .builtin .append, args := x, argTypes := ts }, type := ty, pos, after, guard := gd } :: rest) a W := h
end ops
end Go.Proofs.Ytdaagmhkhfcmdaa
