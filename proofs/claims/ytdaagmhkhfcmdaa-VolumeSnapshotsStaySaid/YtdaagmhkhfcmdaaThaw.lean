/- Boxes that are frozen and thawed; a ghost with marks: no program in sight. -/
import Derived.Test.YtdaagmhkhfcmdaaDrawn
import Derived.Test.YtdaagmhkhfcmdaaRow
namespace Go.Proofs.Ytdaagmhkhfcmdaa
open Go Go.RowKit
set_option maxHeartbeats 400000

def Fz.del (K : Fz) (g : Nat) : Fz := fun c => if c = g then none else K c
theorem Fz.del_self (K : Fz) (g : Nat) : K.del g g = none := by simp [Fz.del]
theorem Fz.del_other (K : Fz) {g c : Nat} (h : c ≠ g) : K.del g c = K c := by simp [Fz.del, h]
theorem Ext.del {K K' : Fz} {g : Nat} (h : Ext K K') (hg : K g = none) : Ext K (K'.del g) := fun b o hb => by
  rw [Fz.del_other _ (by rintro rfl; rw [hg] at hb; cases hb)]; exact h b o hb
theorem Tr.del {T : Nat} {K : Fz} {g : Nat} {cs : Array Value} {T' : Nat} {fr : Nat × Nat} (hk : K g = some (.cells cs T' fr)) (hs : cs.size ≠ 33) : ∀ {t : PT}, Tr T K t → Tr T (K.del g) t := by
  intro t
  induction t with
  | nil => exact id
  | node b h k c ih =>
    rintro ⟨h1, h2, h3⟩
    refine ⟨?_, h2, fun i => ih i (h3 i)⟩
    rw [Fz.del_other]
    · exact h1
    · rintro rfl
      rw [hk] at h1
      have e : cs = nodeCells h k c := by cases Option.some.inj h1; rfl
      exact hs (by rw [e, nodeCells_size])
/-- A frozen box becomes the call's own. -/
theorem St.thaw {K0 K : Fz} {w W : World} {g : Nat} {o : Obj} (s : St K0 w K W) (hk : K g = some o) (hg : w.heap.size ≤ g) : St K0 w (K.del g) W ∧ Own w (K.del g) W g o := by
  refine ⟨⟨fun b o' hb => ?_, fun b hb => ?_, s.below⟩, ⟨s.inn.get hk, Fz.del_self _ _, hg⟩⟩
  · unfold Fz.del at hb
    split at hb
    · cases hb
    · exact s.inn b o' hb
  · rw [Fz.del_other _ (by omega)]; exact s.le b hb
/-- A box just made, frozen. -/
theorem St.box {K0 K : Fz} {w W W' : World} {g e : Nat} {cs : Array Value} (s : St K0 w K W) (hg : g = W.heap.size) (hn : New W (.cells cs e) W') :
    ∃ K', Ext K K' ∧ St K0 w K' W' ∧ K' g = some (.cells cs e (0, 0)) ∧ w.heap.size ≤ g ∧ K g = none := by
  have o := Own.made s hg hn
  refine ⟨_, fun b o' hb => ?_, (s.new hn).freeze o, Fz.add_self _ _ _, o.base, o.none_⟩
  rw [Fz.add_other _ _ (by rintro rfl; rw [o.none_] at hb; cases hb)]; exact hb
/-- A box of the call's own, frozen. -/
theorem St.shut {K0 K : Fz} {w W : World} {g : Nat} {cs : Array Value} {t : TypeId} {fr : Nat × Nat} (s : St K0 w K W) (o : Own w K W g (.cells cs t fr)) :
    ∃ K', Ext K K' ∧ St K0 w K' W ∧ K' g = some (.cells cs t fr) := by
  refine ⟨_, fun b o' hb => ?_, s.freeze o, Fz.add_self _ _ _⟩
  rw [Fz.add_other _ _ (by rintro rfl; rw [o.none_] at hb; cases hb)]; exact hb

/-- The value of an 'alloc' in a drawn region. -/
def BoxV (base : Nat) (K0 : Fz) (cs : Array Value) (T : Nat) (K : Fz) (v : Value) : Prop := ∃ g, v = .pointer (some ⟨g, 0, none⟩) ∧ K g = some (.cells cs T (0, 0)) ∧ base ≤ g ∧ K0 g = none
theorem BoxV.ext {base : Nat} {K0 : Fz} {cs : Array Value} {T : Nat} {K K' : Fz} {v : Value} (hE : Ext K K') (h : BoxV base K0 cs T K v) : BoxV base K0 cs T K' v := by
  obtain ⟨g, e, hk, hb, hn⟩ := h
  exact ⟨g, e, hE _ _ hk, hb, hn⟩
theorem none_of_ext {K K' : Fz} {g : Nat} (h : Ext K K') (hg : K' g = none) : K g = none := by
  cases e : K g with
  | none => rfl
  | some o => rw [h _ _ e] at hg; cases hg


/-- A ghost that names a row of the call's own. -/
structure Rg where
  K : Fz
  row : Option Value
instance : Gh Rg := ⟨fun a b => Ext a.K b.K ∧ ∀ v, a.row = some v → b.row = some v, fun _ => ⟨Ext.refl _, fun _ h => h⟩, fun h k => ⟨h.1.trans k.1, fun v hv => k.2 v (h.2 v hv)⟩⟩
/-- In a region whose i-th operation makes a row and whose j-th one uses it: how things stand when the operations of L have come. g: a box of the call's own. -/
structure RowI (K0 : Fz) (w : World) (g : Nat) (o : Obj) (e sz n : Nat) (xs : List Value) (i j : Nat) (L : Nat → Bool) (T : Rg) (W : World) : Prop where
  st : St K0 w T.K W
  own : Own w T.K W g o
  none_ : L i = false → T.row = none
  row : L j = false → ∀ v, T.row = some v → Row w T.K W e sz v n xs ∧ v.ownBlock ≠ some g
section
variable {K0 : Fz} {w : World} {g : Nat} {o : Obj} {e sz n : Nat} {xs : List Value} {i j k : Nat} {L : Nat → Bool} {T : Rg} {W W' : World}
theorem RowI.same (h : RowI K0 w g o e sz n xs i j L T W) (hi : i ≠ k) (hj : j ≠ k) : RowI K0 w g o e sz n xs i j (come L k) T W :=
  ⟨h.st, h.own, fun hl => h.none_ (by rwa [come_other hi] at hl), fun hl => h.row (by rwa [come_other hj] at hl)⟩
theorem RowI.call {K' : Fz} (h : RowI K0 w g o e sz n xs i j L T W) (hi : i ≠ k) (hj : j ≠ k) (h1 : K'.In W') (h2 : T.K.Le W.heap.size K') (h3 : Below W.heap.size W W') : RowI K0 w g o e sz n xs i j (come L k) ⟨K', T.row⟩ W' :=
  ⟨h.st.call h1 h2 h3, h.own.call h2 h3, fun hl => h.none_ (by rwa [come_other hi] at hl), fun hl v hv => by
    obtain ⟨r, hne⟩ := h.row (by rwa [come_other hj] at hl) v hv
    exact ⟨r.call h2 h3, hne⟩⟩
theorem RowI.quiet (h : RowI K0 w g o e sz n xs i j L T W) (hi : i ≠ k) (hj : j ≠ k) (h3 : Below W.heap.size W W') : RowI K0 w g o e sz n xs i j (come L k) T W' :=
  h.call hi hj (h.st.inn.below h3) (Fz.Le.refl _ _) h3
theorem Rg.le_call {K' : Fz} {T : Rg} {W : World} (hi : T.K.In W) (hl : T.K.Le W.heap.size K') : Gh.le T ⟨K', T.row⟩ := ⟨Ext.of_le hi hl, fun _ h => h⟩
/-- The row is made. -/
theorem RowI.made {v : Value} (h : RowI K0 w g o e sz n xs i j L T W) (hL : L i = false) (hb : Below W.heap.size W W') (hr : W'.ownsRow W.heap.size e sz v n xs) :
    RowI K0 w g o e sz n xs i j (come L i) ⟨T.K, some v⟩ W' ∧ Gh.le T ⟨T.K, some v⟩ := by
  have r : Row w T.K W' e sz v n xs := ⟨⟨hr.1, by
    rcases hr.2 with h0 | ⟨g', cap, cur, h1, h2, h3⟩
    · exact .inl h0
    · exact .inr ⟨g', cap, cur, h1, Nat.le_trans h.st.size h2, h3⟩⟩, fun b hb' => h.st.inn.out (ownsRow_lt hr hb').2⟩
  refine ⟨⟨h.st.quiet hb, h.own.quiet hb, fun hl => by simp [come] at hl, fun _ u hu => ?_⟩, Ext.refl _, fun u hu => ?_⟩
  · cases hu
    exact ⟨r, fun hg => by have h1 := (ownsRow_lt hr hg).2; have h2 := h.own.lt; omega⟩
  · rw [h.none_ hL] at hu; cases hu
/-- A block is made, and frozen. -/
theorem RowI.box {gn t : Nat} {cs : Array Value} (h : RowI K0 w g o e sz n xs i j L T W) (hi : i ≠ k) (hj : j ≠ k) (hg : gn = W.heap.size) (hn : New W (.cells cs t) W') :
    ∃ T' : Rg, Gh.le T T' ∧ RowI K0 w g o e sz n xs i j (come L k) T' W' ∧ T'.K gn = some (.cells cs t (0, 0)) := by
  have ow := Own.made h.st hg hn
  have hne : g ≠ gn := h.own.ne hg
  refine ⟨⟨T.K.add gn (.cells cs t (0, 0)), T.row⟩, ⟨fun b o' hb => ?_, fun _ hv => hv⟩, ⟨(h.st.new hn).freeze ow, (h.own.new hn).freeze hne, fun hl => h.none_ (by rwa [come_other hi] at hl), fun hl v hv => ?_⟩, Fz.add_self _ _ _⟩
  · show T.K.add gn _ b = _
    rw [Fz.add_other _ _ (by rintro rfl; rw [ow.none_] at hb; cases hb)]; exact hb
  · obtain ⟨r, hr⟩ := h.row (by rwa [come_other hj] at hl) v hv
    exact ⟨(r.new hn).freeze (r.ne hg), hr⟩
end
end Go.Proofs.Ytdaagmhkhfcmdaa
