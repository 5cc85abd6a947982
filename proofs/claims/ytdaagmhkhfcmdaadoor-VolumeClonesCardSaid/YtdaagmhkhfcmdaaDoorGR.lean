/- Arguments of the laws on volumes, opened: from the rows' reading to lists. -/
import Derived.Test.YtdaagmhkhfcmdaaDoorGM
import Derived.Deep.Slices
import Derived.Deep.Fields
import Derived.ChangeSame
import Derived.WideShapes
import Derived.Lib.LaidTab
import Derived.Lib.SmallJoins
import Derived.Test.YtdaagmhkhfcmdaaDoorGN
namespace Go.Proofs.YtdaagmhkhfcmdaaDoor
open Go Go.RowKit Go.ChangeShapes Go.WideShapes Go.Deep
set_option maxHeartbeats 400000

section
variable {H : Type} {enc : TypeId × Value → H} {P : Program} {w : World} {base : Nat} {spare : Nat → Bool} {held : Bool}
theorem open_slice_fields {t e : TypeId} {fs : Array Field} {fuel : Nat} {cs : List Value} {x : DataW H × List MemPlace} (ht : P.underlying t = some (.slice e)) (he : P.underlying e = some (.struct fs))
    (hone : oneCellFields P fs = true) (hC : P.cellsOf e = fs.size) (h : DataW.trod enc P w base spare held fuel t cs = some x) :
    (cs = [.slice none 0 0]) ∨
    ∃ (a : Addr) (len cap m : Nat), cs = [.slice (some a) len cap] ∧ len ≤ cap ∧ m = (if spare a.block then cap else len) ∧
      ∀ i, i < m → ∃ (n : Nat), ∀ (j : Nat) (f : Field), fs[j]? = some f → ∃ (v : Value) (y : DataW H × List MemPlace), w.cell? (a.add (i * fs.size + j)) = some v ∧ DataW.trod enc P w base spare held n f.type [v] = some y := by
  rcases open_slice ht h with ⟨h0, _⟩ | ⟨a, len, cap, m, n, D, Pl, hcs, hb, hl, hm, hmm, hx, hi⟩
  · exact .inl h0
  · refine .inr ⟨a, len, cap, m, hcs, hl, hmm, fun i him => ?_⟩
    obtain ⟨cs', hc, ht'⟩ := hi i him
    rw [hC] at hc
    obtain ⟨ys, n', hn', hy, hlen, hyl, hf⟩ := DataW.trod_struct he ht'
    obtain ⟨_, hcl, hat⟩ := World.cells?_some hc
    refine ⟨n', fun j f hj => ?_⟩
    obtain ⟨ho, hk⟩ := hone_of hone j f hj
    have hjl : j < fs.size := (Array.getElem?_eq_some_iff.1 hj).1
    have hcell := hat j hjl
    have hv : cs'[j]? = some (cs'[j]'(by omega)) := List.getElem?_eq_getElem (by omega)
    have h1 := hf j f hj
    rw [ho, hk] at h1
    have hone' : (cs'.drop j).take 1 = [cs'[j]'(by omega)] := by
      rw [List.drop_eq_getElem_cons (by omega)]
      rfl
    rw [hone'] at h1
    have hys : ys[j]? = some (ys[j]'(by omega)) := List.getElem?_eq_getElem (by omega)
    refine ⟨_, _, ?_, h1.trans hys⟩
    rw [← Go.Deep.add_add, hcell, hv]
end

/-- All cells that lie in memory. -/
def allOf (W : World) : Fz := fun b => match W.heap[b]? with
  | some (.cells c t f) => some (.cells c t f)
  | _ => none
theorem allOf_in (W : World) : (allOf W).In W := by
  intro b o h
  unfold allOf at h
  split at h
  · rename_i c t f hc; cases h; exact ⟨hc, trivial⟩
  · cases h

theorem choose_list {α : Type} {p : Nat → α → Prop} : ∀ n, (∀ i, i < n → ∃ x, p i x) → ∃ xs : List α, xs.length = n ∧ ∀ (i : Nat) x, xs[i]? = some x → p i x
  | 0, _ => ⟨[], rfl, fun i x h => by simp at h⟩
  | n + 1, h => by
    obtain ⟨xs, hl, hp⟩ := choose_list n fun i hi => h i (by omega)
    obtain ⟨x, hx⟩ := h n (by omega)
    refine ⟨xs ++ [x], by simp [hl], fun i y hy => ?_⟩
    by_cases hi : i < xs.length
    · rw [List.getElem?_append_left hi] at hy; exact hp i y hy
    · have hi2 := (List.getElem?_eq_some_iff.1 hy).1
      simp at hi2
      obtain rfl : i = xs.length := by omega
      simp at hy
      subst hy
      rw [hl]; exact hx

/-- A slice whose cells are known, as a frozen list. -/
theorem slK_of_cells {α : Type} {enc : α → List Value} {sz : Nat} {W : World} {a : Addr} {len cap : Nat} (hsz : 0 < sz) (hl : ∀ x, (enc x).length = sz) (hc : len ≤ cap) {xs : List α} (hn : xs.length = len)
    (h : ∀ (i : Nat) x, xs[i]? = some x → ∀ (j : Nat) (u : Value), (enc x)[j]? = some u → W.cell? (a.add (i * sz + j)) = some u) : SlK (allOf W) sz enc (.slice (some a) len cap) xs := by
  subst hn
  refine ⟨_, _, rfl, hc, fun i x hi => ?_⟩
  have cell : ∀ (k : Nat) (u : Value), W.cell? (a.add k) = some u → ∃ cs t fr, W.heap[a.block]? = some (.cells cs t fr) ∧ cs[a.off + k]? = some u ∧ (k = 0 → a.spot = none) := by
    intro k u hk
    have hb : (a.add k).block = a.block := by unfold Addr.add; split <;> rfl
    have ho : (a.add k).off = a.off + k := by unfold Addr.add; split <;> simp_all
    unfold World.cell? at hk
    rw [hb, ho] at hk
    split at hk
    · rename_i cs t fr hcs
      split at hk
      · cases hk
      · rename_i hsp
        refine ⟨cs, t, fr, hcs, hk, fun e => ?_⟩
        subst e
        have : a.add 0 = a := by unfold Addr.add; simp
        rw [this] at hsp
        cases hq : a.spot with
        | none => rfl
        | some z => simp [hq] at hsp
    · cases hk
  have h0 : ∃ u, (enc x)[0]? = some u := ⟨_, List.getElem?_eq_getElem (by rw [hl]; exact hsz)⟩
  have hx0 : 0 < xs.length := Nat.lt_of_le_of_lt (Nat.zero_le _) (List.getElem?_eq_some_iff.1 hi).1
  obtain ⟨y, hy⟩ : ∃ y, xs[0]? = some y := ⟨_, List.getElem?_eq_getElem hx0⟩
  obtain ⟨u0, hu0⟩ : ∃ u, (enc y)[0]? = some u := ⟨_, List.getElem?_eq_getElem (by rw [hl]; exact hsz)⟩
  obtain ⟨cs, t, fr, hcs, _, hsp⟩ := cell _ _ (h 0 y hy 0 u0 hu0)
  have hs : a.spot = none := hsp (by simp)
  refine ⟨a.block, a.off, cs, t, fr, ?_, by unfold allOf; rw [hcs], fun j u hu => ?_⟩
  · obtain ⟨b, o, s⟩ := a
    simp only at hs
    subst hs; rfl
  · obtain ⟨cs', t', fr', hcs', hv, _⟩ := cell _ _ (h i x hi j u hu)
    rw [hcs] at hcs'
    cases hcs'
    rw [Nat.add_assoc]; exact hv

section
variable {H : Type} {enc : TypeId × Value → H} {W : World} {r : Reach} {b0 : Nat}
set_option maxRecDepth 100000 in
/-- A script of operations. -/
theorem open_lops {v : Value} {d : DataW H} {p : List MemPlace} (hv : Value.okWide Tryd.prog W r b0 22 v) (h : DataW.Trod enc Tryd.prog W 0 (fun _ => true) true 22 v d p) : ∃ os : List Opn, SlK (allOf W) 4 encP1 v os := by
  obtain ⟨a, len, cap, rfl⟩ := okWide_slice Tryd.underlying22 hv
  obtain ⟨fuel, hf⟩ := h
  rcases open_slice_fields Tryd.underlying22 Tryd.underlying30 (by kernel_rfl) (by kernel_rfl) hf with hcs | ⟨x, l, c, m, hcs, hl, hm, hi⟩
  · simp [Value.cells] at hcs
    obtain ⟨rfl, rfl, rfl⟩ := hcs
    exact ⟨[], SlK.nil _ _ _ _ _⟩
  · simp [Value.cells] at hcs
    obtain ⟨rfl, rfl, rfl⟩ := hcs
    simp only [if_true] at hm
    subst hm
    obtain ⟨os, hlen, hp⟩ := choose_list (α := Opn) (p := fun i o => ∀ (j : Nat) (u : Value), (encP1 o)[j]? = some u → W.cell? (x.add (i * 4 + j)) = some u) len fun i hlt => by
      obtain ⟨n, hfl⟩ := hi i (by omega)
      obtain ⟨v0, y0, c0, t0⟩ := hfl 0 _ rfl
      obtain ⟨v1, y1, c1, t1⟩ := hfl 1 _ rfl
      obtain ⟨v2, y2, c2, t2⟩ := hfl 2 _ rfl
      obtain ⟨v3, y3, c3, t3⟩ := hfl 3 _ rfl
      obtain ⟨z0, e0, _⟩ := DataW.trod_int Tryd.underlying3 t0
      obtain ⟨z1, e1, _⟩ := DataW.trod_int Tryd.underlying3 t1
      obtain ⟨z2, e2, _⟩ := DataW.trod_int Tryd.underlying3 t2
      obtain ⟨z3, e3, _⟩ := DataW.trod_int Tryd.underlying3 t3
      simp only [List.cons.injEq, and_true] at e0 e1 e2 e3
      subst e0 e1 e2 e3
      refine ⟨⟨z0, z1, z2, z3⟩, fun j u hu => ?_⟩
      match j, hu with
      | 0, hu => cases hu; exact c0
      | 1, hu => cases hu; exact c1
      | 2, hu => cases hu; exact c2
      | 3, hu => cases hu; exact c3
      | j + 4, hu => simp [encP1] at hu
    exact ⟨os, slK_of_cells (sz := 4) (by decide) (fun _ => rfl) hl hlen hp⟩
set_option maxRecDepth 100000 in
/-- One operation. -/
theorem open_lop {v : Value} {d : DataW H} {p : List MemPlace} (hv : Value.okWide Tryd.prog W r b0 30 v) (h : DataW.Trod enc Tryd.prog W 0 (fun _ => true) true 30 v d p) : ∃ o : Opn, v = .agg (encP1 o).toArray := by
  obtain ⟨v0, v1, v2, v3, y0, y1, y2, y3, n, rfl, _, _, t0, t1, t2, t3⟩ := Go.Joins.open_agg4 Tryd.underlying30 (by kernel_rfl) (by kernel_rfl) hv h
  obtain ⟨z0, e0, _⟩ := DataW.trod_int Tryd.underlying3 t0
  obtain ⟨z1, e1, _⟩ := DataW.trod_int Tryd.underlying3 t1
  obtain ⟨z2, e2, _⟩ := DataW.trod_int Tryd.underlying3 t2
  obtain ⟨z3, e3, _⟩ := DataW.trod_int Tryd.underlying3 t3
  simp only [List.cons.injEq, and_true] at e0 e1 e2 e3
  subst e0 e1 e2 e3
  exact ⟨⟨z0, z1, z2, z3⟩, rfl⟩
end
end Go.Proofs.YtdaagmhkhfcmdaaDoor
/- The library's table of low bits, as the row's list gives it. -/
namespace Go.Proofs.YtdaagmhkhfcmdaaDoor
open Go Go.RowKit

theorem gTab : Tryd.prog.globalNamed "math/bits.deBruijn32tab" = some 0 := by kernel_rfl
theorem tab_of {W : World} (h : Lib.TabIs Tryd.prog W "math/bits.deBruijn32tab" .u8 (tzTab.map fun n : Nat => (n : Int))) : Tab (allOf W) := by
  unfold Lib.TabIs World.var? at h
  rw [gTab, Option.bind_some] at h
  split at h
  · rename_i cs t fr hc
    refine ⟨t, fr, ?_⟩
    unfold allOf
    rw [hc]
    simp only [Option.some.injEq] at h ⊢
    rw [h, List.map_map]
    rfl
  · cases h
end Go.Proofs.YtdaagmhkhfcmdaaDoor
