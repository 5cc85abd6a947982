/- More steps of the laws' walks: a box that a drawn region makes; bounds of lists. -/
import Derived.Test.YtpfdlpniijgakaaDoorLawA
namespace Go.Proofs.YtpfdlpniijgakaaDoor
open Go Go.RowKit
set_option maxHeartbeats 400000

def Fz.del (K : Fz) (g : Nat) : Fz := fun c => if c = g then none else K c
theorem Fz.del_self (K : Fz) (g : Nat) : K.del g g = none := by simp [Fz.del]
theorem Fz.del_other (K : Fz) {g c : Nat} (h : c ≠ g) : K.del g c = K c := by simp [Fz.del, h]
theorem Ext.del {K K' : Fz} {g : Nat} (h : Ext K K') (hg : K g = none) : Ext K (K'.del g) := fun b o hb => by
  rw [Fz.del_other _ (by rintro rfl; rw [hg] at hb; cases hb)]; exact h b o hb
theorem Tr.del {T : Nat} {K : Fz} {g : Nat} {cs : Array Value} {T' : Nat} {fr : Nat × Nat} (hk : K g = some (.cells cs T' fr)) (hs : cs.size ≠ 33) : ∀ {t : PT}, Tr T K t → Tr T (K.del g) t := by
  intro t
  induction t with
  | nil => exact id
  | node b h k c ih =>
    rintro ⟨h1, h2, h3⟩
    refine ⟨?_, h2, fun i => ih i (h3 i)⟩
    rw [Fz.del_other]
    · exact h1
    · rintro rfl
      rw [hk] at h1
      have e : cs = nodeCells h k c := by cases Option.some.inj h1; rfl
      exact hs (by rw [e, nodeCells_size])
/-- A frozen box becomes the call's own. -/
theorem St.thaw {K0 K : Fz} {w W : World} {g : Nat} {o : Obj} (s : St K0 w K W) (hk : K g = some o) (hg : w.heap.size ≤ g) : St K0 w (K.del g) W ∧ Own w (K.del g) W g o := by
  refine ⟨⟨fun b o' hb => ?_, fun b hb => ?_, s.below⟩, ⟨s.inn.get hk, Fz.del_self _ _, hg⟩⟩
  · unfold Fz.del at hb
    split at hb
    · cases hb
    · exact s.inn b o' hb
  · rw [Fz.del_other _ (by omega)]; exact s.le b hb
/-- A box just made, frozen. -/
theorem St.box {K0 K : Fz} {w W W' : World} {g e : Nat} {cs : Array Value} (s : St K0 w K W) (hg : g = W.heap.size) (hn : New W (.cells cs e) W') :
    ∃ K', Ext K K' ∧ St K0 w K' W' ∧ K' g = some (.cells cs e (0, 0)) ∧ w.heap.size ≤ g ∧ K g = none := by
  have o := Own.made s hg hn
  refine ⟨_, fun b o' hb => ?_, (s.new hn).freeze o, Fz.add_self _ _ _, o.base, o.none_⟩
  rw [Fz.add_other _ _ (by rintro rfl; rw [o.none_] at hb; cases hb)]; exact hb
/-- A box of the call's own, frozen. -/
theorem St.shut {K0 K : Fz} {w W : World} {g : Nat} {cs : Array Value} {t : TypeId} {fr : Nat × Nat} (s : St K0 w K W) (o : Own w K W g (.cells cs t fr)) :
    ∃ K', Ext K K' ∧ St K0 w K' W ∧ K' g = some (.cells cs t fr) := by
  refine ⟨_, fun b o' hb => ?_, s.freeze o, Fz.add_self _ _ _⟩
  rw [Fz.add_other _ _ (by rintro rfl; rw [o.none_] at hb; cases hb)]; exact hb

/-- The value of an 'alloc' in a drawn region. -/
def BoxV (base : Nat) (K0 : Fz) (cs : Array Value) (T : Nat) (K : Fz) (v : Value) : Prop := ∃ g, v = .pointer (some ⟨g, 0, none⟩) ∧ K g = some (.cells cs T (0, 0)) ∧ base ≤ g ∧ K0 g = none
theorem BoxV.ext {base : Nat} {K0 : Fz} {cs : Array Value} {T : Nat} {K K' : Fz} {v : Value} (hE : Ext K K') (h : BoxV base K0 cs T K v) : BoxV base K0 cs T K' v := by
  obtain ⟨g, e, hk, hb, hn⟩ := h
  exact ⟨g, e, hE _ _ hk, hb, hn⟩
theorem none_of_ext {K K' : Fz} {g : Nat} (h : Ext K K') (hg : K' g = none) : K g = none := by
  cases e : K g with
  | none => rfl
  | some o => rw [h _ _ e] at hg; cases hg

/-- A box taken out of the frozen memory was no list's. -/
theorem SlK.del1 {K : Fz} {g : Nat} {T : Nat} {v : Value} {L : Ents} (hk : K g = some (.cells #[.slice none 0 0] T (0, 0))) (h : SlK K 2 encE v L) : SlK (K.del g) 2 encE v L := by
  obtain ⟨a, cap, rfl, hc, hx⟩ := h
  refine ⟨a, cap, rfl, hc, fun i x hi => ?_⟩
  obtain ⟨b, off, cs, t, fr, ha, hb, hj⟩ := hx i x hi
  refine ⟨b, off, cs, t, fr, ha, ?_, hj⟩
  rw [Fz.del_other]
  · exact hb
  · rintro rfl
    rw [hk] at hb
    cases hb
    have := hj 1 _ rfl
    rw [Array.getElem?_eq_none (by simp)] at this
    cases this

theorem srt_len : ∀ (L : Ents) (lo : Int), Srt L → (∀ x ∈ L, lo ≤ x.1 ∧ x.1 < 4096) → lo ≤ 4096 → (L.length : Int) ≤ 4096 - lo
  | [], lo, _, _, hlo => by simp; omega
  | x :: xs, lo, hs, hb, hlo => by
    have hs' := List.pairwise_cons.1 hs
    have hx := hb x (by simp)
    have := srt_len xs (x.1 + 1) hs'.2 (fun y hy => by have := hs'.1 y hy; have := hb y (by simp [hy]); omega) (by omega)
    simp only [List.length_cons, Int.natCast_add, Int.natCast_one]
    omega
theorem Rep.len_le {t : PT} {n : Int} {L : Ents} (h : Rep t n L) : L.length ≤ 4096 := by
  have := srt_len L 0 h.srt h.inb (by omega)
  omega
theorem Rep.n_le {t : PT} {n : Int} {L : Ents} (h : Rep t n L) : 0 ≤ n ∧ n ≤ 4096 := by
  have := h.len_le
  have := h.len
  omega

theorem rdo_out {L : Ents} (hb : InB L) {o : Chg} (h : L ≠ rdo L o) : 0 ≤ o.block ∧ o.block < 4096 := by
  unfold rdo at h
  split at h
  · rw [rclr_eq] at h
    cases hh : hit L o.block with
    | false => exact (h (delE_same L _ hh).symm).elim
    | true =>
      unfold hit at hh
      split at hh
      · rename_i x hx
        have := hb x (List.mem_of_getElem? hx)
        have e : x.1 = o.block := by simpa using hh
        omega
      · cases hh
  · unfold rset at h
    split at h
    · omega
    · exact (h rfl).elim
end Go.Proofs.YtpfdlpniijgakaaDoor
