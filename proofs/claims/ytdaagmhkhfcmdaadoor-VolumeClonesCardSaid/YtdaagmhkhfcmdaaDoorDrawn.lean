/- A region that draws its order, each operation shown once, against what it waits for: no program in sight. -/
import Derived.OrdersHeld
import Derived.Test.YtdaagmhkhfcmdaaDoorGC
namespace Go.Proofs.YtdaagmhkhfcmdaaDoor
open Go Go.RowKit

/-- What is known of the memory, and how it grows. -/
class Gh (G : Type) where
  le : G → G → Prop
  refl : ∀ a, le a a
  trans : ∀ {a b c}, le a b → le b c → le a c
instance : Gh Fz := ⟨Ext, Ext.refl, Ext.trans⟩
theorem Gh.le.trans {G : Type} [Gh G] {a b c : G} (h : Gh.le a b) (k : Gh.le b c) : Gh.le a c := Gh.trans h k

/-- What is said of the value that an operation leaves. -/
inductive Word (G : Type) where
  | is (v : Value)
  | sat (p : G → Value → Prop)
def Word.holds {G : Type} (K : G) : Word G → Value → Prop
  | .is x, v => v = x
  | .sat p, v => p K v
def Word.mono {G : Type} [Gh G] : Word G → Prop
  | .is _ => True
  | .sat p => ∀ K K' v, Gh.le K K' → p K v → p K' v

def waits (o : Oper) (j : Nat) : Bool := o.after.toList.any fun e => Region.binds .any e && e.on == j
def slotOf (ops : Array Oper) (j : Nat) : Option Tmp := (ops[j]?).bind (·.dst)

/-- The places and the slots of the first m operations. -/
def slotList : Nat → List Oper → List (Nat × Tmp)
  | _, [] => []
  | i, o :: l => match o.dst with
    | some d => (i, d) :: slotList (i + 1) l
    | none => slotList (i + 1) l
def notSelect (o : Oper) : Bool := match o.op with
  | .select .. => false
  | _ => true
def looksOk (D : List (Nat × Tmp)) (o : Oper) : Bool :=
  (o.op.operands.toList.all fun x => match x with
    | .tmp t => D.all fun p => p.2 != t || waits o p.1
    | _ => true) &&
  match o.guard with
  | none => true
  | some (g, _) => waits o g && D.all fun p => p.1 != g || D.all fun q => q.2 != p.2 || waits o q.1
def drawnChk (D : List (Nat × Tmp)) (m n : Nat) : Nat → List Tmp → List Oper → Bool
  | _, _, [] => true
  | i, ds, o :: l => notSelect o && (o.after.toList.all fun e => !Region.binds .any e || Nat.blt e.on i) &&
    (if i < m then
      (match o.dst with
       | some d => Nat.blt d n && !ds.contains d && looksOk D o && drawnChk D m n (i + 1) (d :: ds) l
       | none => false)
     else drawnChk D m n (i + 1) ds l)
def waitsList (o : Oper) : List Nat := o.after.toList.filterMap fun e => if Region.binds .any e then some e.on else none
/-- What an operation waits for, through others too. -/
def clo (L : List Oper) : Nat → List Nat → List Nat
  | 0, S => S
  | k + 1, S => clo L k (match L[k]? with | some o => if S.contains k then S ++ waitsList o else S | none => S)
/-- The m-th operation waits for all before it, those behind it for the one before. -/
def lastOk (L : List Oper) (m : Nat) : Bool :=
  (match L[m]? with | some o => (List.range m).all fun j => (clo L m (waitsList o)).contains j | none => true) &&
  (List.range L.length).all fun i => Nat.ble i m || (match L[i]? with | some o => waits o (i - 1) | none => true)
/-- The first m operations come in any order; the others wait for all that stand before them. -/
def drawnOk (ops : Array Oper) (m n : Nat) : Bool := Nat.ble m ops.toList.length && drawnChk (slotList 0 (ops.toList.take m)) m n 0 [] ops.toList && lastOk ops.toList m
theorem waits_mem {o : Oper} {j : Nat} (h : j ∈ waitsList o) : waits o j = true := by
  simp only [waitsList, List.mem_filterMap] at h
  obtain ⟨e, he, hb⟩ := h
  split at hb
  · next hbb => cases hb; simp only [waits, List.any_eq_true]; exact ⟨e, he, by simp [hbb]⟩
  · cases hb
theorem clo_all {L : List Oper} {p : Nat → Prop} (hc : ∀ i o, L[i]? = some o → p i → ∀ j, waits o j = true → p j) : ∀ (k : Nat) (S : List Nat), (∀ j ∈ S, p j) → ∀ j ∈ clo L k S, p j
  | 0, S, h => h
  | k + 1, S, h => by
    unfold clo
    refine clo_all hc k _ ?_
    split
    · next o ho =>
      split
      · next hk =>
        intro j hj
        rcases List.mem_append.1 hj with hj | hj
        · exact h j hj
        · exact hc k o ho (h k (by simpa using hk)) j (waits_mem hj)
      · exact h
    · exact h

def stepQ (N : Act → World → Prop) : Exit → Act → World → Prop
  | .normal, A, W => N A W
  | _, _, _ => False

/-- One more operation has come. -/
def come (L : Nat → Bool) (i : Nat) : Nat → Bool := fun j => if j = i then true else L j
theorem come_other {L : Nat → Bool} {i j : Nat} (h : j ≠ i) : come L i j = L j := by simp [come, h]
section
variable {G : Type} [Gh G] (P : Program) (ops : Array Oper) (I : (Nat → Bool) → G → World → Prop) (K0 : G)

def StepGoal (i : Nat) (o : Oper) (w : Word G) (a : Act) (facts : G → Prop) : Prop :=
  ∀ L K W, L i = false → Gh.le K0 K → I L K W → facts K → wpList P ops (stepQ fun A' W' => ∃ v K', Gh.le K K' ∧ I (come L i) K' W' ∧ A' = a.put o.dst v ∧ w.holds K' v) [o] a W

def StepAll : Nat → List (Oper × Word G) → Act → (Oper → G → Prop) → Prop
  | _, [], _, _ => True
  | i, (o, .is x) :: l, a, facts => StepGoal P ops I K0 i o (.is x) a (facts o) ∧ StepAll (i + 1) l (a.put o.dst x) facts
  | i, (o, .sat p) :: l, a, facts => StepGoal P ops I K0 i o (.sat p) a (facts o) ∧ ∀ v, StepAll (i + 1) l (a.put o.dst v) (fun o' K => facts o' K ∧ (waits o' i = true → p K v))

def RestAll (m : Nat) (goal : G → Act → World → Prop) : List (Oper × Word G) → Act → (G → Prop) → Prop
  | [], a, facts => ∀ L K W, (∀ j, j < m → L j = true) → Gh.le K0 K → I L K W → facts K → goal K a W
  | (o, .is x) :: l, a, facts => RestAll m goal l (a.put o.dst x) facts
  | (o, .sat p) :: l, a, facts => ∀ v, RestAll m goal l (a.put o.dst v) (fun K => facts K ∧ p K v)
end

/-- The frame when the first i operations have left these values. -/
def actOf (ops : Array Oper) (vals : Nat → Value) (a : Act) : Nat → Act
  | 0 => a
  | i + 1 => (actOf ops vals a i).put (slotOf ops i) (vals i)

theorem put_defers (a : Act) (d : Option Tmp) (v : Value) : (a.put d v).defers = a.defers := by cases d <;> rfl
theorem put_size (a : Act) (d : Option Tmp) (v : Value) : (a.put d v).tmps.size = a.tmps.size := by cases d <;> simp [Act.put]
theorem put_get (a : Act) (d t : Tmp) (v : Value) (h : d < a.tmps.size) : (a.put (some d) v).tmps[t]? = if t = d then some v else a.tmps[t]? := by
  simp only [Act.put]
  by_cases e : t = d
  · subst e; simp [h]
  · rw [if_neg e, Array.getElem?_setIfInBounds_ne (Ne.symm e)]
theorem put_get_ne (a : Act) (d : Option Tmp) (t : Tmp) (v : Value) (h : d ≠ some t) : (a.put d v).tmps[t]? = a.tmps[t]? := by
  cases d with
  | none => rfl
  | some d => exact Array.getElem?_setIfInBounds_ne (fun e => h (by rw [e]))

section sound
variable {G : Type} [Gh G] {P : Program} {ops : Array Oper} {I : (Nat → Bool) → G → World → Prop} {K0 : G} {m : Nat} {a : Act}

theorem actOf_defers (vals : Nat → Value) : ∀ i, (actOf ops vals a i).defers = a.defers
  | 0 => rfl
  | i + 1 => (put_defers _ _ _).trans (actOf_defers vals i)
theorem actOf_size (vals : Nat → Value) : ∀ i, (actOf ops vals a i).tmps.size = a.tmps.size
  | 0 => rfl
  | i + 1 => (put_size _ _ _).trans (actOf_size vals i)
theorem actOf_other (vals : Nat → Value) (t : Tmp) : ∀ i, (∀ j, j < i → slotOf ops j ≠ some t) → (actOf ops vals a i).tmps[t]? = a.tmps[t]?
  | 0, _ => rfl
  | i + 1, h => (put_get_ne _ _ _ _ (h i (by omega))).trans (actOf_other vals t i fun j hj => h j (by omega))

structure Okay (ops : Array Oper) (m n : Nat) : Prop where
  sel : ∀ (j : Nat) (o : Oper) cs b, ops[j]? = some o → o.op ≠ .select cs b
  le : m ≤ ops.size
  back : ∀ i o, ops[i]? = some o → ∀ e ∈ o.after, Region.binds .any e = true → e.on < i
  dst : ∀ i, i < m → ∃ d, slotOf ops i = some d ∧ d < n ∧ ∀ j, j < i → slotOf ops j ≠ some d
  looks : ∀ i o, i < m → ops[i]? = some o → ∀ j d, j < m → slotOf ops j = some d → d ∈ o.looksAt ops → waits o j = true
  last0 : ∀ o, ops[m]? = some o → ∀ j, j < m → j ∈ clo ops.toList m (waitsList o)
  last1 : ∀ i o, m < i → ops[i]? = some o → waits o (i - 1) = true

theorem mem_slotList : ∀ (l : List Oper) (i j : Nat) (d : Tmp), (∃ o, l[j]? = some o ∧ o.dst = some d) → (i + j, d) ∈ slotList i l
  | [], i, j, d, ⟨o, h, _⟩ => by simp at h
  | o :: l, i, 0, d, ⟨o', h, hd⟩ => by
    obtain rfl : o = o' := by simpa using h
    simp [slotList, hd]
  | o :: l, i, j + 1, d, ⟨o', h, hd⟩ => by
    have := mem_slotList l (i + 1) j d ⟨o', by simpa using h, hd⟩
    rw [show i + (j + 1) = i + 1 + j by omega]
    unfold slotList
    split
    · exact List.mem_cons_of_mem _ this
    · exact this

theorem drawnChk_get {D : List (Nat × Tmp)} {m n : Nat} : ∀ (l : List Oper) (i : Nat) (ds : List Tmp), drawnChk D m n i ds l = true → ∀ (k : Nat) (o : Oper), l[k]? = some o →
    notSelect o = true ∧ (∀ e ∈ o.after, Region.binds .any e = true → e.on < i + k) ∧
    (i + k < m → ∃ d, o.dst = some d ∧ d < n ∧ looksOk D o = true ∧ d ∉ ds ∧ ∀ j o', j < k → l[j]? = some o' → o'.dst ≠ some d)
  | [], i, ds, _, k, o, h => by simp at h
  | o :: l, i, ds, hc, k, o', h => by
    unfold drawnChk at hc
    simp only [Bool.and_eq_true] at hc
    obtain ⟨⟨h1, h2⟩, h3⟩ := hc
    cases k with
    | zero =>
      obtain rfl : o = o' := by simpa using h
      refine ⟨h1, fun e he hb => ?_, fun hlt => ?_⟩
      · have := List.all_eq_true.1 h2 e (by simpa using he)
        simpa [hb] using this
      · rw [if_pos (by simpa using hlt)] at h3
        cases hd : o.dst with
        | none => simp [hd] at h3
        | some d =>
          simp only [hd, Bool.and_eq_true] at h3
          exact ⟨d, rfl, by simpa using h3.1.1.1, h3.1.2, by simpa using h3.1.1.2, fun j o' hj => by omega⟩
    | succ k =>
      have h' : l[k]? = some o' := by simpa using h
      have hik : i + (k + 1) = i + 1 + k := by omega
      rw [hik]
      split at h3
      · rename_i hlt
        cases hd : o.dst with
        | none => simp [hd] at h3
        | some d =>
          simp only [hd, Bool.and_eq_true] at h3
          obtain ⟨r1, r2, r3⟩ := drawnChk_get l (i + 1) (d :: ds) h3.2 k o' h'
          refine ⟨r1, r2, fun hlt' => ?_⟩
          obtain ⟨d', e1, e2, e3, e4, e5⟩ := r3 hlt'
          refine ⟨d', e1, e2, e3, fun hm => e4 (List.mem_cons_of_mem _ hm), fun j o2 hj ho2 => ?_⟩
          cases j with
          | zero =>
            obtain rfl : o = o2 := by simpa using ho2
            rw [hd]
            intro e; cases e
            exact e4 (List.mem_cons_self)
          | succ j => exact e5 j o2 (by omega) (by simpa using ho2)
      · rename_i hge
        obtain ⟨r1, r2, r3⟩ := drawnChk_get l (i + 1) ds h3 k o' h'
        exact ⟨r1, r2, fun hlt => by omega⟩

theorem okay_of {n : Nat} (h : drawnOk ops m n = true) : Okay ops m n := by
  simp only [drawnOk, Bool.and_eq_true] at h
  obtain ⟨⟨h1, h2⟩, h3⟩ := h
  simp only [lastOk, Bool.and_eq_true] at h3
  have hle : m ≤ ops.size := by simpa using h1
  have hget : ∀ (i : Nat) (o : Oper), ops[i]? = some o → ops.toList[i]? = some o := fun i o h => by simpa using h
  have hD : ∀ j d, j < m → slotOf ops j = some d → (j, d) ∈ slotList 0 (ops.toList.take m) := fun j d hj hd => by
    have := mem_slotList (ops.toList.take m) 0 j d ?_
    · simpa using this
    · have hlt : j < ops.size := by omega
      refine ⟨ops[j], ?_, ?_⟩
      · rw [List.getElem?_take, if_pos hj]
        simp [hlt]
      · simpa [slotOf, hlt] using hd
  have key := fun i o ho => drawnChk_get ops.toList 0 [] h2 i o (hget i o ho)
  refine ⟨fun j o cs b ho e => ?_, hle, fun i o ho e he hb => by simpa using (key i o ho).2.1 e he hb, fun i hi => ?_, fun i o hi ho j d hj hd hl => ?_, fun o ho j hj => ?_, fun i o hi ho => ?_⟩
  · have := (key j o ho).1
    simp [notSelect, e] at this
  · have hlt : i < ops.size := by omega
    obtain ⟨d, e1, e2, _, _, e5⟩ := (key i _ (Array.getElem?_eq_getElem hlt)).2.2 (by omega)
    refine ⟨d, by simp [slotOf, hlt, e1], e2, fun j hj => ?_⟩
    have hlt' : j < ops.size := by omega
    have := e5 j ops[j] hj (by simp [hlt'])
    simpa [slotOf, hlt'] using this
  · obtain ⟨_, _, _, e3, _, _⟩ := (key i o ho).2.2 (by omega)
    simp only [looksOk, Bool.and_eq_true] at e3
    have hmem := hD j d hj hd
    rcases List.mem_append.1 hl with hl | hl
    · obtain ⟨x, hx, hxt⟩ := List.mem_filterMap.1 hl
      cases x with
      | tmp t =>
        obtain rfl : t = d := by simpa using hxt
        have := List.all_eq_true.1 e3.1 _ hx
        have := List.all_eq_true.1 this _ hmem
        simpa using this
      | _ => simp at hxt
    · cases hg : o.guard with
      | none => simp [hg] at hl
      | some g =>
        obtain ⟨g, want⟩ := g
        simp only [hg] at hl e3
        have hgd : slotOf ops g = some d := by simpa [slotOf] using hl
        have e4 := e3.2
        rw [Bool.and_eq_true] at e4
        by_cases hgm : g < m
        · have := List.all_eq_true.1 e4.2 _ (hD g d hgm hgd)
          have := (by simpa using this : (slotList 0 (ops.toList.take m)).all (fun q => q.2 != d || waits o q.1) = true)
          have := List.all_eq_true.1 this _ hmem
          simpa using this
        · exfalso
          have hwg := e4.1
          simp only [waits, List.any_eq_true] at hwg
          obtain ⟨k, hk, hb⟩ := hwg
          simp only [Bool.and_eq_true, beq_iff_eq] at hb
          have := (key i o ho).2.1 k (by simpa using hk) hb.1
          omega
  · have h4 := h3.1
    rw [hget m o ho] at h4
    simpa using List.all_eq_true.1 h4 j (List.mem_range.2 hj)
  · have hlt := (Array.getElem?_eq_some_iff.1 ho).1
    have h4 := List.all_eq_true.1 h3.2 i (List.mem_range.2 (by simpa using hlt))
    rw [hget i o ho] at h4
    simp only [Bool.or_eq_true, Nat.ble_eq] at h4
    rcases h4 with h4 | h4
    · omega
    · exact h4

theorem actOf_at {n : Nat} (ok : Okay ops m n) (hn : a.tmps.size = n) (vals : Nat → Value) : ∀ i, i ≤ m → ∀ j d, j < i → slotOf ops j = some d → (actOf ops vals a i).tmps[d]? = some (vals j)
  | 0, _, j, d, hj, _ => by omega
  | i + 1, hi, j, d, hj, hd => by
    obtain ⟨d', hd', hlt, hne⟩ := ok.dst i (by omega)
    unfold actOf
    by_cases e : j = i
    · subst e
      rw [hd] at hd'
      cases hd'
      rw [hd, put_get _ _ _ _ (by rw [actOf_size, hn]; exact hlt), if_pos rfl]
    · rw [put_get_ne _ _ _ _ (by rw [hd']; intro e'; cases e'; exact hne j (by omega) hd)]
      exact actOf_at ok hn vals i (by omega) j d (by omega) hd

/-- What the steps say at whatever values the operations before have left. -/
theorem StepAll.get {ws : List (Word G)} (hl : ws.length = m) (hm : m ≤ ops.size) (vals : Nat → Value) (hv : ∀ j x, ws[j]? = some (.is x) → vals j = x) :
    ∀ (n i : Nat) (facts : Oper → G → Prop), i + n = m → StepAll P ops I K0 i (((ops.toList.take m).zip ws).drop i) (actOf ops vals a i) facts →
      (∀ o K, facts o K ↔ ∀ j p, j < i → ws[j]? = some (.sat p) → waits o j = true → p K (vals j)) →
      ∀ k o w, i ≤ k → k < m → ops[k]? = some o → ws[k]? = some w →
        StepGoal P ops I K0 k o w (actOf ops vals a k) (fun K => ∀ j p, j < k → ws[j]? = some (.sat p) → waits o j = true → p K (vals j))
  | 0, i, facts, hin, _, _, k, o, w, hik, hk, _, _ => by omega
  | n + 1, i, facts, hin, hs, hf, k, o, w, hik, hk, ho, hw => by
    have hi : i < m := by omega
    obtain ⟨oi, hoi⟩ : ∃ o, ops[i]? = some o := ⟨_, Array.getElem?_eq_getElem (by omega)⟩
    obtain ⟨wi, hwi⟩ : ∃ w, ws[i]? = some w := ⟨_, List.getElem?_eq_getElem (by omega)⟩
    have hz : ((ops.toList.take m).zip ws).drop i = (oi, wi) :: ((ops.toList.take m).zip ws).drop (i + 1) := by
      have hlen : i < ((ops.toList.take m).zip ws).length := by simp; omega
      rw [List.drop_eq_getElem_cons hlen]
      congr 1
      have h1 : ((ops.toList.take m).zip ws)[i]? = some (oi, wi) := by
        rw [List.getElem?_zip_eq_some]
        refine ⟨?_, hwi⟩
        rw [List.getElem?_take, if_pos hi]
        simpa using hoi
      rw [List.getElem?_eq_getElem hlen] at h1
      exact Option.some.inj h1
    have hslot : slotOf ops i = oi.dst := by simp [slotOf, hoi]
    rw [hz] at hs
    cases wi with
    | is x =>
      obtain ⟨h1, h2⟩ := hs
      by_cases e : k = i
      · subst e
        rw [hoi] at ho; cases ho
        rw [hwi] at hw; cases hw
        exact fun L K W hL hE hI hF => h1 L K W hL hE hI ((hf _ _).2 hF)
      · refine StepAll.get hl hm vals hv n (i + 1) facts (by omega) ?_ ?_ k o w (by omega) hk ho hw
        · unfold actOf; rw [hslot, hv i x hwi]; exact h2
        · intro o K
          rw [hf]
          constructor
          · intro h j p hj hp
            exact h j p (by by_cases e : j = i; · subst e; rw [hwi] at hp; cases hp
                            omega) hp
          · intro h j p hj hp
            exact h j p (by omega) hp
    | sat q =>
      obtain ⟨h1, h2⟩ := hs
      by_cases e : k = i
      · subst e
        rw [hoi] at ho; cases ho
        rw [hwi] at hw; cases hw
        exact fun L K W hL hE hI hF => h1 L K W hL hE hI ((hf _ _).2 hF)
      · refine StepAll.get hl hm vals hv n (i + 1) (fun o' K => facts o' K ∧ (waits o' i = true → q K (vals i))) (by omega) ?_ ?_ k o w (by omega) hk ho hw
        · unfold actOf; rw [hslot]; exact h2 (vals i)
        · intro o K
          rw [hf]
          constructor
          · rintro ⟨h, h'⟩ j p hj hp hwt
            by_cases e : j = i
            · subst e; rw [hwi] at hp; cases hp; exact h' hwt
            · exact h j p (by omega) hp hwt
          · intro h
            exact ⟨fun j p hj hp => h j p (by omega) hp, fun hwt => h i q (by omega) hwi hwt⟩

theorem RestAll.get {goal : G → Act → World → Prop} {ws : List (Word G)} (hl : ws.length = m) (hm : m ≤ ops.size) (vals : Nat → Value) (hv : ∀ j x, ws[j]? = some (.is x) → vals j = x) :
    ∀ (n i : Nat) (facts : G → Prop), i + n = m → RestAll I K0 m goal (((ops.toList.take m).zip ws).drop i) (actOf ops vals a i) facts →
      (∀ K, facts K ↔ ∀ j p, j < i → ws[j]? = some (.sat p) → p K (vals j)) →
      ∀ L K W, (∀ j, j < m → L j = true) → Gh.le K0 K → I L K W → (∀ j p, j < m → ws[j]? = some (.sat p) → p K (vals j)) → goal K (actOf ops vals a m) W
  | 0, i, facts, hin, hs, hf, L, K, W, hL, hE, hI, hF => by
    obtain rfl : i = m := by omega
    have hz : ((ops.toList.take i).zip ws).drop i = [] := List.drop_eq_nil_of_le (by simp; omega)
    rw [hz] at hs
    exact hs L K W hL hE hI ((hf K).2 hF)
  | n + 1, i, facts, hin, hs, hf, L, K, W, hL, hE, hI, hF => by
    have hi : i < m := by omega
    obtain ⟨oi, hoi⟩ : ∃ o, ops[i]? = some o := ⟨_, Array.getElem?_eq_getElem (by omega)⟩
    obtain ⟨wi, hwi⟩ : ∃ w, ws[i]? = some w := ⟨_, List.getElem?_eq_getElem (by omega)⟩
    have hz : ((ops.toList.take m).zip ws).drop i = (oi, wi) :: ((ops.toList.take m).zip ws).drop (i + 1) := by
      have hlen : i < ((ops.toList.take m).zip ws).length := by simp; omega
      rw [List.drop_eq_getElem_cons hlen]
      congr 1
      have h1 : ((ops.toList.take m).zip ws)[i]? = some (oi, wi) := by
        rw [List.getElem?_zip_eq_some]
        refine ⟨?_, hwi⟩
        rw [List.getElem?_take, if_pos hi]
        simpa using hoi
      rw [List.getElem?_eq_getElem hlen] at h1
      exact Option.some.inj h1
    have hslot : slotOf ops i = oi.dst := by simp [slotOf, hoi]
    rw [hz] at hs
    cases wi with
    | is x =>
      refine RestAll.get hl hm vals hv n (i + 1) facts (by omega) ?_ ?_ L K W hL hE hI hF
      · unfold actOf; rw [hslot, hv i x hwi]; exact hs
      · intro K
        rw [hf]
        constructor
        · intro h j p hj hp
          exact h j p (by by_cases e : j = i; · subst e; rw [hwi] at hp; cases hp
                          omega) hp
        · intro h j p hj hp
          exact h j p (by omega) hp
    | sat q =>
      refine RestAll.get hl hm vals hv n (i + 1) (fun K => facts K ∧ q K (vals i)) (by omega) ?_ ?_ L K W hL hE hI hF
      · unfold actOf; rw [hslot]; exact hs (vals i)
      · intro K
        rw [hf]
        constructor
        · rintro ⟨h, h'⟩ j p hj hp
          by_cases e : j = i
          · subst e; rw [hwi] at hp; cases hp; exact h'
          · exact h j p (by omega) hp
        · intro h
          exact ⟨fun j p hj hp => h j p (by omega) hp, h i q (by omega) hwi⟩

/-- One step, at whatever frame agrees on what the operation looks at. -/
theorem StepGoal.at {o : Oper} {wd : Word G} {b A : Act} {facts : G → Prop} {K : G} {W : World} {Q : Exit → Act → World → Prop} {d : Tmp} {N : Act → World → Prop} {i : Nat} {L : Nat → Bool} (h : StepGoal P ops I K0 i o wd b facts) (hL : L i = false) (hE : Gh.le K0 K) (hI : I L K W) (hF : facts K)
    (hd : o.dst = some d) (hb : d < b.tmps.size) (hsel : ∀ cs b, o.op ≠ .select cs b) (hdf : A.defers = b.defers) (heq : ∀ t, t ∈ o.looksAt ops → A.tmps[t]? = b.tmps[t]?)
    (hN : ∀ v K' W', Gh.le K K' → I (come L i) K' W' → wd.holds K' v → N (A.put (some d) v) W') :
    if Region.wanted o (yielded ops A.tmps) = true then o.wp P A W N Q ∨ (o.asks P A W ∧ LetsOut Q) else N (A.put o.dst undef) W := by
  have hex : execOp A.eval o = execOp b.eval o := execOp_congr o hsel fun x hx => by
    cases x with
    | tmp t =>
      have := heq t (List.mem_append_left _ (List.mem_filterMap.2 ⟨.tmp t, by simpa using hx, rfl⟩))
      simp [Act.eval, this]
    | _ => rfl
  have hwa : Region.wanted o (yielded ops A.tmps) = Region.wanted o (yielded ops b.tmps) := by
    unfold Region.wanted
    cases hg : o.guard with
    | none => rfl
    | some g =>
      obtain ⟨g, want⟩ := g
      have : yielded ops A.tmps g = yielded ops b.tmps g := by
        unfold yielded
        cases hs : (ops[g]?).bind (·.dst) with
        | none => rfl
        | some t =>
          have := heq t (List.mem_append_right _ (by simp [hg, hs]))
          simp [this]
      simp only [this]
  have hinj : ∀ v v', b.put (some d) v = b.put (some d) v' → v = v' := fun v v' e => by
    have := congrArg (fun c => c.tmps[d]?) e
    simp only [put_get _ _ _ _ hb, if_true] at this
    exact Option.some.inj this
  have h1 := h L K W hL hE hI hF
  unfold wpList at h1
  rw [hwa]
  rw [hd] at h1 ⊢
  split at h1
  · rename_i hw
    rw [if_pos hw]
    rcases h1 with h1 | ⟨_, _, _, h1⟩
    · left
      unfold Oper.wp at h1 ⊢
      rw [hex]
      generalize (execOp b.eval o).run P W = r at h1
      have key : ∀ v W', wpList P ops (stepQ fun A' W' => ∃ v K', Gh.le K K' ∧ I (come L i) K' W' ∧ A' = b.put (some d) v ∧ wd.holds K' v) [] (b.put o.dst v) W' → N (A.put o.dst v) W' := fun v W' h2 => by
        obtain ⟨v', K', e1, e2, e3, e4⟩ := h2
        rw [hd] at e3
        rw [hinj _ _ e3, hd]
        exact hN v' K' W' e1 e2 e4
      cases r with
      | halt x w' => cases x <;> exact h1.elim
      | ok x w' =>
        cases x with
        | value v => exact key v w' h1
        | skip => exact key undef w' h1
        | defer df =>
          obtain ⟨v', K', e1, e2, e3, e4⟩ := h1
          exfalso
          have := congrArg Act.defers e3
          rw [put_defers, put_defers] at this
          have := congrArg List.length this
          simp at this
        | enter f args =>
          refine Calls.mono h1 fun e w'' h2 => ?_
          cases e with
          | returned v => exact key v w'' h2
          | panicked c => exact h2.elim
          | outgrown => obtain ⟨_, _, h2⟩ := h2; exact h2.elim
        | row r args => exact Rows.mono h1 fun v w'' h2 => key v w'' h2
        | _ => exact h1.elim
    · exact h1.elim
  · rename_i hw
    rw [if_neg hw]
    obtain ⟨v', K', e1, e2, e3, e4⟩ := h1
    rw [hinj _ _ e3]
    exact hN v' K' W e1 e2 e4

/-- The last operations come in the order of the text. -/
theorem wpAny_last {n : Nat} {Q : Exit → Act → World → Prop} (ok : Okay ops m n) : ∀ (fuel i : Nat) (listed : Array Bool) (A : Act) (W : World), m ≤ i → i ≤ ops.size → listed.size = ops.size → (∀ j, j < ops.size → (listed.getD j false = true ↔ j < i)) → ops.size ≤ i + fuel →
    wpList P ops Q (ops.toList.drop i) A W → wpAny P .any ops Q fuel listed A W := by
  intro fuel
  induction fuel with
  | zero =>
    intro i listed A W hmi hi hs hl hf h
    obtain rfl : i = ops.size := by omega
    rw [List.drop_eq_nil_of_le (by simp)] at h
    refine ⟨?_, h⟩
    refine List.eq_nil_iff_forall_not_mem.2 fun j hj => ?_
    obtain ⟨h0, o, ho, _⟩ := mem_ready.1 hj
    have hlt := (Array.getElem?_eq_some_iff.1 ho).1
    have := (hl j hlt).2 hlt
    simp [Array.getD, hs, hlt] at h0 this
    rw [h0] at this; cases this
  | succ fuel ih =>
    intro i listed A W hmi hi hs hl hf h
    have hready : ∀ j ∈ Region.ready .any ops listed, j = i := fun j hj => by
      obtain ⟨h0, o, ho, hw⟩ := mem_ready.1 hj
      have hlt := (Array.getElem?_eq_some_iff.1 ho).1
      have hji : ¬ j < i := fun hji => by
        have := (hl j hlt).2 hji
        simp [Array.getD, hs, hlt] at h0 this
        rw [h0] at this; cases this
      by_cases e : j = i
      · exact e
      · exfalso
        have := ok.last1 j o (by omega) ho
        simp only [waits, List.any_eq_true] at this
        obtain ⟨k, hk, hb⟩ := this
        simp only [Bool.and_eq_true, beq_iff_eq] at hb
        have := hw _ (by simpa using hk) hb.1
        rw [hb.2] at this
        have := (hl (j - 1) (by omega)).1 this
        omega
    by_cases hin : i = ops.size
    · subst hin
      have hnil : Region.ready .any ops listed = [] := List.eq_nil_iff_forall_not_mem.2 fun j hj => by
        have e := hready j hj
        obtain ⟨_, o, ho, _⟩ := mem_ready.1 hj
        have := (Array.getElem?_eq_some_iff.1 ho).1
        omega
      rw [List.drop_eq_nil_of_le (by simp)] at h
      exact ⟨fun _ => h, fun j hj => by rw [hnil] at hj; cases hj⟩
    · have hlt : i < ops.size := by omega
      obtain ⟨o, ho⟩ : ∃ o, ops[i]? = some o := ⟨_, Array.getElem?_eq_getElem hlt⟩
      have hd : ops.toList.drop i = o :: ops.toList.drop (i + 1) := by
        rw [List.drop_eq_getElem_cons (by simpa using hlt)]
        congr 1
        rw [Array.getElem?_eq_getElem hlt] at ho
        simpa using ho
      rw [hd] at h
      have hmem : i ∈ Region.ready .any ops listed := mem_ready.2 ⟨by
          have := mt (hl i hlt).1 (by omega)
          simp [Array.getD, hs, hlt] at this ⊢
          exact this, o, ho, fun e he hb => (hl e.on (by have := ok.back i o ho e he hb; omega)).2 (ok.back i o ho e he hb)⟩
      refine ⟨fun hn => (by rw [hn] at hmem; cases hmem), fun j hj => ?_⟩
      obtain rfl := hready j hj
      have hcont : ∀ A W, wpList P ops Q (ops.toList.drop (j + 1)) A W → wpAny P .any ops Q fuel (listed.setIfInBounds j true) A W := fun A W h =>
        ih (j + 1) _ A W (by omega) (by omega) (by simp [hs]) (fun k hk => by
          by_cases e : k = j
          · subst e; simp [Array.getD, hs, hk]
          · rw [getD_set_ne false (Ne.symm e), hl k hk]; omega) (by omega) h
      unfold wpOp
      rw [ho]
      unfold wpList at h
      dsimp only
      split at h
      · rename_i hw
        rw [if_pos hw]
        rcases h with h | h
        · exact .inl (Oper.wp_mono hcont h)
        · exact .inr h
      · rename_i hw
        rw [if_neg hw]
        exact hcont _ _ h

/-- How many operations are still to come. -/
def unl (n : Nat) (listed : Array Bool) : Nat := ((List.range n).filter fun j => !listed.getD j true).length
theorem unl_set {n i : Nat} {listed : Array Bool} (hs : listed.size = n) (hi : i < n) (h : listed.getD i true = false) : unl n (listed.setIfInBounds i true) + 1 = unl n listed := by
  unfold unl
  have key : ∀ k, k ≤ n → ((List.range k).filter fun j => !(listed.setIfInBounds i true).getD j true).length + (if i < k then 1 else 0) = ((List.range k).filter fun j => !listed.getD j true).length := by
    intro k
    induction k with
    | zero => intro _; simp
    | succ k ih =>
      intro hk
      have ih := ih (by omega)
      rw [List.range_succ, List.filter_append, List.filter_append, List.length_append, List.length_append, ← ih]
      simp only [List.filter_cons, List.filter_nil]
      by_cases e : i = k
      · subst e
        have h1 : (listed.setIfInBounds i true).getD i true = true := by simp [Array.getD, hs, hi]
        rw [h, h1]
        simp
      · rw [getD_set_ne true e]
        by_cases hik : i < k
        · rw [if_pos hik, if_pos (show i < k + 1 by omega)]; omega
        · rw [if_neg hik, if_neg (show ¬ i < k + 1 by omega)]
          rfl
  have := key n (Nat.le_refl n)
  rw [if_pos hi] at this
  exact this

/-- How a run stands among the first m operations. -/
structure Runs (ops : Array Oper) (m : Nat) (a : Act) (ws : List (Word G)) (I : (Nat → Bool) → G → World → Prop) (K0 : G) (listed : Array Bool) (K : G) (A : Act) (W : World) : Prop where
  ext : Gh.le K0 K
  inv : I (fun j => listed.getD j false) K W
  defers : A.defers = a.defers
  size : A.tmps.size = a.tmps.size
  other : ∀ t, (∀ j, j < m → listed.getD j false = true → slotOf ops j ≠ some t) → A.tmps[t]? = a.tmps[t]?
  done : ∀ j d w, j < m → listed.getD j false = true → slotOf ops j = some d → ws[j]? = some w → w.holds K (A.tmps[d]?.getD undef)

theorem run_first {n : Nat} {Q : Exit → Act → World → Prop} {ws : List (Word G)} (ok : Okay ops m n) (hn : a.tmps.size = n) (hl : ws.length = m) (hmono : ∀ w ∈ ws, w.mono)
    (hs : StepAll P ops I K0 0 ((ops.toList.take m).zip ws) a (fun _ _ => True))
    (hr : RestAll I K0 m (fun _ A W => wpList P ops Q (ops.toList.drop m) A W) ((ops.toList.take m).zip ws) a (fun _ => True)) :
    ∀ (fuel : Nat) (listed : Array Bool) (K : G) (A : Act) (W : World), listed.size = ops.size → (∀ j, m ≤ j → listed.getD j false = false) → (∀ i o, ops[i]? = some o → listed.getD i false = true → ∀ j, waits o j = true → listed.getD j false = true) → unl ops.size listed ≤ fuel → Runs ops m a ws I K0 listed K A W →
      wpAny P .any ops Q fuel listed A W := by
  intro fuel
  have hval : ∀ (A : Act) (j : Nat), ∃ v : Value, (∀ x, ws[j]? = some (.is x) → v = x) ∧ ((∀ x, ws[j]? ≠ some (.is x)) → v = ((slotOf ops j).bind (A.tmps[·]?)).getD undef) := by
    intro A j
    cases hw : ws[j]? with
    | none => exact ⟨_, fun x h => (by cases h), fun _ => rfl⟩
    | some w =>
      cases w with
      | is x => exact ⟨x, fun y h => (by cases h; rfl), fun h => (h x rfl).elim⟩
      | sat p => exact ⟨_, fun x h => (by cases h), fun _ => rfl⟩
  -- the values that a frame holds
  have hvals : ∀ A : Act, ∃ vals : Nat → Value, (∀ j x, ws[j]? = some (.is x) → vals j = x) ∧ (∀ j, (∀ x, ws[j]? ≠ some (.is x)) → vals j = ((slotOf ops j).bind (A.tmps[·]?)).getD undef) :=
    fun A => ⟨fun j => Classical.choose (hval A j), fun j x h => (Classical.choose_spec (hval A j)).1 x h, fun j h => (Classical.choose_spec (hval A j)).2 h⟩
  have hdone : ∀ {listed K A W}, Runs ops m a ws I K0 listed K A W → ∀ {vals : Nat → Value}, (∀ j x, ws[j]? = some (.is x) → vals j = x) → (∀ j, (∀ x, ws[j]? ≠ some (.is x)) → vals j = ((slotOf ops j).bind (A.tmps[·]?)).getD undef) →
      ∀ j d, j < m → listed.getD j false = true → slotOf ops j = some d → A.tmps[d]? = some (vals j) ∧ ∀ p, ws[j]? = some (.sat p) → p K (vals j) := by
    intro listed K A W R vals h1 h2 j d hj hlj hd
    obtain ⟨d', hd', hlt, _⟩ := ok.dst j hj
    rw [hd] at hd'; cases hd'
    have hget : A.tmps[d]? = some (A.tmps[d]?.getD undef) := by
      have : d < A.tmps.size := by rw [R.size, hn]; exact hlt
      simp [this]
    obtain ⟨w, hw⟩ : ∃ w, ws[j]? = some w := ⟨_, List.getElem?_eq_getElem (by omega)⟩
    have hh := R.done j d w hj hlj hd hw
    cases w with
    | is x =>
      have : A.tmps[d]?.getD undef = x := hh
      rw [h1 j x hw, ← this]
      exact ⟨hget, fun p hp => by rw [hw] at hp; cases hp⟩
    | sat p =>
      have e : vals j = A.tmps[d]?.getD undef := by rw [h2 j (fun x h => by rw [hw] at h; cases h), hd]; rfl
      rw [e]
      exact ⟨hget, fun q hq => by rw [hw] at hq; cases hq; exact hh⟩
  induction fuel with
  | zero =>
    intro listed K A W hsz hlast hcl hu R
    by_cases hall : ∀ j, j < m → listed.getD j false = true
    · obtain ⟨vals, h1, h2⟩ := hvals A
      have hA : A = actOf ops vals a m := by
        have ht : A.tmps = (actOf ops vals a m).tmps := by
          refine Array.ext_getElem? fun t => ?_
          by_cases ht : ∃ j, j < m ∧ slotOf ops j = some t
          · obtain ⟨j, hj, hd⟩ := ht
            rw [(hdone R h1 h2 j t hj (hall j hj) hd).1, actOf_at ok hn vals m (Nat.le_refl m) j t hj hd]
          · rw [R.other t (fun j hj _ hd => ht ⟨j, hj, hd⟩), actOf_other vals t m (fun j hj hd => ht ⟨j, hj, hd⟩)]
        have hdf : A.defers = (actOf ops vals a m).defers := R.defers.trans (actOf_defers vals m).symm
        cases A; cases h : actOf ops vals a m; simp_all
      refine wpAny_last ok 0 m listed A W (Nat.le_refl m) ok.le hsz (fun j hj => ⟨fun h => ?_, fun h => hall j h⟩) ?_ ?_
      · rcases Nat.lt_or_ge j m with h' | h'
        · exact h'
        · rw [hlast j h'] at h; cases h
      · rcases Nat.lt_or_ge m ops.size with h' | h'
        · exfalso
          have h0 : listed.getD m true = false := by
            have := hlast m (Nat.le_refl m)
            simp [Array.getD, hsz, h'] at this ⊢
            exact this
          have := unl_set hsz h' h0
          omega
        · omega
      · rw [hA]
        exact RestAll.get hl ok.le vals h1 m 0 (fun _ => True) (by omega) hr (fun K => ⟨fun _ j p hj => by omega, fun _ => trivial⟩) _ K W hall R.ext R.inv (fun j p hj hp => by
          obtain ⟨d, hd, _⟩ := ok.dst j hj
          exact (hdone R h1 h2 j d hj (hall j hj) hd).2 p hp)
    · exfalso
      have : ∃ j, j < m ∧ listed.getD j false = false := by
        refine Classical.byContradiction fun h => hall fun j hj => ?_
        cases hb : listed.getD j false with
        | true => rfl
        | false => exact (h ⟨j, hj, hb⟩).elim
      obtain ⟨j, hj, hb⟩ := this
      have hlt : j < ops.size := Nat.lt_of_lt_of_le hj ok.le
      have h0 : listed.getD j true = false := by
        simp [Array.getD, hsz, hlt] at hb ⊢
        exact hb
      have := unl_set hsz hlt h0
      omega
  | succ fuel ih =>
    intro listed K A W hsz hlast hcl hu R
    by_cases hall : ∀ j, j < m → listed.getD j false = true
    · obtain ⟨vals, h1, h2⟩ := hvals A
      have hA : A = actOf ops vals a m := by
        have ht : A.tmps = (actOf ops vals a m).tmps := by
          refine Array.ext_getElem? fun t => ?_
          by_cases ht : ∃ j, j < m ∧ slotOf ops j = some t
          · obtain ⟨j, hj, hd⟩ := ht
            rw [(hdone R h1 h2 j t hj (hall j hj) hd).1, actOf_at ok hn vals m (Nat.le_refl m) j t hj hd]
          · rw [R.other t (fun j hj _ hd => ht ⟨j, hj, hd⟩), actOf_other vals t m (fun j hj hd => ht ⟨j, hj, hd⟩)]
        have hdf : A.defers = (actOf ops vals a m).defers := R.defers.trans (actOf_defers vals m).symm
        cases A; cases h : actOf ops vals a m; simp_all
      have hunl : ops.size ≤ m + unl ops.size listed := by
        have : unl ops.size listed = ((List.range ops.size).filter fun j => decide (m ≤ j)).length := by
          unfold unl
          congr 1
          refine List.filter_congr fun j hj => ?_
          have hj := List.mem_range.1 hj
          by_cases hjm : j < m
          · have := hall j hjm
            simp [Array.getD, hsz, hj] at this ⊢
            simp [this, show ¬ m ≤ j by omega]
          · have := hlast j (by omega)
            simp [Array.getD, hsz, hj] at this ⊢
            simp [this, show m ≤ j by omega]
        rw [this]
        have : ∀ k, k ≤ m + ((List.range k).filter fun j => decide (m ≤ j)).length := by
          intro k
          induction k with
          | zero => omega
          | succ k ih =>
            rw [List.range_succ, List.filter_append, List.length_append]
            by_cases hk : m ≤ k
            · simp [hk]; omega
            · simp [hk]; omega
        exact this _
      refine wpAny_last ok (fuel + 1) m listed A W (Nat.le_refl m) ok.le hsz (fun j hj => ⟨fun h => ?_, fun h => hall j h⟩) (by omega) ?_
      · rcases Nat.lt_or_ge j m with h' | h'
        · exact h'
        · rw [hlast j h'] at h; cases h
      · rw [hA]
        exact RestAll.get hl ok.le vals h1 m 0 (fun _ => True) (by omega) hr (fun K => ⟨fun _ j p hj => by omega, fun _ => trivial⟩) _ K W hall R.ext R.inv (fun j p hj hp => by
          obtain ⟨d, hd, _⟩ := ok.dst j hj
          exact (hdone R h1 h2 j d hj (hall j hj) hd).2 p hp)
    · have hex : ∃ j, j < m ∧ listed.getD j false = false := by
        refine Classical.byContradiction fun h => hall fun j hj => ?_
        cases hb : listed.getD j false with
        | true => rfl
        | false => exact (h ⟨j, hj, hb⟩).elim
      -- the least operation that has not come may come
      have hready : Region.ready .any ops listed ≠ [] := by
        have : ∀ k j, j ≤ k → j < m → listed.getD j false = false → ∃ i, i ∈ Region.ready .any ops listed := by
          intro k
          induction k with
          | zero =>
            intro j hk hj hb
            obtain rfl : j = 0 := by omega
            have hlt : 0 < ops.size := Nat.lt_of_lt_of_le hj ok.le
            refine ⟨0, mem_ready.2 ⟨?_, _, Array.getElem?_eq_getElem hlt, fun e he hbnd => ?_⟩⟩
            · simp [Array.getD, hsz, hlt] at hb ⊢; exact hb
            · have := ok.back 0 _ (Array.getElem?_eq_getElem hlt) e he hbnd; omega
          | succ k ihk =>
            intro j hk hj hb
            by_cases hsm : ∃ i, i < j ∧ listed.getD i false = false
            · obtain ⟨i, hij, hbi⟩ := hsm
              exact ihk i (by omega) (by omega) hbi
            · have hlt : j < ops.size := Nat.lt_of_lt_of_le hj ok.le
              refine ⟨j, mem_ready.2 ⟨?_, _, Array.getElem?_eq_getElem hlt, fun e he hbnd => ?_⟩⟩
              · simp [Array.getD, hsz, hlt] at hb ⊢; exact hb
              · have hlt' := ok.back j _ (Array.getElem?_eq_getElem hlt) e he hbnd
                cases hbe : listed.getD e.on false with
                | true => rfl
                | false => exact (hsm ⟨_, hlt', hbe⟩).elim
        obtain ⟨j, hj, hb⟩ := hex
        obtain ⟨i, hi⟩ := this j j (Nat.le_refl j) hj hb
        intro h
        rw [h] at hi; cases hi
      refine ⟨fun h => (hready h).elim, fun i hi => ?_⟩
      obtain ⟨h0, o, ho, hw⟩ := mem_ready.1 hi
      have hlt := (Array.getElem?_eq_some_iff.1 ho).1
      have hwt : ∀ j, waits o j = true → listed.getD j false = true := by
        intro j hj
        simp only [waits, List.any_eq_true] at hj
        obtain ⟨k, hk, hb⟩ := hj
        simp only [Bool.and_eq_true, beq_iff_eq] at hb
        have := hw _ (by simpa using hk) hb.1
        rwa [hb.2] at this
      have him : i < m := by
        rcases Nat.lt_or_ge i m with h' | h'
        · exact h'
        · exfalso
          rcases Nat.lt_or_eq_of_le h' with h'' | h''
          · have h1 := hwt (i - 1) (ok.last1 i o h'' ho)
            rw [hlast (i - 1) (by omega)] at h1
            cases h1
          · subst h''
            exact hall fun j hj => clo_all (p := fun j => listed.getD j false = true) (fun i o ho => hcl i o (by simpa using ho)) m _ (fun j hj => hwt j (waits_mem hj)) j (ok.last0 o ho j hj)
      obtain ⟨vals, h1, h2⟩ := hvals A
      obtain ⟨w, hwi⟩ : ∃ w, ws[i]? = some w := ⟨_, List.getElem?_eq_getElem (by omega)⟩
      have hg := StepAll.get (a := a) hl ok.le vals h1 m 0 (fun _ _ => True) (by omega) hs (fun o K => ⟨fun _ j p hj => by omega, fun _ => trivial⟩) i o w (by omega) him ho hwi
      obtain ⟨d, hd, hdn, hdne⟩ := ok.dst i him
      have hod : o.dst = some d := by simpa [slotOf, ho] using hd
      have hstep := hg.at (A := A) (Q := Q) (N := wpAny P .any ops Q fuel (listed.setIfInBounds i true)) (L := fun j => listed.getD j false) (by simp [Array.getD, hsz, hlt] at h0 ⊢; exact h0) R.ext R.inv
        (fun j p hj hp hwj => by
          obtain ⟨d', hd', _⟩ := ok.dst j (by omega)
          exact (hdone R h1 h2 j d' (by omega) (hwt j hwj) hd').2 p hp)
        hod (by rw [actOf_size, hn]; exact hdn) (fun cs b => ok.sel i o cs b ho) (R.defers.trans (actOf_defers vals i).symm)
        (fun t ht => by
          by_cases hex : ∃ j, j < m ∧ slotOf ops j = some t
          · obtain ⟨j, hj, hdj⟩ := hex
            have hwj := ok.looks i o him ho j t hj hdj ht
            have hji : j < i := by
              simp only [waits, List.any_eq_true] at hwj
              obtain ⟨k, hk, hb⟩ := hwj
              simp only [Bool.and_eq_true, beq_iff_eq] at hb
              have := ok.back i o ho _ (by simpa using hk) hb.1
              omega
            rw [(hdone R h1 h2 j t hj (hwt j hwj) hdj).1, actOf_at ok hn vals i (by omega) j t hji hdj]
          · rw [R.other t (fun j hj _ hdj => hex ⟨j, hj, hdj⟩), actOf_other vals t i (fun j hj hdj => hex ⟨j, by omega, hdj⟩)])
        (fun v K' W' e1 e2 e3 => ih _ K' _ W' (by simp [hsz]) (fun j hj => by rw [getD_set_ne false (by omega)]; exact hlast j hj)
          (fun i' o' ho' hi' j hj => by
            have hji : listed.getD j false = true := by
              by_cases e : i' = i
              · subst e; rw [ho] at ho'; cases ho'; exact hwt j hj
              · exact hcl i' o' ho' (by rwa [getD_set_ne false (Ne.symm e)] at hi') j hj
            exact getD_set_true hji)
          (by have := unl_set hsz hlt h0; omega)
          { ext := R.ext.trans e1
            inv := by
              have e : (fun j => (listed.setIfInBounds i true).getD j false) = come (fun j => listed.getD j false) i := by
                funext j
                unfold come
                by_cases h : j = i
                · subst h; rw [if_pos rfl]; simp [Array.getD, hsz, hlt]
                · rw [if_neg h, getD_set_ne false (Ne.symm h)]
              rw [e]; exact e2
            defers := (put_defers _ _ _).trans R.defers
            size := (put_size _ _ _).trans R.size
            other := fun t ht => by
              have hne : (some d : Option Tmp) ≠ some t := by
                intro e
                exact ht i him (by simp [Array.getD, hsz, hlt]) (hd.trans e)
              rw [put_get_ne _ _ _ _ hne]
              exact R.other t fun j hj hlj => ht j hj (getD_set_true hlj)
            done := fun j d' w' hj hlj hdj hwj => by
              by_cases e : j = i
              · subst e
                rw [hd] at hdj; cases hdj
                rw [hwi] at hwj; cases hwj
                rw [put_get _ _ _ _ (by rw [R.size, hn]; exact hdn), if_pos rfl]
                exact e3
              · rw [getD_set_ne false (Ne.symm e)] at hlj
                have hne : (some d : Option Tmp) ≠ some d' := by
                  intro e'
                  cases e'
                  obtain ⟨dj, hdj', _, hne'⟩ := ok.dst j hj
                  rcases Nat.lt_or_ge j i with h' | h'
                  · exact hdne j h' hdj
                  · rw [hdj] at hdj'; cases hdj'
                    exact hne' i (by omega) hd
                rw [put_get_ne _ _ _ _ hne]
                have hh := R.done j d' w' hj hlj hdj hwj
                have hm := hmono w' (List.mem_of_getElem? hwj)
                cases w' with
                | is x => exact hh
                | sat p => exact hm _ _ _ e1 hh })
      unfold wpOp
      rw [ho]
      exact hstep

/-- A REGION THAT DRAWS ITS ORDER: each of its first m operations is shown once, in whatever grown world, of the values that it waits for; the others stand in the order of the text. -/
theorem wp_region_st {id n : Nat} {Q : Exit → Act → World → Prop} {w : World} (ws : List (Word G)) (hm : P.follows .mixedOrders = true) (hok : drawnOk ops m n = true) (hn : a.tmps.size = n) (hl : ws.length = m) (hmono : ∀ w ∈ ws, w.mono)
    (h0 : I (fun _ => false) K0 w.drew)
    (hs : StepAll P ops I K0 0 ((ops.toList.take m).zip ws) a (fun _ _ => True))
    (hr : RestAll I K0 m (fun _ A W => wpList P ops Q (ops.toList.drop m) A W) ((ops.toList.take m).zip ws) a (fun _ => True)) :
    (Code.region id ops true).wp P Q a w := by
  have ok := okay_of hok
  refine wp_region_any hm (run_first ok hn hl hmono hs hr ops.size _ K0 a _ (by simp) (fun j _ => ?_) (fun i o _ hi => ?_) ?_ ⟨Gh.refl _, by have e : (fun j => (Array.replicate ops.size false).getD j false) = fun _ => false := (by funext j; by_cases hj : j < ops.size <;> simp [Array.getD, hj]); rw [e]; exact h0, rfl, rfl, fun _ _ => rfl, fun j d w _ h => ?_⟩)
  · by_cases hj : j < ops.size <;> simp [Array.getD, hj]
  · exfalso
    by_cases hj : i < ops.size <;> simp [Array.getD, hj] at hi
  · exact Nat.le_trans (List.length_filter_le _ _) (by simp)
  · exfalso
    by_cases hj : j < ops.size <;> simp [Array.getD, hj] at h
end sound

/-! ### The same, as a walk goes through it -/
section walkL
variable {G : Type} [Gh G] (P : Program) (ops : Array Oper) (I : (Nat → Bool) → G → World → Prop) (K0 : G) (m : Nat) (goal : Act → World → Prop)
def RunAllL : Nat → List (Oper × Word G) → Act → (Oper → G → Prop) → (G → Prop) → Prop
  | _, [], a, _, rf => ∀ L K W, (∀ j, j < m → L j = true) → Gh.le K0 K → I L K W → rf K → goal a W
  | i, (o, .is x) :: l, a, facts, rf => StepGoal P ops I K0 i o (.is x) a (facts o) ∧ RunAllL (i + 1) l (a.put o.dst x) facts rf
  | i, (o, .sat p) :: l, a, facts, rf => StepGoal P ops I K0 i o (.sat p) a (facts o) ∧ ∀ v, RunAllL (i + 1) l (a.put o.dst v) (fun o' K => facts o' K ∧ (waits o' i = true → p K v)) (fun K => rf K ∧ p K v)
end walkL

section walkL2
variable {G : Type} [Gh G] {P : Program} {ops : Array Oper} {I : (Nat → Bool) → G → World → Prop} {K0 : G} {goal : Act → World → Prop} {m : Nat}
theorem RunAllL.split : ∀ (l : List (Oper × Word G)) (i : Nat) (a : Act) (facts : Oper → G → Prop) (rf : G → Prop), RunAllL P ops I K0 m goal i l a facts rf → StepAll P ops I K0 i l a facts ∧ RestAll I K0 m (fun _ A W => goal A W) l a rf
  | [], i, a, facts, rf, h => ⟨trivial, h⟩
  | (o, .is x) :: l, i, a, facts, rf, h => by
    have := RunAllL.split l (i + 1) _ _ _ h.2
    exact ⟨⟨h.1, this.1⟩, this.2⟩
  | (o, .sat p) :: l, i, a, facts, rf, h =>
    ⟨⟨h.1, fun v => (RunAllL.split l (i + 1) _ _ _ (h.2 v)).1⟩, fun v => (RunAllL.split l (i + 1) _ _ _ (h.2 v)).2⟩

theorem step_end {N : Act → World → Prop} {A : Act} {W : World} (h : N A W) : stepQ N .normal A W := h

/-- An operation whose value is known. -/
theorem RunAllL.is_ {i : Nat} {o : Oper} {x : Value} {l : List (Oper × Word G)} {a A' : Act} {facts : Oper → G → Prop} {rf : G → Prop}
    (h1 : ∀ L K W, L i = false → Gh.le K0 K → I L K W → facts o K → wpList P ops (stepQ fun A'' W' => (∃ K', Gh.le K K' ∧ I (come L i) K' W') ∧ A'' = A') [o] a W) (h2 : A' = a.put o.dst x)
    (h3 : RunAllL P ops I K0 m goal (i + 1) l A' facts rf) : RunAllL P ops I K0 m goal i ((o, .is x) :: l) a facts rf := by
  refine ⟨fun L K W hL hE hI hF => ?_, by rw [← h2]; exact h3⟩
  have := h1 L K W hL hE hI hF
  unfold wpList at this ⊢
  have imp : ∀ A W', stepQ (fun A'' W' => (∃ K', Gh.le K K' ∧ I (come L i) K' W') ∧ A'' = A') .normal A W' → stepQ (fun A' W' => ∃ v K', Gh.le K K' ∧ I (come L i) K' W' ∧ A' = a.put o.dst v ∧ Word.holds K' (.is x) v) .normal A W' := by
    rintro A W' ⟨⟨K', e1, e2⟩, e3⟩
    exact ⟨x, K', e1, e2, e3.trans h2, rfl⟩
  split at this
  · rename_i hw
    rw [if_pos hw]
    rcases this with h | ⟨_, _, _, h⟩
    · exact .inl (wp_stepQ imp h)
    · exact h.elim
  · rename_i hw
    rw [if_neg hw]
    exact imp _ _ this
where
  wp_stepQ {P : Program} {ops : Array Oper} {o : Oper} {a : Act} {W : World} {N N' : Act → World → Prop} (imp : ∀ A W', stepQ N .normal A W' → stepQ N' .normal A W') (h : o.wp P a W (wpList P ops (stepQ N) []) (stepQ N)) :
      o.wp P a W (wpList P ops (stepQ N') []) (stepQ N') := by
    unfold Oper.wp at h ⊢
    generalize (execOp a.eval o).run P W = r at h
    cases r with
    | halt x w' => cases x <;> exact h.elim
    | ok x w' =>
      cases x with
      | value v => exact imp _ _ h
      | skip => exact imp _ _ h
      | defer d => exact imp _ _ h
      | enter f args =>
        refine Calls.mono h fun e w'' h2 => ?_
        cases e with
        | returned v => exact imp _ _ h2
        | panicked c => exact h2.elim
        | outgrown => obtain ⟨_, _, h2⟩ := h2; exact h2.elim
      | row r args => exact Rows.mono h fun v w'' h2 => imp _ _ h2
      | _ => exact h.elim

/-- An operation of whose value a word is kept. -/
theorem RunAllL.sat_ {i : Nat} {o : Oper} {p : G → Value → Prop} {l : List (Oper × Word G)} {a : Act} {A' : Value → Act} {facts : Oper → G → Prop} {rf : G → Prop}
    (h1 : ∀ L K W, L i = false → Gh.le K0 K → I L K W → facts o K → wpList P ops (stepQ fun A'' W' => ∃ v K', Gh.le K K' ∧ I (come L i) K' W' ∧ A'' = A' v ∧ p K' v) [o] a W) (h2 : ∀ v, A' v = a.put o.dst v)
    (h3 : ∀ v, RunAllL P ops I K0 m goal (i + 1) l (A' v) (fun o' K => facts o' K ∧ (waits o' i = true → p K v)) (fun K => rf K ∧ p K v)) : RunAllL P ops I K0 m goal i ((o, .sat p) :: l) a facts rf := by
  refine ⟨fun L K W hL hE hI hF => ?_, fun v => by rw [← h2]; exact h3 v⟩
  have := h1 L K W hL hE hI hF
  simp only [h2] at this
  exact this

/-- A REGION THAT DRAWS ITS ORDER. -/
theorem wp_region_runL {id n : Nat} {Q : Exit → Act → World → Prop} {a : Act} {w : World} (ws : List (Word G)) (hm : P.follows .mixedOrders = true) (hok : drawnOk ops m n = true) (hn : a.tmps.size = n) (hl : ws.length = m) (hmono : ∀ w ∈ ws, w.mono)
    (h0 : I (fun _ => false) K0 w.drew) (h : RunAllL P ops I K0 m (fun A W => wpList P ops Q (ops.toList.drop m) A W) 0 ((ops.toList.take m).zip ws) a (fun _ _ => True) (fun _ => True)) :
    (Code.region id ops true).wp P Q a w :=
  wp_region_st ws hm hok hn hl hmono h0 (RunAllL.split _ _ _ _ _ h).1 (RunAllL.split _ _ _ _ _ h).2
end walkL2

/-! ### Where it does not matter which operations have come -/
section walk
variable {G : Type} [Gh G] (P : Program) (ops : Array Oper) (I : G → World → Prop) (K0 : G) (goal : Act → World → Prop)
def StepGoal0 (o : Oper) (w : Word G) (a : Act) (facts : G → Prop) : Prop :=
  ∀ K W, Gh.le K0 K → I K W → facts K → wpList P ops (stepQ fun A' W' => ∃ v K', Gh.le K K' ∧ I K' W' ∧ A' = a.put o.dst v ∧ w.holds K' v) [o] a W
def RunAll : Nat → List (Oper × Word G) → Act → (Oper → G → Prop) → (G → Prop) → Prop
  | _, [], a, _, rf => ∀ K W, Gh.le K0 K → I K W → rf K → goal a W
  | i, (o, .is x) :: l, a, facts, rf => StepGoal0 P ops I K0 o (.is x) a (facts o) ∧ RunAll (i + 1) l (a.put o.dst x) facts rf
  | i, (o, .sat p) :: l, a, facts, rf => StepGoal0 P ops I K0 o (.sat p) a (facts o) ∧ ∀ v, RunAll (i + 1) l (a.put o.dst v) (fun o' K => facts o' K ∧ (waits o' i = true → p K v)) (fun K => rf K ∧ p K v)
end walk

section walk2
variable {G : Type} [Gh G] {P : Program} {ops : Array Oper} {I : G → World → Prop} {K0 : G} {goal : Act → World → Prop} {m : Nat}
theorem RunAll.toL : ∀ (l : List (Oper × Word G)) (i : Nat) (a : Act) (facts : Oper → G → Prop) (rf : G → Prop), RunAll P ops I K0 goal i l a facts rf → RunAllL P ops (fun _ K W => I K W) K0 m goal i l a facts rf
  | [], i, a, facts, rf, h => fun _ K W _ h1 h2 h3 => h K W h1 h2 h3
  | (o, .is x) :: l, i, a, facts, rf, h => ⟨fun _ K W _ hE hI hF => h.1 K W hE hI hF, RunAll.toL l (i + 1) _ _ _ h.2⟩
  | (o, .sat p) :: l, i, a, facts, rf, h => ⟨fun _ K W _ hE hI hF => h.1 K W hE hI hF, fun v => RunAll.toL l (i + 1) _ _ _ (h.2 v)⟩

/-- An operation whose value is known. -/
theorem RunAll.is_ {i : Nat} {o : Oper} {x : Value} {l : List (Oper × Word G)} {a A' : Act} {facts : Oper → G → Prop} {rf : G → Prop}
    (h1 : ∀ K W, Gh.le K0 K → I K W → facts o K → wpList P ops (stepQ fun A'' W' => (∃ K', Gh.le K K' ∧ I K' W') ∧ A'' = A') [o] a W) (h2 : A' = a.put o.dst x)
    (h3 : RunAll P ops I K0 goal (i + 1) l A' facts rf) : RunAll P ops I K0 goal i ((o, .is x) :: l) a facts rf := by
  refine ⟨fun K W hE hI hF => ?_, by rw [← h2]; exact h3⟩
  have := h1 K W hE hI hF
  unfold wpList at this ⊢
  have imp : ∀ A W', stepQ (fun A'' W' => (∃ K', Gh.le K K' ∧ I K' W') ∧ A'' = A') .normal A W' → stepQ (fun A' W' => ∃ v K', Gh.le K K' ∧ I K' W' ∧ A' = a.put o.dst v ∧ Word.holds K' (.is x) v) .normal A W' := by
    rintro A W' ⟨⟨K', e1, e2⟩, e3⟩
    exact ⟨x, K', e1, e2, e3.trans h2, rfl⟩
  split at this
  · rename_i hw
    rw [if_pos hw]
    rcases this with h | ⟨_, _, _, h⟩
    · exact .inl (wp_stepQ imp h)
    · exact h.elim
  · rename_i hw
    rw [if_neg hw]
    exact imp _ _ this
where
  wp_stepQ {P : Program} {ops : Array Oper} {o : Oper} {a : Act} {W : World} {N N' : Act → World → Prop} (imp : ∀ A W', stepQ N .normal A W' → stepQ N' .normal A W') (h : o.wp P a W (wpList P ops (stepQ N) []) (stepQ N)) :
      o.wp P a W (wpList P ops (stepQ N') []) (stepQ N') := by
    unfold Oper.wp at h ⊢
    generalize (execOp a.eval o).run P W = r at h
    cases r with
    | halt x w' => cases x <;> exact h.elim
    | ok x w' =>
      cases x with
      | value v => exact imp _ _ h
      | skip => exact imp _ _ h
      | defer d => exact imp _ _ h
      | enter f args =>
        refine Calls.mono h fun e w'' h2 => ?_
        cases e with
        | returned v => exact imp _ _ h2
        | panicked c => exact h2.elim
        | outgrown => obtain ⟨_, _, h2⟩ := h2; exact h2.elim
      | row r args => exact Rows.mono h fun v w'' h2 => imp _ _ h2
      | _ => exact h.elim

/-- An operation of whose value a word is kept. -/
theorem RunAll.sat_ {i : Nat} {o : Oper} {p : G → Value → Prop} {l : List (Oper × Word G)} {a : Act} {A' : Value → Act} {facts : Oper → G → Prop} {rf : G → Prop}
    (h1 : ∀ K W, Gh.le K0 K → I K W → facts o K → wpList P ops (stepQ fun A'' W' => ∃ v K', Gh.le K K' ∧ I K' W' ∧ A'' = A' v ∧ p K' v) [o] a W) (h2 : ∀ v, A' v = a.put o.dst v)
    (h3 : ∀ v, RunAll P ops I K0 goal (i + 1) l (A' v) (fun o' K => facts o' K ∧ (waits o' i = true → p K v)) (fun K => rf K ∧ p K v)) : RunAll P ops I K0 goal i ((o, .sat p) :: l) a facts rf := by
  refine ⟨fun K W hE hI hF => ?_, fun v => by rw [← h2]; exact h3 v⟩
  have := h1 K W hE hI hF
  simp only [h2] at this
  exact this

/-- A REGION THAT DRAWS ITS ORDER. -/
theorem wp_region_run {id n : Nat} {Q : Exit → Act → World → Prop} {a : Act} {w : World} (ws : List (Word G)) (hm : P.follows .mixedOrders = true) (hok : drawnOk ops m n = true) (hn : a.tmps.size = n) (hl : ws.length = m) (hmono : ∀ w ∈ ws, w.mono)
    (h0 : I K0 w.drew) (h : RunAll P ops I K0 (fun A W => wpList P ops Q (ops.toList.drop m) A W) 0 ((ops.toList.take m).zip ws) a (fun _ _ => True) (fun _ => True)) :
    (Code.region id ops true).wp P Q a w :=
  wp_region_runL (I := fun _ K W => I K W) ws hm hok hn hl hmono h0 (RunAll.toL _ _ _ _ _ h)
end walk2
end Go.Proofs.YtdaagmhkhfcmdaaDoor
