/- Spaces as plain lists, and what the operations make of them: no program in sight. -/
import Derived.Test.YtdaagmhkhfcmdaaPureB
namespace Go.Proofs.Ytdaagmhkhfcmdaa
set_option maxHeartbeats 400000

/-- The first place at which f is x, or the length. -/
def ixN {α : Type} (f : α → Int) : List α → Int → Nat
  | [], _ => 0
  | y :: ys, x => if f y = x then 0 else ixN f ys x + 1
def ixV {α : Type} (f : α → Int) (L : List α) (x : Int) : Int := if ixN f L x < L.length then (ixN f L x : Nat) else -1
theorem ixN_le {α : Type} (f : α → Int) : ∀ (L : List α) (x : Int), ixN f L x ≤ L.length
  | [], _ => Nat.le_refl _
  | y :: ys, x => by
    unfold ixN
    split
    · exact Nat.zero_le _
    · simp
      exact ixN_le f ys x
theorem ixN_stop {α : Type} (f : α → Int) : ∀ {L : List α} {x : Int} {i : Nat} {y : α}, (∀ (j : Nat) z, j < i → L[j]? = some z → f z ≠ x) → L[i]? = some y → f y = x → ixN f L x = i
  | [], _, _, _, _, h, _ => by simp at h
  | z :: zs, x, 0, y, _, h, hb => by
    obtain rfl : z = y := by simpa using h
    simp [ixN, hb]
  | z :: zs, x, i + 1, y, hl, h, hb => by
    have h0 := hl 0 z (by omega) rfl
    simp only [ixN, h0, if_false, Nat.add_right_cancel_iff]
    exact ixN_stop f (fun j u hj hu => hl (j + 1) u (by omega) (by simpa using hu)) (by simpa using h) hb
theorem ixN_end {α : Type} (f : α → Int) : ∀ {L : List α} {x : Int}, (∀ (j : Nat) z, j < L.length → L[j]? = some z → f z ≠ x) → ixN f L x = L.length
  | [], _, _ => rfl
  | z :: zs, x, hl => by
    have h0 := hl 0 z (by simp) rfl
    simp only [ixN, h0, if_false, List.length_cons, Nat.add_right_cancel_iff]
    exact ixN_end f (fun j u hj hu => hl (j + 1) u (by simpa using hj) (by simpa using hu))
theorem ixN_map {α β : Type} (f : β → Int) (g : α → β) : ∀ (L : List α) (x : Int), ixN f (L.map g) x = ixN (fun a => f (g a)) L x
  | [], _ => rfl
  | y :: ys, x => by simp only [List.map_cons, ixN, ixN_map f g ys x]
theorem ixV_map {α β : Type} (f : β → Int) (g : α → β) (L : List α) (x : Int) : ixV f (L.map g) x = ixV (fun a => f (g a)) L x := by
  unfold ixV; rw [ixN_map, List.length_map]

/-- The first place whose number is not the place itself, or the length. -/
def frN {α : Type} (f : α → Int) : List α → Nat → Nat
  | [], _ => 0
  | y :: ys, k => if f y = k then frN f ys (k + 1) + 1 else 0
theorem frN_stop {α : Type} (f : α → Int) : ∀ {L : List α} {k i : Nat} {y : α}, (∀ (j : Nat) z, j < i → L[j]? = some z → f z = ((k + j : Nat) : Int)) → L[i]? = some y → f y ≠ ((k + i : Nat) : Int) → frN f L k = i
  | [], _, _, _, _, h, _ => by simp at h
  | z :: zs, k, 0, y, _, h, hb => by
    obtain rfl : z = y := by simpa using h
    have hb' : f z ≠ (k : Int) := by simpa using hb
    simp [frN, hb']
  | z :: zs, k, i + 1, y, hl, h, hb => by
    have h0 : f z = (k : Int) := by simpa using hl 0 z (by omega) rfl
    simp only [frN, h0, if_true, Nat.add_right_cancel_iff]
    refine frN_stop f (fun j u hj hu => ?_) (by simpa using h) (by rw [show k + 1 + i = k + (i + 1) by omega]; exact hb)
    rw [show k + 1 + j = k + (j + 1) by omega]
    exact hl (j + 1) u (by omega) (by simpa using hu)
theorem frN_end {α : Type} (f : α → Int) : ∀ {L : List α} {k : Nat}, (∀ (j : Nat) z, j < L.length → L[j]? = some z → f z = ((k + j : Nat) : Int)) → frN f L k = L.length
  | [], _, _ => rfl
  | z :: zs, k, hl => by
    have h0 : f z = (k : Int) := by simpa using hl 0 z (by simp) rfl
    simp only [frN, h0, if_true, List.length_cons, Nat.add_right_cancel_iff]
    refine frN_end f (fun j u hj hu => ?_)
    rw [show k + 1 + j = k + (j + 1) by omega]
    exact hl (j + 1) u (by simpa using hj) (by simpa using hu)
theorem frN_le {α : Type} (f : α → Int) : ∀ (L : List α) (k : Nat), frN f L k ≤ L.length
  | [], _ => Nat.le_refl _
  | y :: ys, k => by
    unfold frN
    split
    · simp
      exact frN_le f ys (k + 1)
    · exact Nat.zero_le _
theorem frN_map {α β : Type} (f : β → Int) (g : α → β) : ∀ (L : List α) (k : Nat), frN f (L.map g) k = frN (fun a => f (g a)) L k
  | [], _ => rfl
  | y :: ys, k => by simp only [List.map_cons, frN, frN_map f g ys (k + 1)]

/-- A volume or a snapshot (for a volume the place it was taken from is 0). -/
structure AP where
  id : Int
  ten : Int
  from_ : Int
  L : Ents
/-- A space. -/
structure Asp where
  vs : List AP
  ss : List AP

def insAt {α : Type} (l : List α) (i : Nat) (x : α) : List α := l.take i ++ x :: l.drop i
theorem insAt_map {α β : Type} (g : α → β) (l : List α) (i : Nat) (x : α) : (insAt l i x).map g = insAt (l.map g) i (g x) := by simp [insAt]
theorem insAt_len {α : Type} (l : List α) (i : Nat) (x : α) : (insAt l i x).length = l.length + 1 := by
  unfold insAt
  simp only [List.length_append, List.length_take, List.length_cons, List.length_drop]
  omega
theorem insAt_mem {α : Type} {l : List α} {i : Nat} {x y : α} : y ∈ insAt l i x ↔ y = x ∨ y ∈ l := by
  unfold insAt
  rw [List.mem_append, List.mem_cons]
  constructor
  · rintro (h | h | h)
    · exact .inr (List.mem_of_mem_take h)
    · exact .inl h
    · exact .inr (List.mem_of_mem_drop h)
  · rintro (h | h)
    · exact .inr (.inl h)
    · rw [← List.take_append_drop i l, List.mem_append] at h
      rcases h with h | h
      · exact .inl h
      · exact .inr (.inr h)

def Asp.create (A : Asp) (ten : Int) (L : Ents) : Asp × Int × Int :=
  if 0 ≤ ten ∧ ten < 16 then
    if A.vs.length < 64 then (⟨insAt A.vs (frN AP.id A.vs 0) ⟨(frN AP.id A.vs 0 : Nat), ten, 0, L⟩, A.ss⟩, (frN AP.id A.vs 0 : Nat), 0) else (A, 0, 2)
  else (A, 0, 1)
def Asp.delete (A : Asp) (x : Int) : Asp × Int × Int := if ixN AP.id A.vs x < A.vs.length then (⟨A.vs.eraseIdx (ixN AP.id A.vs x), A.ss⟩, 0, 0) else (A, 0, 12)
def Asp.change (A : Asp) (x : Int) (ok : Bool) (f : AP → AP) : Asp × Int × Int :=
  if ixN AP.id A.vs x < A.vs.length then if ok then (⟨A.vs.modify (ixN AP.id A.vs x) f, A.ss⟩, 0, 0) else (A, 0, 1) else (A, 0, 12)
def AP.give (ten : Int) (v : AP) : AP := { v with ten := ten }
def AP.map (b c : Int) (v : AP) : AP := { v with L := rset v.L b c }
def AP.unmap (b : Int) (v : AP) : AP := { v with L := rclr v.L b }
def AP.maps (L : Ents) (v : AP) : AP := { v with L := L }
def tenB (n : Int) : Bool := decide (0 ≤ n ∧ n < 16)
def blkB (n : Int) : Bool := decide (0 ≤ n ∧ n < 4096)
def chkB (n : Int) : Bool := decide (0 ≤ n ∧ n < 2147483648)
def Asp.snapshot (A : Asp) (x : Int) : Asp × Int × Int :=
  match A.vs[ixN AP.id A.vs x]? with
  | none => (A, 0, 12)
  | some v => if A.ss.length < 256 then (⟨A.vs, insAt A.ss (frN AP.id A.ss 0) ⟨(frN AP.id A.ss 0 : Nat), v.ten, x, v.L⟩⟩, (frN AP.id A.ss 0 : Nat), 0) else (A, 0, 2)
def Asp.drop (A : Asp) (x : Int) : Asp × Int × Int := if ixN AP.id A.ss x < A.ss.length then (⟨A.vs, A.ss.eraseIdx (ixN AP.id A.ss x)⟩, 0, 0) else (A, 0, 12)
def Asp.clone (A : Asp) (x t : Int) : Asp × Int × Int :=
  match A.ss[ixN AP.id A.ss x]? with
  | none => (A, 0, 12)
  | some p => A.create t p.L
def Asp.restore (A : Asp) (x y : Int) : Asp × Int × Int :=
  match A.ss[ixN AP.id A.ss y]? with
  | none => (A, 0, 12)
  | some p => A.change x true (AP.maps p.L)
/-- One operation of a script. -/
structure Opn where
  kind : Int
  a : Int
  b : Int
  c : Int
def Asp.step (A : Asp) (o : Opn) : Asp × Int × Int :=
  if o.kind = 1 then A.create o.a [] else if o.kind = 2 then A.delete o.a else if o.kind = 3 then A.change o.a (tenB o.b) (AP.give o.b)
  else if o.kind = 4 then A.change o.a (blkB o.b && chkB o.c) (AP.map o.b o.c) else if o.kind = 5 then A.change o.a (blkB o.b) (AP.unmap o.b)
  else if o.kind = 6 then A.snapshot o.a else if o.kind = 7 then A.drop o.a else if o.kind = 8 then A.clone o.a o.b else if o.kind = 9 then A.restore o.a o.b
  else (A, 0, 0)
def Asp.run (A : Asp) (os : List Opn) : Asp := os.foldl (fun A o => (A.step o).1) A

/-- The block of a list of mappings: the chunk; 1 for a bad block, 12 for one that is not mapped. -/
def atE (L : Ents) (blk : Int) : Int × Int := if 0 ≤ blk ∧ blk < 4096 then (if (rget L blk).2 then ((rget L blk).1, 0) else (0, 12)) else (0, 1)
def Asp.look (A : Asp) (x blk : Int) : Int × Int := match A.ss[ixN AP.id A.ss x]? with
  | some s => atE s.L blk
  | none => (0, 12)
def Asp.got (A : Asp) (x blk : Int) : Int × Int := match A.vs[ixN AP.id A.vs x]? with
  | some s => atE s.L blk
  | none => (0, 12)
end Go.Proofs.Ytdaagmhkhfcmdaa
