/- A map from addresses to true, as a list of blocks: no program in sight. -/
import Derived.LaidEqlPtr
import Derived.Test.YtpfdlpniijgakaaDoorOps
namespace Go.Proofs.YtpfdlpniijgakaaDoor
open Go Go.RowKit

def keyOf (b : Nat) : Value := .pointer (some ⟨b, 0, none⟩)
def entsOf : List Nat → Nat → List MapEntry
  | [], _ => []
  | b :: S, i => { key := keyOf b, val := .bool true, born := i } :: entsOf S (i + 1)
/-- The map whose keys are the heads of these blocks. -/
def mapOf (S : List Nat) : Obj := .map (entsOf S 0).toArray S.length

theorem entsOf_snoc (S : List Nat) (b : Nat) : ∀ i, entsOf (S ++ [b]) i = entsOf S i ++ [{ key := keyOf b, val := .bool true, born := i + S.length }] := by
  induction S with
  | nil => intro i; simp [entsOf]
  | cons a S ih => intro i; simp [entsOf, ih, Nat.add_assoc, Nat.add_comm 1]

/-- A block that holds plain cells. -/
def IsCells (w : World) (b : Nat) : Prop := ∃ c t, w.heap[b]? = some (.cells c t (0, 0))

section
variable {P : Program} {w : World}

theorem run_getMap {r : Nat} {es : Array MapEntry} {c : Nat} (hb : w.heap[r]? = some (.map es c)) : (getObj r).run P w = .ok (.map es c) w := by simp [getObj, Sem.run, hb]
theorem run_setMap {r : Nat} {es : Array MapEntry} {c : Nat} (o' : Obj) (hb : w.heap[r]? = some (.map es c)) : (setObj r o').run P w = .ok () { w with heap := w.heap.setIfInBounds r o' } := by simp [setObj, Sem.run, hb]

theorem run_equal_keys {tp te : TypeId} {j : TypeInfo} {a b : Nat} (hp : P.underlying tp = some (.pointer te)) (hte : P.info? te = some j) (hsz : j.size ≠ 0) (ha : IsCells w a) (hb : IsCells w b) :
    (Op.equal tp (keyOf a) (keyOf b)).run P w = .ok (decide (a = b)) w := by
  obtain ⟨ca, ta, ha⟩ := ha
  obtain ⟨cb, tb, hb⟩ := hb
  simp only [Op.equal, Op.maxDepth]
  by_cases e : a = b
  · subst e
    have h : ∀ d : Nat, (Op.equalIn (d + 1) tp (keyOf a) (keyOf a)).run P w = .ok true w := fun d => by
      simp [Op.equalIn, keyOf, run_underlying hp, sizeOf, typeInfo, hte, run_sameAddr_same]
    rw [decide_eq_true rfl]; exact h 9999
  · have hne : (⟨a, 0, none⟩ : Addr) ≠ ⟨b, 0, none⟩ := by simp [e]
    have h : ∀ d : Nat, (Op.equalIn (d + 1) tp (keyOf a) (keyOf b)).run P w = .ok false w := fun d => by
      simp [Op.equalIn, keyOf, run_underlying hp, sizeOf, typeInfo, hte, hsz, run_sameAddr_other w hne ha hb]
    rw [decide_eq_false e]; exact h 9999

theorem run_findAsking {tp te : TypeId} {j : TypeInfo} {b : Nat} (hp : P.underlying tp = some (.pointer te)) (hte : P.info? te = some j) (hsz : j.size ≠ 0) (hb : IsCells w b) :
    ∀ (S : List Nat) (i k : Nat), (∀ a ∈ S, IsCells w a) → (Instr.findAsking tp (keyOf b) (entsOf S i) k).run P w = .ok ((S.findIdx? (fun a => decide (b = a))).map fun n => (k + n, .bool true)) w := by
  intro S
  induction S with
  | nil => intro i k _; simp [entsOf, Instr.findAsking]
  | cons a S ih =>
    intro i k hS
    have h1 := run_equal_keys (P := P) hp hte hsz hb (hS a (by simp))
    by_cases e : b = a
    · rw [decide_eq_true e] at h1
      simp only [entsOf, Instr.findAsking, Sem.run_bind, h1, Result.andThen_ok, if_true, Sem.run_pure, List.findIdx?_cons, decide_eq_true e, Option.map_some, Nat.add_zero]
    · rw [decide_eq_false e] at h1
      have h2 := ih (i + 1) (k + 1) (fun x hx => hS x (by simp [hx]))
      simp only [entsOf, Instr.findAsking, Sem.run_bind, h1, Result.andThen_ok, Bool.false_eq_true, if_false, h2, List.findIdx?_cons, decide_eq_false e, Option.map_map, Function.comp_def, Nat.add_assoc, Nat.add_comm 1]

theorem run_findKey {tp te : TypeId} {j : TypeInfo} {b : Nat} (hp : P.underlying tp = some (.pointer te)) (hte : P.info? te = some j) (hsz : j.size ≠ 0) (hb : IsCells w b)
    (S : List Nat) (i : Nat) (hS : ∀ a ∈ S, IsCells w a) : (Instr.findKey tp (keyOf b) (entsOf S i)).run P w = .ok ((S.findIdx? (fun a => decide (b = a))).map fun n => (n, .bool true)) w := by
  have h := run_findAsking (P := P) hp hte hsz hb S i 0 hS
  unfold Instr.findKey
  rw [Sem.run_bind, run_underlying hp w]
  cases S with
  | nil => simp [entsOf, Instr.findNow]
  | cons a S => simp [entsOf, Instr.findNow, Instr.sameNow, keyOf] at h ⊢; simpa using h

theorem run_checkKey_ptr {tp te : TypeId} (hp : P.underlying tp = some (.pointer te)) (e : Bool) (b n : Nat) : (Instr.checkKey e (n + 1) tp (keyOf b)).run P w = .ok () w := by
  simp [Instr.checkKey, Sem.run_bind, run_underlying hp, keyOf]

theorem run_lookup_ptr {T tp te el : TypeId} {j : TypeInfo} {b m : Nat} {S : List Nat} (hT : P.underlying T = some (.map tp el)) (hp : P.underlying tp = some (.pointer te)) (hte : P.info? te = some j) (hsz : j.size ≠ 0)
    (hz : (zeroValue el).run P w = .ok (.bool false) w) (hm : w.heap[m]? = some (mapOf S)) (hS : ∀ a ∈ S, IsCells w a) (hb : IsCells w b) :
    (Instr.lookup T (.map (some m)) (keyOf b) false).run P w = .ok (.bool (decide (b ∈ S))) w := by
  have h := run_findKey (P := P) hp hte hsz hb S 0 hS
  have hm' : w.heap[m]? = some (.map (entsOf S 0).toArray S.length) := hm
  unfold Instr.lookup
  simp only [Sem.run_bind, run_underlying hT, Result.andThen_ok, run_getMap hm', Sem.run_pure, run_checkKey_ptr hp, h]
  cases hf : S.findIdx? (fun a => decide (b = a)) with
  | none =>
    have hn : b ∉ S := by
      intro hb'
      have := List.findIdx?_eq_none_iff.1 hf b hb'
      simp at this
    simp [hz, Sem.run_bind, hn]
  | some n =>
    have hy : b ∈ S := by
      obtain ⟨h1, h2, _⟩ := List.findIdx?_eq_some_iff_getElem.1 hf
      have := of_decide_eq_true h2
      rw [this]; exact List.getElem_mem h1
    simp [hy]

theorem run_update_ptr {T tp te el : TypeId} {j : TypeInfo} {b m : Nat} {S : List Nat} (hT : P.underlying T = some (.map tp el)) (hp : P.underlying tp = some (.pointer te)) (hte : P.info? te = some j) (hsz : j.size ≠ 0)
    (hm : w.heap[m]? = some (mapOf S)) (hS : ∀ a ∈ S, IsCells w a) (hb : IsCells w b) (hn : b ∉ S) :
    (Instr.mapUpdate T (.map (some m)) (keyOf b) (.bool true)).run P w = .ok () { w with heap := w.heap.setIfInBounds m (mapOf (S ++ [b])) } := by
  have h := run_findKey (P := P) hp hte hsz hb S 0 hS
  have hm' : w.heap[m]? = some (.map (entsOf S 0).toArray S.length) := hm
  have hf : S.findIdx? (fun a => decide (b = a)) = none := by
    rw [List.findIdx?_eq_none_iff]
    intro x hx
    simp only [decide_eq_false_iff_not]
    rintro rfl
    exact hn hx
  rw [hf] at h
  have e : mapOf (S ++ [b]) = .map ((entsOf S 0).toArray.push { key := keyOf b, val := .bool true, born := S.length }) (S.length + 1) := by
    simp [mapOf, entsOf_snoc]
  unfold Instr.mapUpdate
  rw [e]
  simp only [Sem.run_bind, run_underlying hT, Result.andThen_ok, run_getMap hm', Sem.run_pure, run_checkKey_ptr hp, h, Option.map_none, run_setMap _ hm']

theorem upd_put {m : Nat} {o o' : Obj} (hm : w.heap[m]? = some o) : Upd w m o' { w with heap := w.heap.setIfInBounds m o' } := by
  have hl := lt_of_at hm
  refine ⟨rfl, rfl, rfl, by simp, by simp [hl], fun k hk => ?_⟩
  exact Array.getElem?_setIfInBounds_ne (Ne.symm hk)

theorem gate_lookup {ops : Array Oper} {rest : List Oper} {a : Act} {Q : Exit → Act → World → Prop} {dst : Option Tmp} {ty : TypeId} {pos : String} {after : Array Edge} {gd : Option (Nat × Bool)} {T : TypeId} {x y : Operand} {c : Bool}
    (h : wpList P ops Q ({ dst, op := .lookup T x y c, type := ty, pos, after, guard := gd } :: rest) a w) : wpList P ops Q ({ dst, op := .lookup T x y c, type := ty, pos, after, guard := gd } :: rest) a w := h
theorem gate_mapUpdate {ops : Array Oper} {rest : List Oper} {a : Act} {Q : Exit → Act → World → Prop} {dst : Option Tmp} {ty : TypeId} {pos : String} {after : Array Edge} {gd : Option (Nat × Bool)} {T : TypeId} {x y z : Operand}
    (h : wpList P ops Q ({ dst, op := .mapUpdate T x y z, type := ty, pos, after, guard := gd } :: rest) a w) : wpList P ops Q ({ dst, op := .mapUpdate T x y z, type := ty, pos, after, guard := gd } :: rest) a w := h
theorem gate_index {ops : Array Oper} {rest : List Oper} {a : Act} {Q : Exit → Act → World → Prop} {dst : Option Tmp} {ty : TypeId} {pos : String} {after : Array Edge} {gd : Option (Nat × Bool)} {T : TypeId} {x y : Operand}
    (h : wpList P ops Q ({ dst, op := .index T x y, type := ty, pos, after, guard := gd } :: rest) a w) : wpList P ops Q ({ dst, op := .index T x y, type := ty, pos, after, guard := gd } :: rest) a w := h

section steps
variable {ops : Array Oper} {rest : List Oper} {o : Oper} {a : Act} {Q : Exit → Act → World → Prop}

/-- An operation, guarded or not, whose run is known. -/
theorem wpList_runW {v : Value} {w' : World} (hw : Region.wanted o (yielded ops a.tmps) = true) (hr : (execOp a.eval o).run P w = .ok (.value v) w') (h : wpList P ops Q rest (a.put o.dst v) w') : wpList P ops Q (o :: rest) a w :=
  wpList_step fun K hK => by rw [if_pos hw]; unfold Oper.wp; rw [hr]; exact hK _ _ h

theorem wpList_lookup_ptr {T tp te el : TypeId} {j : TypeInfo} {b m : Nat} {S : List Nat} {x y : Operand} (hw : Region.wanted o (yielded ops a.tmps) = true) (ho : o.op = .lookup T x y false) (hx : a.eval x = .map (some m)) (hy : a.eval y = keyOf b)
    (hT : P.underlying T = some (.map tp el)) (hp : P.underlying tp = some (.pointer te)) (hte : P.info? te = some j) (hsz : j.size ≠ 0)
    (hz : (zeroValue el).run P w = .ok (.bool false) w) (hm : w.heap[m]? = some (mapOf S)) (hS : ∀ a ∈ S, IsCells w a) (hb : IsCells w b)
    (h : wpList P ops Q rest (a.put o.dst (.bool (decide (b ∈ S)))) w) : wpList P ops Q (o :: rest) a w :=
  wpList_runW hw (by simp [execOp, ho, hx, hy, run_lookup_ptr hT hp hte hsz hz hm hS hb]) h

theorem wpList_update_ptr {T tp te el : TypeId} {j : TypeInfo} {b m : Nat} {S : List Nat} {x y z : Operand} (hgd : o.guard = none) (ho : o.op = .mapUpdate T x y z) (hx : a.eval x = .map (some m)) (hy : a.eval y = keyOf b) (hz : a.eval z = .bool true)
    (hT : P.underlying T = some (.map tp el)) (hp : P.underlying tp = some (.pointer te)) (hte : P.info? te = some j) (hsz : j.size ≠ 0)
    (hm : w.heap[m]? = some (mapOf S)) (hS : ∀ a ∈ S, IsCells w a) (hb : IsCells w b) (hn : b ∉ S)
    (h : ∀ w', Upd w m (mapOf (S ++ [b])) w' → wpList P ops Q rest (a.put o.dst undef) w') : wpList P ops Q (o :: rest) a w := by
  refine wpList_plain hgd fun K hK => ?_
  have hr := run_update_ptr (P := P) hT hp hte hsz hm hS hb hn
  unfold Oper.wp
  simp [execOp, ho, hx, hy, hz, hr, Oper.upon]
  exact hK _ _ (h _ (upd_put hm))

theorem gate_len {dst : Option Tmp} {ty : TypeId} {pos : String} {after : Array Edge} {gd : Option (Nat × Bool)} {x : Operand} {ats : Array TypeId}
    (h : wpList P ops Q ({ dst, op := .call { callee := .builtin .len, args := #[x], argTypes := ats }, type := ty, pos, after, guard := gd } :: rest) a w) : wpList P ops Q ({ dst, op := .call { callee := .builtin .len, args := #[x], argTypes := ats }, type := ty, pos, after, guard := gd } :: rest) a w := h
theorem entsOf_length (S : List Nat) : ∀ i, (entsOf S i).length = S.length := by
  induction S with
  | nil => intro i; rfl
  | cons x S ih => intro i; simp [entsOf, ih]
theorem wpList_lenMap {T tk te : TypeId} {m : Nat} {S : List Nat} {x : Operand} (hgd : o.guard = none) (ho : o.op = .call { callee := .builtin .len, args := #[x], argTypes := #[T] }) (hx : a.eval x = .map (some m))
    (hT : P.underlying T = some (.map tk te)) (hm : w.heap[m]? = some (mapOf S))
    (h : wpList P ops Q rest (a.put o.dst (.int .i64 (S.length : Nat))) w) : wpList P ops Q (o :: rest) a w := by
  have hm' : w.heap[m]? = some (.map (entsOf S 0).toArray S.length) := hm
  refine wpList_run hgd ?_ h
  simp [execOp, ho, hx, resolve, invoke, builtin, Builtin.len_, Sem.run_bind, run_underlying hT, run_getMap hm', goInt, entsOf_length]

/-- An array in a slot, indexed. -/
theorem wpList_indexAgg {T el : TypeId} {n i : Nat} {k : IntKind} {d : TypeDesc} {x y : Operand} {cs : Array Value} {v : Value} (hgd : o.guard = none) (ho : o.op = .index T x y) (hx : a.eval x = .agg cs) (hy : a.eval y = .int k i)
    (hT : P.underlying T = some (.array n el)) (hd : P.underlying el = some d) (hs : (match d with | .struct _ | .array _ _ => true | _ => false) = false) (hz : (P.info? el).map (·.size) = some 1) (hi : i < n) (hc : cs[i]? = some v)
    (h : wpList P ops Q rest (a.put o.dst v) w) : wpList P ops Q (o :: rest) a w := by
  refine wpList_run hgd ?_ h
  have hagg : (isAgg el).run P w = .ok false w := by
    unfold isAgg
    rw [Sem.run_bind, run_underlying hd w]
    cases d <;> simp_all
  have hin : (0 : Int) ≤ (i : Int) ∧ (i : Int) < (n : Int) := by omega
  cases hq : P.info? el with
  | none => simp [hq] at hz
  | some t =>
    have h1 : t.size = 1 := by simpa [hq] using hz
    simp [execOp, ho, hx, hy, Instr.index, asIntOf, Sem.run_bind, run_underlying hT, hi, sizeOf, typeInfo, hq, h1, part, hagg, hc]
end steps
end
end Go.Proofs.YtpfdlpniijgakaaDoor
