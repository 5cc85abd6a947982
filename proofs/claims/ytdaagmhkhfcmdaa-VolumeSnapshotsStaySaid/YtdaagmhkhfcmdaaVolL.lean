/- A space in memory and what it says; with and without. -/
import Derived.Test.YtdaagmhkhfcmdaaVolK
import Derived.Test.YtdaagmhkhfcmdaaVolN
namespace Go.Proofs.Ytdaagmhkhfcmdaa
open Go Go.RowKit
set_option maxHeartbeats 400000

def Vol.abs (v : Vol) : AP := ⟨v.id, v.ten, 0, v.L⟩
def Snp.abs (s : Snp) : AP := ⟨s.id, s.ten, s.from_, s.L⟩
/-- The space lies frozen and says A. -/
def SpA (K : Fz) (v : Value) (A : Asp) : Prop :=
  ∃ S, SpK K v S ∧ S.vs.map Vol.abs = A.vs ∧ S.ss.map Snp.abs = A.ss ∧ (∀ x ∈ S.vs, Rep x.t x.n x.L) ∧ (∀ x ∈ S.ss, Rep x.t x.n x.L)
theorem SpK.ext {K K' : Fz} {v : Value} {S : Spc} (h : SpK K v S) (hE : Ext K K') : SpK K' v S := by
  obtain ⟨b, t, sv, ss, hv, hb, h1, h2, h3, h4, h5⟩ := h
  exact ⟨b, t, sv, ss, hv, hE _ _ hb, h1.keep hE, h2.keep hE, fun x hx => (h3 x hx).ext hE, fun x hx => (h4 x hx).ext hE, h5⟩
theorem SpA.ext {K K' : Fz} {v : Value} {A : Asp} (h : SpA K v A) (hE : Ext K K') : SpA K' v A := by
  obtain ⟨S, h1, h2⟩ := h
  exact ⟨S, h1.ext hE, h2⟩
/-- What a verb hands out: the space, or nil with an error. -/
def Res (K : Fz) (r : Asp × Int × Int) (v : Value) : Prop := (r.2.2 = 0 → SpA K v r.1) ∧ (r.2.2 ≠ 0 → v = .pointer none)

section flats
variable {α : Type} {enc : α → List Value} {sz : Nat}
theorem flat_take (hl : ∀ x, (enc x).length = sz) : ∀ (xs : List α) (i : Nat), (xs.flatMap enc).take (i * sz) = (xs.take i).flatMap enc
  | [], i => by simp
  | y :: ys, 0 => by simp
  | y :: ys, i + 1 => by
    rw [List.flatMap_cons, List.take_succ_cons, List.flatMap_cons, Nat.succ_mul, Nat.add_comm, ← hl y, List.take_length_add_append, hl y, flat_take hl ys i]
theorem flat_drop (hl : ∀ x, (enc x).length = sz) : ∀ (xs : List α) (i : Nat), (xs.flatMap enc).drop (i * sz) = (xs.drop i).flatMap enc
  | [], i => by simp
  | y :: ys, 0 => by simp
  | y :: ys, i + 1 => by
    rw [List.flatMap_cons, List.drop_succ_cons, Nat.succ_mul, Nat.add_comm, ← hl y, List.drop_length_add_append, hl y, flat_drop hl ys i]
theorem flat_ins (hl : ∀ x, (enc x).length = sz) (xs : List α) (i : Nat) (y : α) : (xs.flatMap enc).take (i * sz) ++ enc y ++ (xs.flatMap enc).drop (i * sz) = (insAt xs i y).flatMap enc := by
  rw [flat_take hl, flat_drop hl, insAt, List.flatMap_append, List.flatMap_cons, List.append_assoc]
theorem flat_del (hl : ∀ x, (enc x).length = sz) (xs : List α) (i : Nat) : (xs.flatMap enc).take (i * sz) ++ (xs.flatMap enc).drop ((i + 1) * sz) = (xs.eraseIdx i).flatMap enc := by
  rw [flat_take hl, flat_drop hl, List.eraseIdx_eq_take_drop_succ, List.flatMap_append]
theorem flat_set (hl : ∀ x, (enc x).length = sz) {xs : List α} {i : Nat} (hi : i < xs.length) (y : α) : (xs.flatMap enc).take (i * sz) ++ enc y ++ (xs.flatMap enc).drop ((i + 1) * sz) = (xs.set i y).flatMap enc := by
  rw [flat_take hl, flat_drop hl, List.set_eq_take_append_cons_drop, if_pos hi, List.flatMap_append, List.flatMap_cons, List.append_assoc]
end flats

section
variable {P : Program} {ops : Array Oper} {rest : List Oper} {o : Oper} {a : Act} {w : World} {Q : Exit → Act → World → Prop}
/-- A store of a whole value into the middle of a block. -/
theorem wpList_storeAt {T t : TypeId} {x y : Operand} {g off : Nat} {v : Value} {cs cur : Array Value} (hgd : o.guard = none) (ho : o.op = .store T x y) (hx : a.eval x = .pointer (some ⟨g, off, none⟩)) (hy : a.eval y = v) (hcs : v.cells = cs)
    (hg : w.heap[g]? = some (.cells cur t (0, 0))) (hs : off + cs.size ≤ cur.size) (hT : (P.info? T).map (·.size) = some cs.size) (h1 : ∀ u ∈ cs.toList, u.oneCell' = true)
    (h : ∀ w', Upd w g (.cells (splice cur off cs.toList) t (0, 0)) w' → wpList P ops Q rest (a.put o.dst undef) w') : wpList P ops Q (o :: rest) a w := by
  refine wpList_plain hgd fun K hK => ?_
  subst hcs
  have hst := run_storeCells_at (P := P) g off t v.cells.toList 0 cur w hg (by simpa using hs) h1
  simp only [Nat.add_zero] at hst
  cases hq : P.info? T with
  | none => simp [hq] at hT
  | some i =>
    have hi : i.size = v.cells.size := by simpa [hq] using hT
    unfold Oper.wp
    simp only [execOp, ho, hx, hy, Instr.storeAt, Instr.sureAddr, storeVar, sizeOf, typeInfo, hq, hi, Sem.run_bind, Sem.run_pure, Result.andThen_ok, hst]
    simp [hq, hi, hst, Oper.upon]
    refine hK _ _ (h _ ?_)
    have hu := Upd.setRow (cs := splice cur off v.cells.toList) hg
    simpa [splice] using hu
end

theorem set_cells {α : Type} {enc : α → List Value} {sz : Nat} (hl : ∀ x, (enc x).length = sz) {cur : Array Value} {xs : List α} {cap i : Nat} {y : α} (hc : cur.size = cap * sz) (hn : xs.length ≤ cap) (ht : cur.toList.take (xs.length * sz) = xs.flatMap enc) (hi : i < xs.length) :
    (splice cur (i * sz) (enc y)).toList.take (xs.length * sz) = (xs.set i y).flatMap enc := by
  have h1 : i * sz + sz ≤ xs.length * sz := by rw [← Nat.succ_mul]; exact Nat.mul_le_mul_right _ hi
  have h4 : xs.length * sz ≤ cap * sz := Nat.mul_le_mul_right _ hn
  have hX : (cur.toList.take (i * sz) ++ enc y).length = i * sz + sz := by rw [List.length_append, List.length_take, Array.length_toList, hc, hl]; omega
  rw [← flat_set hl hi y, splice_list, hl, ← ht, List.take_take, Nat.min_eq_left (by omega), List.drop_take, List.take_append, List.take_of_length_le (by rw [hX]; exact h1), hX, Nat.succ_mul]

set_option maxRecDepth 100000 in
theorem vWith_ok (K : Fz) (sv : Value) (L : List Vol) (i : Nat) (y : Vol) (w : World) (hK : K.In w) (hS : SlK K 4 encV sv L) (hF : FlatS sv) (hlen : L.length ≤ 1000000) (hi : i < L.length) :
    Calls Try.prog 75 #[sv, .int .i64 (i : Nat), .agg (encV y).toArray] w (fun e w' => ∃ v', e = .returned v' ∧ w'.ownsRow w.heap.size 90 4 v' L.length ((L.set i y).flatMap encV) ∧ Below w.heap.size w w') := by
  obtain ⟨yi, yt, yp, yn, yL⟩ := y
  have s := St.start hK
  have HS := Lib.hid hS
  have HF := Lib.hid hF
  clear hS hF
  show Calls Try.prog 75 #[sv, .int .i64 (i : Nat), .agg #[.int .i64 yi, .int .i64 yt, .pointer yp.ptr, .int .i64 yn]] w _
  go_enter Try.func75, Try.ntmps75
  go_wp2_with (first
    | ((with_reducible refine gate_box (T := 90) (x := .tmp 2) ?_); refine wpList_boxG rfl rfl rfl (cs := #[.int .i64 yi, .int .i64 yt, .pointer yp.ptr, .int .i64 yn]) rfl ?_; intro g1 W1 e hn; have o1 := Own.made s e hn; replace s := s.new hn; clear e hn)
    | (go_at_call 94; refine (vClone_ok K sv L _ s.inn HS.out HF.out hlen).mono ?_; rintro e W2 ⟨v1, rfl, hrow, hb⟩; obtain ⟨g, cap, cur, rfl, hbase, hg, hnc, hcm, hcs, ht⟩ := ownsRow_some hrow (by omega); have hsz := s.size; have hlt1 := o1.lt; replace o1 := o1.quiet hb; replace s := s.quiet hb; have hne : g ≠ g1 := (by omega); have hfit : i * 4 + 4 ≤ cur.size := (by omega))
    | ((with_reducible refine gate_load (T := 90) (x := .tmp 5) ?_); refine wpList_load_row rfl 90 _ rfl _ rfl 90 _ _ _ o1.at_ Try.underlying90 rfl (by kernel_rfl) ?_)
    | ((with_reducible refine gate_store (T := 90) ?_); refine wpList_storeAt (off := i * 4) rfl rfl rfl rfl (cs := #[.int .i64 yi, .int .i64 yt, .pointer yp.ptr, .int .i64 yn]) rfl hg hfit (by rw [size_Vol]; rfl) (by simp [Value.oneCell']) ?_; intro W3 hu)
    | fail)
  go_ret
  have hL : (L.set i ⟨yi, yt, yp, yn, yL⟩).length = L.length := List.length_set
  refine ⟨_, rfl, ⟨by rw [flat_len encV_len, hL], .inr ⟨g, cap, _, rfl, by omega, hu.here, hnc, hcm, by rw [splice_size hfit, hcs], ?_⟩⟩, hu.below s.below (by omega)⟩
  exact set_cells encV_len (y := ⟨yi, yt, yp, yn, yL⟩) hcs hnc ht hi

end Go.Proofs.Ytdaagmhkhfcmdaa
