/- A space in memory and what it says; with and without. -/
import Derived.Test.YtdaagmhkhfcmdaaDoorVolK
import Derived.Test.YtdaagmhkhfcmdaaDoorGD
namespace Go.Proofs.YtdaagmhkhfcmdaaDoor
open Go Go.RowKit
set_option maxHeartbeats 400000

def Vol.abs (v : Vol) : AP := ⟨v.id, v.ten, 0, v.L⟩
def Snp.abs (s : Snp) : AP := ⟨s.id, s.ten, s.from_, s.L⟩
/-- The space lies frozen and says A. -/
def SpA (K : Fz) (v : Value) (A : Asp) : Prop :=
  ∃ S, SpK K v S ∧ S.vs.map Vol.abs = A.vs ∧ S.ss.map Snp.abs = A.ss ∧ (∀ x ∈ S.vs, Rep x.t x.n x.L) ∧ (∀ x ∈ S.ss, Rep x.t x.n x.L)
theorem SpK.ext {K K' : Fz} {v : Value} {S : Spc} (h : SpK K v S) (hE : Ext K K') : SpK K' v S := by
  obtain ⟨b, t, sv, ss, hv, hb, h1, h2, h3, h4, h5⟩ := h
  exact ⟨b, t, sv, ss, hv, hE _ _ hb, h1.keep hE, h2.keep hE, fun x hx => (h3 x hx).ext hE, fun x hx => (h4 x hx).ext hE, h5⟩
theorem SpA.ext {K K' : Fz} {v : Value} {A : Asp} (h : SpA K v A) (hE : Ext K K') : SpA K' v A := by
  obtain ⟨S, h1, h2⟩ := h
  exact ⟨S, h1.ext hE, h2⟩
/-- What a verb hands out: the space, or nil with an error. -/
def Res (K : Fz) (r : Asp × Int × Int) (v : Value) : Prop := (r.2.2 = 0 → SpA K v r.1) ∧ (r.2.2 ≠ 0 → v = .pointer none)

section flats
variable {α : Type} {enc : α → List Value} {sz : Nat}
theorem flat_take (hl : ∀ x, (enc x).length = sz) : ∀ (xs : List α) (i : Nat), (xs.flatMap enc).take (i * sz) = (xs.take i).flatMap enc
  | [], i => by simp
  | y :: ys, 0 => by simp
  | y :: ys, i + 1 => by
    rw [List.flatMap_cons, List.take_succ_cons, List.flatMap_cons, Nat.succ_mul, Nat.add_comm, ← hl y, List.take_length_add_append, hl y, flat_take hl ys i]
theorem flat_drop (hl : ∀ x, (enc x).length = sz) : ∀ (xs : List α) (i : Nat), (xs.flatMap enc).drop (i * sz) = (xs.drop i).flatMap enc
  | [], i => by simp
  | y :: ys, 0 => by simp
  | y :: ys, i + 1 => by
    rw [List.flatMap_cons, List.drop_succ_cons, Nat.succ_mul, Nat.add_comm, ← hl y, List.drop_length_add_append, hl y, flat_drop hl ys i]
theorem flat_ins (hl : ∀ x, (enc x).length = sz) (xs : List α) (i : Nat) (y : α) : (xs.flatMap enc).take (i * sz) ++ enc y ++ (xs.flatMap enc).drop (i * sz) = (insAt xs i y).flatMap enc := by
  rw [flat_take hl, flat_drop hl, insAt, List.flatMap_append, List.flatMap_cons, List.append_assoc]
theorem flat_del (hl : ∀ x, (enc x).length = sz) (xs : List α) (i : Nat) : (xs.flatMap enc).take (i * sz) ++ (xs.flatMap enc).drop ((i + 1) * sz) = (xs.eraseIdx i).flatMap enc := by
  rw [flat_take hl, flat_drop hl, List.eraseIdx_eq_take_drop_succ, List.flatMap_append]
theorem flat_set (hl : ∀ x, (enc x).length = sz) {xs : List α} {i : Nat} (hi : i < xs.length) (y : α) : (xs.flatMap enc).take (i * sz) ++ enc y ++ (xs.flatMap enc).drop ((i + 1) * sz) = (xs.set i y).flatMap enc := by
  rw [flat_take hl, flat_drop hl, List.set_eq_take_append_cons_drop, if_pos hi, List.flatMap_append, List.flatMap_cons, List.append_assoc]
end flats

section
variable {P : Program} {ops : Array Oper} {rest : List Oper} {o : Oper} {a : Act} {w : World} {Q : Exit → Act → World → Prop}
/-- A store of a whole value into the middle of a block. -/
theorem wpList_storeAt {T t : TypeId} {x y : Operand} {g off : Nat} {v : Value} {cs cur : Array Value} (hgd : o.guard = none) (ho : o.op = .store T x y) (hx : a.eval x = .pointer (some ⟨g, off, none⟩)) (hy : a.eval y = v) (hcs : v.cells = cs)
    (hg : w.heap[g]? = some (.cells cur t (0, 0))) (hs : off + cs.size ≤ cur.size) (hT : (P.info? T).map (·.size) = some cs.size) (h1 : ∀ u ∈ cs.toList, u.oneCell' = true)
    (h : ∀ w', Upd w g (.cells (splice cur off cs.toList) t (0, 0)) w' → wpList P ops Q rest (a.put o.dst undef) w') : wpList P ops Q (o :: rest) a w := by
  refine wpList_plain hgd fun K hK => ?_
  subst hcs
  have hst := run_storeCells_at (P := P) g off t v.cells.toList 0 cur w hg (by simpa using hs) h1
  simp only [Nat.add_zero] at hst
  cases hq : P.info? T with
  | none => simp [hq] at hT
  | some i =>
    have hi : i.size = v.cells.size := by simpa [hq] using hT
    unfold Oper.wp
    simp only [execOp, ho, hx, hy, Instr.storeAt, Instr.sureAddr, storeVar, sizeOf, typeInfo, hq, hi, Sem.run_bind, Sem.run_pure, Result.andThen_ok, hst]
    simp [hq, hi, hst, Oper.upon]
    refine hK _ _ (h _ ?_)
    have hu := Upd.setRow (cs := splice cur off v.cells.toList) hg
    simpa [splice] using hu
end

theorem set_cells {α : Type} {enc : α → List Value} {sz : Nat} (hl : ∀ x, (enc x).length = sz) {cur : Array Value} {xs : List α} {cap i : Nat} {y : α} (hc : cur.size = cap * sz) (hn : xs.length ≤ cap) (ht : cur.toList.take (xs.length * sz) = xs.flatMap enc) (hi : i < xs.length) :
    (splice cur (i * sz) (enc y)).toList.take (xs.length * sz) = (xs.set i y).flatMap enc := by
  have h1 : i * sz + sz ≤ xs.length * sz := by rw [← Nat.succ_mul]; exact Nat.mul_le_mul_right _ hi
  have h4 : xs.length * sz ≤ cap * sz := Nat.mul_le_mul_right _ hn
  have hX : (cur.toList.take (i * sz) ++ enc y).length = i * sz + sz := by rw [List.length_append, List.length_take, Array.length_toList, hc, hl]; omega
  rw [← flat_set hl hi y, splice_list, hl, ← ht, List.take_take, Nat.min_eq_left (by omega), List.drop_take, List.take_append, List.take_of_length_le (by rw [hX]; exact h1), hX, Nat.succ_mul]

set_option maxRecDepth 100000 in
theorem vWith_ok (K : Fz) (sv : Value) (L : List Vol) (i : Nat) (y : Vol) (w : World) (hK : K.In w) (hS : SlK K 4 encV sv L) (hF : FlatS sv) (hlen : L.length ≤ 1000000) (hi : i < L.length) :
    Calls Tryd.prog 62 #[sv, .int .i64 (i : Nat), .agg (encV y).toArray] w (fun e w' => ∃ v', e = .returned v' ∧ w'.ownsRow w.heap.size 68 4 v' L.length ((L.set i y).flatMap encV) ∧ Below w.heap.size w w') := by
  obtain ⟨yi, yt, yp, yn, yL⟩ := y
  have s := St.start hK
  have HS := Lib.hid hS
  have HF := Lib.hid hF
  clear hS hF
  show Calls Tryd.prog 62 #[sv, .int .i64 (i : Nat), .agg #[.int .i64 yi, .int .i64 yt, .pointer yp.ptr, .int .i64 yn]] w _
  go_enter Tryd.func62, Tryd.ntmps62
  go_wp2_with (first
    | ((with_reducible refine gate_box (T := 68) (x := .tmp 2) ?_); refine wpList_boxG rfl rfl rfl (cs := #[.int .i64 yi, .int .i64 yt, .pointer yp.ptr, .int .i64 yn]) rfl ?_; intro g1 W1 e hn; have o1 := Own.made s e hn; replace s := s.new hn; clear e hn)
    | (go_at_call 60; refine (vClone_ok K sv L _ s.inn HS.out HF.out hlen).mono ?_; rintro e W2 ⟨v1, rfl, hrow, hb⟩; obtain ⟨g, cap, cur, rfl, hbase, hg, hnc, hcm, hcs, ht⟩ := ownsRow_some hrow (by omega); have hsz := s.size; have hlt1 := o1.lt; replace o1 := o1.quiet hb; replace s := s.quiet hb; have hne : g ≠ g1 := (by omega); have hfit : i * 4 + 4 ≤ cur.size := (by omega))
    | ((with_reducible refine gate_load (T := 68) (x := .tmp 5) ?_); refine wpList_load_row rfl 68 _ rfl _ rfl 68 _ _ _ o1.at_ Tryd.underlying68 rfl (by kernel_rfl) ?_)
    | ((with_reducible refine gate_store (T := 68) ?_); refine wpList_storeAt (off := i * 4) rfl rfl rfl rfl (cs := #[.int .i64 yi, .int .i64 yt, .pointer yp.ptr, .int .i64 yn]) rfl hg hfit (by rw [size_Vol]; rfl) (by simp [Value.oneCell']) ?_; intro W3 hu)
    | fail)
  go_ret
  have hL : (L.set i ⟨yi, yt, yp, yn, yL⟩).length = L.length := List.length_set
  refine ⟨_, rfl, ⟨by rw [flat_len encV_len, hL], .inr ⟨g, cap, _, rfl, by omega, hu.here, hnc, hcm, by rw [splice_size hfit, hcs], ?_⟩⟩, hu.below s.below (by omega)⟩
  exact set_cells encV_len (y := ⟨yi, yt, yp, yn, yL⟩) hcs hnc ht hi

end Go.Proofs.YtdaagmhkhfcmdaaDoor
/- without, Delete and Drop. Written by gen_VolQ.py. -/
namespace Go.Proofs.YtdaagmhkhfcmdaaDoor
open Go Go.RowKit
set_option maxHeartbeats 400000

theorem ownsRow_base {W : World} {base base' e sz : Nat} {v : Value} {n : Nat} {xs : List Value} (h : W.ownsRow base e sz v n xs) (hb : base' ≤ base) : W.ownsRow base' e sz v n xs := by
  refine ⟨h.1, ?_⟩
  rcases h.2 with h0 | ⟨g, cap, cur, h1, h2, h3⟩
  · exact .inl h0
  · exact .inr ⟨g, cap, cur, h1, Nat.le_trans hb h2, h3⟩
/-- A row that a callee has made. -/
theorem Row.fresh {K : Fz} {w W1 W : World} {e sz : Nat} {v : Value} {n : Nat} {xs : List Value} (hi : K.In W1) (hsz : w.heap.size ≤ W1.heap.size) (h : W.ownsRow W1.heap.size e sz v n xs) : Row w K W e sz v n xs :=
  ⟨ownsRow_base h hsz, fun _ hb => hi.out (ownsRow_lt h hb).2⟩
theorem Row.flatS {K : Fz} {w W : World} {e sz : Nat} {v : Value} {n : Nat} {xs : List Value} (r : Row w K W e sz v n xs) : FlatS v := by
  intro a n' c h
  rcases r.own.2 with ⟨rfl, _⟩ | ⟨g, cap, cur, rfl, _⟩
  · cases h; exact .inl rfl
  · cases h; exact .inr ⟨_, _, rfl⟩
theorem Asp.eq_mk {A : Asp} {S : Spc} (h1 : S.vs.map Vol.abs = A.vs) (h2 : S.ss.map Snp.abs = A.ss) : A = ⟨S.vs.map Vol.abs, S.ss.map Snp.abs⟩ := by cases A; simp_all
theorem map_eraseIdx' {α β : Type} (f : α → β) : ∀ (l : List α) (i : Nat), (l.eraseIdx i).map f = (l.map f).eraseIdx i
  | [], _ => rfl
  | _ :: _, 0 => rfl
  | x :: xs, i + 1 => by rw [List.eraseIdx_cons_succ, List.map_cons, List.map_cons, List.eraseIdx_cons_succ, map_eraseIdx' f xs i]
theorem mem_eraseIdx' {α : Type} {l : List α} {i : Nat} {a : α} (h : a ∈ l.eraseIdx i) : a ∈ l := (List.eraseIdx_sublist l i).subset h

set_option maxRecDepth 100000 in
theorem vWithout_ok (K : Fz) (sv : Value) (L : List Vol) (i : Nat) (w : World) (hK : K.In w) (hS : SlK K 4 encV sv L) (hF : FlatS sv) (hlen : L.length ≤ 1000000) (hi : i < L.length) :
    Calls Tryd.prog 35 #[sv, .int .i64 (i : Nat)] w (fun e w' => ∃ v', e = .returned v' ∧ w'.ownsRow w.heap.size 68 4 v' (L.length - 1) ((L.eraseIdx i).flatMap encV) ∧ Below w.heap.size w w') := by
  have s := St.start hK
  have HS := Lib.hid hS
  have HF := Lib.hid hF
  clear hS hF
  obtain ⟨j, hj⟩ : ∃ j, j = i + 1 := ⟨_, rfl⟩
  have hw : IntKind.i64.wrap ((i : Int) + 1) = (j : Int) := by rw [IntKind.wrap_i64]; omega
  have hone := flat_one encV_one L
  have HJ := Lib.hid hj
  clear hj
  go_enter Tryd.func35, Tryd.ntmps35
  go_wp2_with (first
    | (go_at_call 60; refine (vClone_ok K sv L _ s.inn HS.out HF.out hlen).mono ?_; rintro e W2 ⟨v1, rfl, hrow, hb⟩; have r := Row.fresh s.inn s.size hrow; replace s := s.quiet hb; clear hb hrow)
    | (go_at_call 61; refine (vDelete_ok _ v1 L.length i j _ _ r.own HJ.out hi hlen hone).mono ?_; rintro e W3 ⟨v2, rfl, hrow2, hgr⟩; replace s := s.grown r hgr)
    | fail)
  go_ret
  refine ⟨_, rfl, ?_, s.below⟩
  rw [HJ.out, flat_del encV_len] at hrow2
  exact hrow2

set_option maxRecDepth 100000 in
theorem Delete_ok (K : Fz) (v : Value) (A : Asp) (x : Int) (w : World) (hK : K.In w) (hS : SpA K v A) (hG : Good A) :
    Calls Tryd.prog 17 #[v, .int .i64 x] w (Ret K w fun K' u => ∃ v', u = .tuple #[v', .int .i64 (A.delete x).2.2] ∧ Res K' (A.delete x) v') := by
  obtain ⟨S, hSp, e1, e2, hR1, hR2⟩ := hS
  obtain rfl := Asp.eq_mk e1 e2
  have hlen : S.vs.length ≤ 1000000 := by have := hG.v.len; simp only [List.length_map] at this; omega
  have HSp := Lib.hid hSp
  obtain ⟨g, T, sv, ss, rfl, hb, h1, h2, h3, h4, f1, f2⟩ := hSp
  have s := St.start hK
  have Hat := Lib.hid fun W (hW : K.In W) => vAt_ok K sv S.vs x W hW h1 hlen
  have H1 := Lib.hid h1
  have HT := Lib.hid h3
  have HF := Lib.hid f1
  have hle := ixN_le Vol.id S.vs x
  have hix : ixN AP.id (S.vs.map Vol.abs) x = ixN Vol.id S.vs x := ixN_map _ _ _ _
  obtain ⟨n, hn⟩ : ∃ n, ixN Vol.id S.vs x = n := ⟨_, rfl⟩
  rw [hn] at hle hix
  have hform : ∃ a c, sv = .slice a S.vs.length c := by obtain ⟨a, c, e, _⟩ := h1; exact ⟨a, c, e⟩
  obtain ⟨a0, c0, rfl⟩ := hform
  by_cases hlt : n < S.vs.length
  · have hv : Hid (ixV Vol.id S.vs x = (n : Int)) := Lib.hid (by rw [ixV, hn, if_pos hlt])
    have hres : Hid (Asp.delete ⟨S.vs.map Vol.abs, S.ss.map Snp.abs⟩ x = (⟨(S.vs.eraseIdx n).map Vol.abs, S.ss.map Snp.abs⟩, 0, 0)) := Lib.hid (by
      unfold Asp.delete
      simp only [hix, List.length_map, if_pos hlt, map_eraseIdx'])
    clear h1 h2 h3 h4 hn hix f1 f2
    go_enter Tryd.func17, Tryd.ntmps17
    go_wp2_with (first
      | ((with_reducible refine gate_load (T := 47) ?_); refine wpList_loadCell rfl rfl rfl Tryd.underlying47 rfl (s.inn.get hb) rfl ?_)
      | (go_at_call 27; refine (Hat.out _ s.inn).mono ?_; rw [hv.out]; rintro e W4 ⟨rfl, hb4⟩; replace s := s.quiet hb4; clear hb4)
      | (go_at_call 35; refine (vWithout_ok K _ S.vs n _ s.inn H1.out HF.out hlen hlt).mono ?_; rintro e W5 ⟨v1, rfl, hrow, hb5⟩; have r := Row.fresh s.inn s.size hrow; replace s := s.quiet hb5; clear hb5 hrow; obtain ⟨K1, s1, hE1, hS1, _⟩ := Row.fix s r encV_len (by rw [List.length_eraseIdx, if_pos hlt]) rfl)
      | (go_at_call 34; refine (volumesAre_ok K1 _ S v1 _ _ s1.inn (HSp.out.ext hE1) hS1 (fun y hy => (HT.out y (mem_eraseIdx' hy)).ext hE1) r.flatS).mono ?_; rintro e W6 ⟨u6, K2, rfl, hi6, hl6, hb6, hu6⟩; replace s1 := s1.call hi6 hl6 hb6; clear hi6 hl6 hb6)
      | fail)
    go_ret2
    refine s1.ret ⟨u6, by rw [hres.out]; rfl, fun _ => ?_, fun h => (h (by rw [hres.out])).elim⟩
    rw [hres.out]
    exact ⟨_, hu6, rfl, rfl, fun y hy => hR1 y (mem_eraseIdx' hy), hR2⟩
  · have hv : Hid (ixV Vol.id S.vs x = -1) := Lib.hid (by rw [ixV, hn, if_neg hlt])
    have hres : Hid (Asp.delete ⟨S.vs.map Vol.abs, S.ss.map Snp.abs⟩ x = (⟨S.vs.map Vol.abs, S.ss.map Snp.abs⟩, 0, 12)) := Lib.hid (by
      unfold Asp.delete
      simp only [hix, List.length_map, if_neg hlt])
    clear h1 h2 h3 h4 hn hix f1 f2
    go_enter Tryd.func17, Tryd.ntmps17
    go_wp2_with (first
      | ((with_reducible refine gate_load (T := 47) ?_); refine wpList_loadCell rfl rfl rfl Tryd.underlying47 rfl (s.inn.get hb) rfl ?_)
      | (go_at_call 27; refine (Hat.out _ s.inn).mono ?_; rw [hv.out]; rintro e W4 ⟨rfl, hb4⟩; replace s := s.quiet hb4; clear hb4)
      | fail)
    go_ret2
    refine s.ret ⟨.pointer none, by rw [hres.out]; rfl, fun h => ?_, fun _ => rfl⟩
    rw [hres.out] at h
    cases h

set_option maxRecDepth 100000 in
theorem sWithout_ok (K : Fz) (sv : Value) (L : List Snp) (i : Nat) (w : World) (hK : K.In w) (hS : SlK K 5 encS sv L) (hF : FlatS sv) (hlen : L.length ≤ 1000000) (hi : i < L.length) :
    Calls Tryd.prog 48 #[sv, .int .i64 (i : Nat)] w (fun e w' => ∃ v', e = .returned v' ∧ w'.ownsRow w.heap.size 64 5 v' (L.length - 1) ((L.eraseIdx i).flatMap encS) ∧ Below w.heap.size w w') := by
  have s := St.start hK
  have HS := Lib.hid hS
  have HF := Lib.hid hF
  clear hS hF
  obtain ⟨j, hj⟩ : ∃ j, j = i + 1 := ⟨_, rfl⟩
  have hw : IntKind.i64.wrap ((i : Int) + 1) = (j : Int) := by rw [IntKind.wrap_i64]; omega
  have hone := flat_one encS_one L
  have HJ := Lib.hid hj
  clear hj
  go_enter Tryd.func48, Tryd.ntmps48
  go_wp2_with (first
    | (go_at_call 47; refine (sClone_ok K sv L _ s.inn HS.out HF.out hlen).mono ?_; rintro e W2 ⟨v1, rfl, hrow, hb⟩; have r := Row.fresh s.inn s.size hrow; replace s := s.quiet hb; clear hb hrow)
    | (go_at_call 68; refine (sDelete_ok _ v1 L.length i j _ _ r.own HJ.out hi hlen hone).mono ?_; rintro e W3 ⟨v2, rfl, hrow2, hgr⟩; replace s := s.grown r hgr)
    | fail)
  go_ret
  refine ⟨_, rfl, ?_, s.below⟩
  rw [HJ.out, flat_del encS_len] at hrow2
  exact hrow2

set_option maxRecDepth 100000 in
theorem Drop_ok (K : Fz) (v : Value) (A : Asp) (x : Int) (w : World) (hK : K.In w) (hS : SpA K v A) (hG : Good A) :
    Calls Tryd.prog 22 #[v, .int .i64 x] w (Ret K w fun K' u => ∃ v', u = .tuple #[v', .int .i64 (A.drop x).2.2] ∧ Res K' (A.drop x) v') := by
  obtain ⟨S, hSp, e1, e2, hR1, hR2⟩ := hS
  obtain rfl := Asp.eq_mk e1 e2
  have hlen : S.ss.length ≤ 1000000 := by have := hG.s.len; simp only [List.length_map] at this; omega
  have HSp := Lib.hid hSp
  obtain ⟨g, T, sv, ss, rfl, hb, h1, h2, h3, h4, f1, f2⟩ := hSp
  have s := St.start hK
  have Hat := Lib.hid fun W (hW : K.In W) => sAt_ok K ss S.ss x W hW h2 hlen
  have H1 := Lib.hid h2
  have HT := Lib.hid h4
  have HF := Lib.hid f2
  have hle := ixN_le Snp.num S.ss x
  have hix : ixN AP.id (S.ss.map Snp.abs) x = ixN Snp.num S.ss x := ixN_map _ _ _ _
  obtain ⟨n, hn⟩ : ∃ n, ixN Snp.num S.ss x = n := ⟨_, rfl⟩
  rw [hn] at hle hix
  have hform : ∃ a c, ss = .slice a S.ss.length c := by obtain ⟨a, c, e, _⟩ := h2; exact ⟨a, c, e⟩
  obtain ⟨a0, c0, rfl⟩ := hform
  by_cases hlt : n < S.ss.length
  · have hv : Hid (ixV Snp.num S.ss x = (n : Int)) := Lib.hid (by rw [ixV, hn, if_pos hlt])
    have hres : Hid (Asp.drop ⟨S.vs.map Vol.abs, S.ss.map Snp.abs⟩ x = (⟨S.vs.map Vol.abs, (S.ss.eraseIdx n).map Snp.abs⟩, 0, 0)) := Lib.hid (by
      unfold Asp.drop
      simp only [hix, List.length_map, if_pos hlt, map_eraseIdx'])
    clear h1 h2 h3 h4 hn hix f1 f2
    go_enter Tryd.func22, Tryd.ntmps22
    go_wp2_with (first
      | ((with_reducible refine gate_load (T := 48) ?_); refine wpList_loadCell rfl rfl rfl Tryd.underlying48 rfl (s.inn.get hb) rfl ?_)
      | (go_at_call 25; refine (Hat.out _ s.inn).mono ?_; rw [hv.out]; rintro e W4 ⟨rfl, hb4⟩; replace s := s.quiet hb4; clear hb4)
      | (go_at_call 48; refine (sWithout_ok K _ S.ss n _ s.inn H1.out HF.out hlen hlt).mono ?_; rintro e W5 ⟨v1, rfl, hrow, hb5⟩; have r := Row.fresh s.inn s.size hrow; replace s := s.quiet hb5; clear hb5 hrow; obtain ⟨K1, s1, hE1, hS1, _⟩ := Row.fix s r encS_len (by rw [List.length_eraseIdx, if_pos hlt]) rfl)
      | (go_at_call 45; refine (snapshotsAre_ok K1 _ S v1 _ _ s1.inn (HSp.out.ext hE1) hS1 (fun y hy => (HT.out y (mem_eraseIdx' hy)).ext hE1) r.flatS).mono ?_; rintro e W6 ⟨u6, K2, rfl, hi6, hl6, hb6, hu6⟩; replace s1 := s1.call hi6 hl6 hb6; clear hi6 hl6 hb6)
      | fail)
    go_ret2
    refine s1.ret ⟨u6, by rw [hres.out]; rfl, fun _ => ?_, fun h => (h (by rw [hres.out])).elim⟩
    rw [hres.out]
    exact ⟨_, hu6, rfl, rfl, hR1, fun y hy => hR2 y (mem_eraseIdx' hy)⟩
  · have hv : Hid (ixV Snp.num S.ss x = -1) := Lib.hid (by rw [ixV, hn, if_neg hlt])
    have hres : Hid (Asp.drop ⟨S.vs.map Vol.abs, S.ss.map Snp.abs⟩ x = (⟨S.vs.map Vol.abs, S.ss.map Snp.abs⟩, 0, 12)) := Lib.hid (by
      unfold Asp.drop
      simp only [hix, List.length_map, if_neg hlt])
    clear h1 h2 h3 h4 hn hix f1 f2
    go_enter Tryd.func22, Tryd.ntmps22
    go_wp2_with (first
      | ((with_reducible refine gate_load (T := 48) ?_); refine wpList_loadCell rfl rfl rfl Tryd.underlying48 rfl (s.inn.get hb) rfl ?_)
      | (go_at_call 25; refine (Hat.out _ s.inn).mono ?_; rw [hv.out]; rintro e W4 ⟨rfl, hb4⟩; replace s := s.quiet hb4; clear hb4)
      | fail)
    go_ret2
    refine s.ret ⟨.pointer none, by rw [hres.out]; rfl, fun h => ?_, fun _ => rfl⟩
    rw [hres.out] at h
    cases h
end Go.Proofs.YtdaagmhkhfcmdaaDoor
/- The closures of Map, Unmap, Give and Restore. Written by gen_VolR.py. -/
namespace Go.Proofs.YtdaagmhkhfcmdaaDoor
open Go Go.RowKit
set_option maxHeartbeats 400000

/-- The value is a tree that maps L. -/
def TrV (L : Ents) (K : Fz) (v : Value) : Prop := ∃ t n, v = treeV t n ∧ Tr 122 K t ∧ Rep t n L
theorem TrV.ext {L : Ents} {K K' : Fz} {v : Value} (hE : Ext K K') (h : TrV L K v) : TrV L K' v := by
  obtain ⟨t, n, h1, h2, h3⟩ := h
  exact ⟨t, n, h1, h2.ext hE, h3⟩
theorem two_of4 {a b c d : Value} (j : Nat) (u : Value) (hu : [c, d][j]? = some u) : (#[a, b, c, d] : Array Value)[2 + j]? = some u := by
  match j, hu with
  | 0, hu => exact hu
  | 1, hu => exact hu
  | j + 2, hu => simp at hu
theorem size_int1 : (Tryd.prog.info? 3).map (·.size) = some 1 := by kernel_rfl
theorem splice_tree (a b c d c' d' : Value) : splice #[a, b, c, d] 2 [c', d'] = #[a, b, c', d'] := rfl
theorem splice_ten (a b c d b' : Value) : splice #[a, b, c, d] 1 [b'] = #[a, b', c, d] := rfl
/-- What a closure leaves: the volume in its box, changed. -/
def Turned (K0 : Fz) (w0 : World) (K : Fz) (g : Nat) (y : Vol) (f : AP → AP) (e : Ending) (W' : World) : Prop :=
  e = .returned (.tuple #[]) ∧ ∃ K' y', St K0 w0 K' W' ∧ Ext K K' ∧ Own w0 K' W' g (.cells (encV y').toArray 68 (0, 0)) ∧ Tr 122 K' y'.t ∧ Rep y'.t y'.n y'.L ∧ y'.abs = f y.abs

set_option maxRecDepth 100000 in
theorem Map1_ok {K0 K : Fz} {w0 W : World} {g : Nat} {y : Vol} (s : St K0 w0 K W) (o : Own w0 K W g (.cells (encV y).toArray 68 (0, 0))) (hT : Tr 122 K y.t) (hR : Rep y.t y.n y.L) {B C : Nat} {b c : Int} (hB : K B = some (.cells #[.int .i64 b] 3 (0, 0))) (hC : K C = some (.cells #[.int .i64 c] 3 (0, 0))) :
    Calls Tryd.prog 40 #[.pointer (some ⟨g, 0, none⟩), .pointer (some ⟨B, 0, none⟩), .pointer (some ⟨C, 0, none⟩)] W (Turned K0 w0 K g y (AP.map b c)) := by
  obtain ⟨id, ten, t, n, L⟩ := y
  have hn0 : -1000000 ≤ n := by have := hR.n_le; simp only at this; omega
  have hn1 : n ≤ 1000000 := by have := hR.n_le; simp only at this; omega
  replace o : Own w0 K W g (.cells #[.int .i64 id, .int .i64 ten, .pointer t.ptr, .int .i64 n] 68 (0, 0)) := o
  replace hT : Tr 122 K t := hT
  replace hR : Rep t n L := hR
  go_enter Tryd.func40, Tryd.ntmps40
  go_wp2
  refine wp_region_run (m := 12) (n := 16) (I := fun K2 W2 => St K0 w0 K2 W2 ∧ Own w0 K2 W2 g (.cells #[.int .i64 id, .int .i64 ten, .pointer t.ptr, .int .i64 n] 68 (0, 0))) (K0 := K)
    (ws := [.is (.pointer (some ⟨g, 0, none⟩)), .is (.pointer (some ⟨g, 0, none⟩)), .is (.pointer (some ⟨g, 0, none⟩)), .is (.pointer (some ⟨g, 0, none⟩)), .is (.pointer (some ⟨g, 2, none⟩)), .is (.agg #[.pointer t.ptr, .int .i64 n]), .is (.int .i64 b), .is (.int .i64 c), .sat (fun K v => TrV (rset L b c) K v), .is (.pointer (some ⟨g, 0, none⟩)), .is (.pointer (some ⟨g, 0, none⟩)), .is (.pointer (some ⟨g, 2, none⟩))])
    mixed_ok (by kernel_rfl) rfl rfl ?monoa ⟨s.drew, o.drew⟩ ?_
  case monoa =>
    simp only [List.forall_mem_cons]
    exact ⟨trivial, trivial, trivial, trivial, trivial, trivial, trivial, trivial, fun _ _ _ hE h => TrV.ext hE h, trivial, trivial, trivial, fun _ h => by cases h⟩
  apply RunAll.is_
  · intro K3 W3 hE3 hI3 hF3
    go_wp2
    exact step_end ⟨⟨K3, Ext.refl _, hI3⟩, rfl⟩
  · rfl
  apply RunAll.is_
  · intro K3 W3 hE3 hI3 hF3
    go_wp2
    exact step_end ⟨⟨K3, Ext.refl _, hI3⟩, rfl⟩
  · rfl
  apply RunAll.is_
  · intro K3 W3 hE3 hI3 hF3
    go_wp2
    exact step_end ⟨⟨K3, Ext.refl _, hI3⟩, rfl⟩
  · rfl
  apply RunAll.is_
  · intro K3 W3 hE3 hI3 hF3
    go_wp2
    exact step_end ⟨⟨K3, Ext.refl _, hI3⟩, rfl⟩
  · rfl
  apply RunAll.is_
  · intro K3 W3 hE3 hI3 hF3
    go_wp2
    exact step_end ⟨⟨K3, Ext.refl _, hI3⟩, rfl⟩
  · rfl
  apply RunAll.is_
  · intro K3 W3 hE3 hI3 hF3
    go_wp2_with (first | ((with_reducible refine gate_load (T := 60) ?_); refine wpList_loadAgg (vs := [.pointer t.ptr, .int .i64 n]) (off := 2) rfl rfl rfl Tryd.underlying60 rfl hI3.2.at_ (by rw [size_Tree]; rfl) (fun j u hu => two_of4 j u hu) ?_) | fail)
    exact step_end ⟨⟨K3, Ext.refl _, hI3⟩, rfl⟩
  · rfl
  apply RunAll.is_
  · intro K3 W3 hE3 hI3 hF3
    go_wp2_with (first | ((with_reducible refine gate_load (T := 3) ?_); refine wpList_loadCell rfl rfl rfl Tryd.underlying3 rfl (hI3.1.inn.get (hE3 _ _ hB)) rfl ?_) | fail)
    exact step_end ⟨⟨K3, Ext.refl _, hI3⟩, rfl⟩
  · rfl
  apply RunAll.is_
  · intro K3 W3 hE3 hI3 hF3
    go_wp2_with (first | ((with_reducible refine gate_load (T := 3) ?_); refine wpList_loadCell rfl rfl rfl Tryd.underlying3 rfl (hI3.1.inn.get (hE3 _ _ hC)) rfl ?_) | fail)
    exact step_end ⟨⟨K3, Ext.refl _, hI3⟩, rfl⟩
  · rfl
  apply RunAll.sat_
  · intro K3 W3 hE3 hI3 hF3
    go_wp2_with (first | (go_at_call 41; refine (Set_ok K3 t n b c _ hI3.1.inn (hT.ext hE3) hn0 hn1).mono ?_; rintro e W4 ⟨v, K4, rfl, hi, hl, hb, t1, n1, rfl, ht1, hs1⟩) | fail)
    have hr1 := hR.set ((hT.ext hE3).under hI3.1.inn) hs1
    generalize hgv : treeV t1 n1 = v10
    exact step_end ⟨v10, K4, Ext.of_le hI3.1.inn hl, ⟨hI3.1.call hi hl hb, hI3.2.call hl hb⟩, rfl, t1, n1, hgv.symm, ht1, hr1⟩
  · intro v; rfl
  intro v8
  apply RunAll.is_
  · intro K3 W3 hE3 hI3 hF3
    go_wp2
    exact step_end ⟨⟨K3, Ext.refl _, hI3⟩, rfl⟩
  · rfl
  apply RunAll.is_
  · intro K3 W3 hE3 hI3 hF3
    go_wp2
    exact step_end ⟨⟨K3, Ext.refl _, hI3⟩, rfl⟩
  · rfl
  apply RunAll.is_
  · intro K3 W3 hE3 hI3 hF3
    go_wp2
    exact step_end ⟨⟨K3, Ext.refl _, hI3⟩, rfl⟩
  · rfl
  intro K5 W5 hE5 hI5 hF5
  obtain ⟨t2, n2, rfl, ht2, hr2⟩ := hF5.2
  have o5 := hI5.2
  have s5 := hI5.1
  change wpList _ _ _ (List.cons _ _) _ _
  go_wp2_with (first | ((with_reducible refine gate_store (T := 60) ?_); refine wpList_storeAt (off := 2) (cs := #[.pointer t2.ptr, .int .i64 n2]) rfl rfl rfl rfl rfl o5.at_ (by simp) (by rw [size_Tree]; rfl) (by simp [Value.oneCell']) ?_; intro W6 hu; replace s5 := s5.upd o5 hu; replace o5 := o5.upd hu; clear hu) | fail)
  go_end0
  exact ⟨rfl, K5, ⟨id, ten, t2, n2, rset L b c⟩, s5, hE5, o5, ht2, hr2, rfl⟩

set_option maxRecDepth 100000 in
theorem Unmap1_ok {K0 K : Fz} {w0 W : World} {g : Nat} {y : Vol} (s : St K0 w0 K W) (o : Own w0 K W g (.cells (encV y).toArray 68 (0, 0))) (hT : Tr 122 K y.t) (hR : Rep y.t y.n y.L) {B : Nat} {b : Int} (hB : K B = some (.cells #[.int .i64 b] 3 (0, 0))) :
    Calls Tryd.prog 42 #[.pointer (some ⟨g, 0, none⟩), .pointer (some ⟨B, 0, none⟩)] W (Turned K0 w0 K g y (AP.unmap b)) := by
  obtain ⟨id, ten, t, n, L⟩ := y
  have hn0 : -1000000 ≤ n := by have := hR.n_le; simp only at this; omega
  have hn1 : n ≤ 1000000 := by have := hR.n_le; simp only at this; omega
  replace o : Own w0 K W g (.cells #[.int .i64 id, .int .i64 ten, .pointer t.ptr, .int .i64 n] 68 (0, 0)) := o
  replace hT : Tr 122 K t := hT
  replace hR : Rep t n L := hR
  go_enter Tryd.func42, Tryd.ntmps42
  go_wp2
  refine wp_region_run (m := 11) (n := 14) (I := fun K2 W2 => St K0 w0 K2 W2 ∧ Own w0 K2 W2 g (.cells #[.int .i64 id, .int .i64 ten, .pointer t.ptr, .int .i64 n] 68 (0, 0))) (K0 := K)
    (ws := [.is (.pointer (some ⟨g, 0, none⟩)), .is (.pointer (some ⟨g, 0, none⟩)), .is (.pointer (some ⟨g, 0, none⟩)), .is (.pointer (some ⟨g, 0, none⟩)), .is (.pointer (some ⟨g, 2, none⟩)), .is (.agg #[.pointer t.ptr, .int .i64 n]), .is (.int .i64 b), .sat (fun K v => TrV (rclr L b) K v), .is (.pointer (some ⟨g, 0, none⟩)), .is (.pointer (some ⟨g, 0, none⟩)), .is (.pointer (some ⟨g, 2, none⟩))])
    mixed_ok (by kernel_rfl) rfl rfl ?monoa ⟨s.drew, o.drew⟩ ?_
  case monoa =>
    simp only [List.forall_mem_cons]
    exact ⟨trivial, trivial, trivial, trivial, trivial, trivial, trivial, fun _ _ _ hE h => TrV.ext hE h, trivial, trivial, trivial, fun _ h => by cases h⟩
  apply RunAll.is_
  · intro K3 W3 hE3 hI3 hF3
    go_wp2
    exact step_end ⟨⟨K3, Ext.refl _, hI3⟩, rfl⟩
  · rfl
  apply RunAll.is_
  · intro K3 W3 hE3 hI3 hF3
    go_wp2
    exact step_end ⟨⟨K3, Ext.refl _, hI3⟩, rfl⟩
  · rfl
  apply RunAll.is_
  · intro K3 W3 hE3 hI3 hF3
    go_wp2
    exact step_end ⟨⟨K3, Ext.refl _, hI3⟩, rfl⟩
  · rfl
  apply RunAll.is_
  · intro K3 W3 hE3 hI3 hF3
    go_wp2
    exact step_end ⟨⟨K3, Ext.refl _, hI3⟩, rfl⟩
  · rfl
  apply RunAll.is_
  · intro K3 W3 hE3 hI3 hF3
    go_wp2
    exact step_end ⟨⟨K3, Ext.refl _, hI3⟩, rfl⟩
  · rfl
  apply RunAll.is_
  · intro K3 W3 hE3 hI3 hF3
    go_wp2_with (first | ((with_reducible refine gate_load (T := 60) ?_); refine wpList_loadAgg (vs := [.pointer t.ptr, .int .i64 n]) (off := 2) rfl rfl rfl Tryd.underlying60 rfl hI3.2.at_ (by rw [size_Tree]; rfl) (fun j u hu => two_of4 j u hu) ?_) | fail)
    exact step_end ⟨⟨K3, Ext.refl _, hI3⟩, rfl⟩
  · rfl
  apply RunAll.is_
  · intro K3 W3 hE3 hI3 hF3
    go_wp2_with (first | ((with_reducible refine gate_load (T := 3) ?_); refine wpList_loadCell rfl rfl rfl Tryd.underlying3 rfl (hI3.1.inn.get (hE3 _ _ hB)) rfl ?_) | fail)
    exact step_end ⟨⟨K3, Ext.refl _, hI3⟩, rfl⟩
  · rfl
  apply RunAll.sat_
  · intro K3 W3 hE3 hI3 hF3
    go_wp2_with (first | (go_at_call 43; refine (Clear_ok K3 t n b _ hI3.1.inn (hT.ext hE3) hn0 hn1).mono ?_; rintro e W4 ⟨v, K4, rfl, hi, hl, hb, t1, n1, rfl, ht1, hs1⟩) | fail)
    have hr1 := hR.clr ((hT.ext hE3).under hI3.1.inn) hs1
    generalize hgv : treeV t1 n1 = v10
    exact step_end ⟨v10, K4, Ext.of_le hI3.1.inn hl, ⟨hI3.1.call hi hl hb, hI3.2.call hl hb⟩, rfl, t1, n1, hgv.symm, ht1, hr1⟩
  · intro v; rfl
  intro v7
  apply RunAll.is_
  · intro K3 W3 hE3 hI3 hF3
    go_wp2
    exact step_end ⟨⟨K3, Ext.refl _, hI3⟩, rfl⟩
  · rfl
  apply RunAll.is_
  · intro K3 W3 hE3 hI3 hF3
    go_wp2
    exact step_end ⟨⟨K3, Ext.refl _, hI3⟩, rfl⟩
  · rfl
  apply RunAll.is_
  · intro K3 W3 hE3 hI3 hF3
    go_wp2
    exact step_end ⟨⟨K3, Ext.refl _, hI3⟩, rfl⟩
  · rfl
  intro K5 W5 hE5 hI5 hF5
  obtain ⟨t2, n2, rfl, ht2, hr2⟩ := hF5.2
  have o5 := hI5.2
  have s5 := hI5.1
  change wpList _ _ _ (List.cons _ _) _ _
  go_wp2_with (first | ((with_reducible refine gate_store (T := 60) ?_); refine wpList_storeAt (off := 2) (cs := #[.pointer t2.ptr, .int .i64 n2]) rfl rfl rfl rfl rfl o5.at_ (by simp) (by rw [size_Tree]; rfl) (by simp [Value.oneCell']) ?_; intro W6 hu; replace s5 := s5.upd o5 hu; replace o5 := o5.upd hu; clear hu) | fail)
  go_end0
  exact ⟨rfl, K5, ⟨id, ten, t2, n2, rclr L b⟩, s5, hE5, o5, ht2, hr2, rfl⟩

set_option maxRecDepth 100000 in
theorem Give1_ok {K0 K : Fz} {w0 W : World} {g : Nat} {y : Vol} (s : St K0 w0 K W) (o : Own w0 K W g (.cells (encV y).toArray 68 (0, 0))) (hT : Tr 122 K y.t) (hR : Rep y.t y.n y.L) {B : Nat} {b : Int} (hB : K B = some (.cells #[.int .i64 b] 3 (0, 0))) :
    Calls Tryd.prog 38 #[.pointer (some ⟨g, 0, none⟩), .pointer (some ⟨B, 0, none⟩)] W (Turned K0 w0 K g y (AP.give b)) := by
  obtain ⟨id, ten, t, n, L⟩ := y
  replace o : Own w0 K W g (.cells #[.int .i64 id, .int .i64 ten, .pointer t.ptr, .int .i64 n] 68 (0, 0)) := o
  go_enter Tryd.func38, Tryd.ntmps38
  go_wp2_with (first
    | ((with_reducible refine gate_load (T := 3) ?_); refine wpList_loadCell rfl rfl rfl Tryd.underlying3 rfl (s.inn.get hB) rfl ?_)
    | ((with_reducible refine gate_store (T := 3) ?_); refine wpList_storeAt (off := 1) (cs := #[.int .i64 b]) rfl rfl rfl rfl rfl o.at_ (by simp) (by rw [size_int1]; rfl) (by simp [Value.oneCell']) ?_; intro W6 hu; replace s := s.upd o hu; replace o := o.upd hu; clear hu)
    | fail)
  go_end0
  exact ⟨rfl, K, ⟨id, b, t, n, L⟩, s, Ext.refl _, o, hT, hR, rfl⟩

set_option maxRecDepth 100000 in
theorem Restore1_ok {K0 K : Fz} {w0 W : World} {g : Nat} {y : Vol} (s : St K0 w0 K W) (o : Own w0 K W g (.cells (encV y).toArray 68 (0, 0))) {S : Spc} {v : Value} (hS : SpK K v S) {i : Nat} {z : Snp} (hz : S.ss[i]? = some z) (hTz : Tr 122 K z.t) (hRz : Rep z.t z.n z.L) (hlen : S.ss.length ≤ 1000000)
    {B C : Nat} {TB : Nat} (hB : K B = some (.cells #[v] TB (0, 0))) (hC : K C = some (.cells #[.int .i64 (i : Nat)] 3 (0, 0))) :
    Calls Tryd.prog 49 #[.pointer (some ⟨g, 0, none⟩), .pointer (some ⟨B, 0, none⟩), .pointer (some ⟨C, 0, none⟩)] W (Turned K0 w0 K g y (AP.maps z.L)) := by
  obtain ⟨id, ten, t, n, L⟩ := y
  replace o : Own w0 K W g (.cells #[.int .i64 id, .int .i64 ten, .pointer t.ptr, .int .i64 n] 68 (0, 0)) := o
  obtain ⟨gs, T, sv, ss, rfl, hb, _, h2, _, _, _⟩ := hS
  obtain ⟨a, cap, rfl, hcap, hx⟩ := h2
  have hlt : i < S.ss.length := (List.getElem?_eq_some_iff.1 hz).1
  obtain ⟨b, off, cs, ty, fr, rfl, hkb, hj⟩ := hx i z hz
  have Hj : Hid (∀ (j : Nat) (u : Value), [Value.pointer z.t.ptr, .int .i64 z.n][j]? = some u → cs[off + i * 5 + 2 + j]? = some u) := Lib.hid (by
    intro j u hu
    have := hj (j + 2) u (by
      rcases j with _ | _ | j
      · exact hu
      · exact hu
      · simp at hu)
    rw [← this]
    congr 1
    omega)
  obtain ⟨zp, hzp⟩ : ∃ zp, z.t.ptr = zp := ⟨_, rfl⟩
  obtain ⟨zn, hzn⟩ : ∃ zn, z.n = zn := ⟨_, rfl⟩
  rw [hzp, hzn] at Hj
  have Hzp := Lib.hid hzp
  have Hzn := Lib.hid hzn
  clear hj hx hz hzp hzn
  go_enter Tryd.func49, Tryd.ntmps49
  go_wp2
  refine wp_region_run (m := 13) (n := 17) (I := fun K2 W2 => St K0 w0 K2 W2 ∧ Own w0 K2 W2 g (.cells #[.int .i64 id, .int .i64 ten, .pointer t.ptr, .int .i64 n] 68 (0, 0))) (K0 := K)
    (ws := [.is (.pointer (some ⟨g, 0, none⟩)), .is (.pointer (some ⟨gs, 0, none⟩)), .is (.pointer (some ⟨gs, 0, none⟩)), .is (.pointer (some ⟨gs, 1, none⟩)), .is (.slice (some ⟨b, off, none⟩) S.ss.length cap), .is (.int .i64 (i : Nat)), .is (.pointer (some ⟨b, off + i * 5, none⟩)), .is (.pointer (some ⟨b, off + i * 5, none⟩)), .is (.pointer (some ⟨b, off + i * 5 + 2, none⟩)), .is (.agg #[.pointer zp, .int .i64 zn]), .is (.pointer (some ⟨g, 0, none⟩)), .is (.pointer (some ⟨g, 0, none⟩)), .is (.pointer (some ⟨g, 2, none⟩))])
    mixed_ok (by kernel_rfl) rfl rfl ?monor ⟨s.drew, o.drew⟩ ?_
  case monor =>
    simp only [List.forall_mem_cons]
    exact ⟨trivial, trivial, trivial, trivial, trivial, trivial, trivial, trivial, trivial, trivial, trivial, trivial, trivial, fun _ h => by cases h⟩
  apply RunAll.is_
  · intro K3 W3 hE3 hI3 hF3
    go_wp2
    exact step_end ⟨⟨K3, Ext.refl _, hI3⟩, rfl⟩
  · rfl
  apply RunAll.is_
  · intro K3 W3 hE3 hI3 hF3
    go_wp2_with (first | ((with_reducible refine gate_load (T := 24) ?_); refine wpList_loadCell rfl rfl rfl Tryd.underlying24 rfl (hI3.1.inn.get (hE3 _ _ hB)) rfl ?_) | fail)
    exact step_end ⟨⟨K3, Ext.refl _, hI3⟩, rfl⟩
  · rfl
  apply RunAll.is_
  · intro K3 W3 hE3 hI3 hF3
    go_wp2
    exact step_end ⟨⟨K3, Ext.refl _, hI3⟩, rfl⟩
  · rfl
  apply RunAll.is_
  · intro K3 W3 hE3 hI3 hF3
    go_wp2
    exact step_end ⟨⟨K3, Ext.refl _, hI3⟩, rfl⟩
  · rfl
  apply RunAll.is_
  · intro K3 W3 hE3 hI3 hF3
    go_wp2_with (first | ((with_reducible refine gate_load (T := 48) ?_); refine wpList_loadCell rfl rfl rfl Tryd.underlying48 rfl (hI3.1.inn.get (hE3 _ _ hb)) rfl ?_) | fail)
    exact step_end ⟨⟨K3, Ext.refl _, hI3⟩, rfl⟩
  · rfl
  apply RunAll.is_
  · intro K3 W3 hE3 hI3 hF3
    go_wp2_with (first | ((with_reducible refine gate_load (T := 3) ?_); refine wpList_loadCell rfl rfl rfl Tryd.underlying3 rfl (hI3.1.inn.get (hE3 _ _ hC)) rfl ?_) | fail)
    exact step_end ⟨⟨K3, Ext.refl _, hI3⟩, rfl⟩
  · rfl
  apply RunAll.is_
  · intro K3 W3 hE3 hI3 hF3
    go_wp2
    exact step_end ⟨⟨K3, Ext.refl _, hI3⟩, rfl⟩
  · rfl
  apply RunAll.is_
  · intro K3 W3 hE3 hI3 hF3
    go_wp2
    exact step_end ⟨⟨K3, Ext.refl _, hI3⟩, rfl⟩
  · rfl
  apply RunAll.is_
  · intro K3 W3 hE3 hI3 hF3
    go_wp2
    exact step_end ⟨⟨K3, Ext.refl _, hI3⟩, rfl⟩
  · rfl
  apply RunAll.is_
  · intro K3 W3 hE3 hI3 hF3
    go_wp2_with (first | ((with_reducible refine gate_load (T := 60) ?_); refine wpList_loadAgg (vs := [.pointer zp, .int .i64 zn]) (off := off + i * 5 + 2) rfl rfl rfl Tryd.underlying60 rfl (hI3.1.inn.get (hE3 _ _ hkb)) (by rw [size_Tree]; rfl) (fun j u hu => Hj.out j u hu) ?_) | fail)
    exact step_end ⟨⟨K3, Ext.refl _, hI3⟩, rfl⟩
  · rfl
  apply RunAll.is_
  · intro K3 W3 hE3 hI3 hF3
    go_wp2
    exact step_end ⟨⟨K3, Ext.refl _, hI3⟩, rfl⟩
  · rfl
  apply RunAll.is_
  · intro K3 W3 hE3 hI3 hF3
    go_wp2
    exact step_end ⟨⟨K3, Ext.refl _, hI3⟩, rfl⟩
  · rfl
  apply RunAll.is_
  · intro K3 W3 hE3 hI3 hF3
    go_wp2
    exact step_end ⟨⟨K3, Ext.refl _, hI3⟩, rfl⟩
  · rfl
  intro K5 W5 hE5 hI5 hF5
  have o5 := hI5.2
  have s5 := hI5.1
  change wpList _ _ _ (List.cons _ _) _ _
  go_wp2_with (first | ((with_reducible refine gate_store (T := 60) ?_); refine wpList_storeAt (off := 2) (cs := #[.pointer zp, .int .i64 zn]) rfl rfl rfl rfl rfl o5.at_ (by simp) (by rw [size_Tree]; rfl) (by simp [Value.oneCell']) ?_; intro W6 hu; replace s5 := s5.upd o5 hu; replace o5 := o5.upd hu; clear hu) | fail)
  go_end0
  refine ⟨rfl, K5, ⟨id, ten, z.t, z.n, z.L⟩, s5, hE5, ?_, hTz.ext hE5, hRz, rfl⟩
  show Own _ _ _ _ (.cells #[.int .i64 id, .int .i64 ten, .pointer z.t.ptr, .int .i64 z.n] _ _)
  rw [Hzp.out, Hzn.out]
  exact o5

end Go.Proofs.YtdaagmhkhfcmdaaDoor
