/- without, Delete and Drop. Written by gen_VolQ.py. -/
import Derived.Test.YtdaagmhkhfcmdaaVolL
namespace Go.Proofs.Ytdaagmhkhfcmdaa
open Go Go.RowKit
set_option maxHeartbeats 400000

theorem ownsRow_base {W : World} {base base' e sz : Nat} {v : Value} {n : Nat} {xs : List Value} (h : W.ownsRow base e sz v n xs) (hb : base' ≤ base) : W.ownsRow base' e sz v n xs := by
  refine ⟨h.1, ?_⟩
  rcases h.2 with h0 | ⟨g, cap, cur, h1, h2, h3⟩
  · exact .inl h0
  · exact .inr ⟨g, cap, cur, h1, Nat.le_trans hb h2, h3⟩
/-- A row that a callee has made. -/
theorem Row.fresh {K : Fz} {w W1 W : World} {e sz : Nat} {v : Value} {n : Nat} {xs : List Value} (hi : K.In W1) (hsz : w.heap.size ≤ W1.heap.size) (h : W.ownsRow W1.heap.size e sz v n xs) : Row w K W e sz v n xs :=
  ⟨ownsRow_base h hsz, fun _ hb => hi.out (ownsRow_lt h hb).2⟩
theorem Row.flatS {K : Fz} {w W : World} {e sz : Nat} {v : Value} {n : Nat} {xs : List Value} (r : Row w K W e sz v n xs) : FlatS v := by
  intro a n' c h
  rcases r.own.2 with ⟨rfl, _⟩ | ⟨g, cap, cur, rfl, _⟩
  · cases h; exact .inl rfl
  · cases h; exact .inr ⟨_, _, rfl⟩
theorem Asp.eq_mk {A : Asp} {S : Spc} (h1 : S.vs.map Vol.abs = A.vs) (h2 : S.ss.map Snp.abs = A.ss) : A = ⟨S.vs.map Vol.abs, S.ss.map Snp.abs⟩ := by cases A; simp_all
theorem map_eraseIdx' {α β : Type} (f : α → β) : ∀ (l : List α) (i : Nat), (l.eraseIdx i).map f = (l.map f).eraseIdx i
  | [], _ => rfl
  | _ :: _, 0 => rfl
  | x :: xs, i + 1 => by rw [List.eraseIdx_cons_succ, List.map_cons, List.map_cons, List.eraseIdx_cons_succ, map_eraseIdx' f xs i]
theorem mem_eraseIdx' {α : Type} {l : List α} {i : Nat} {a : α} (h : a ∈ l.eraseIdx i) : a ∈ l := (List.eraseIdx_sublist l i).subset h

set_option maxRecDepth 100000 in
theorem vWithout_ok (K : Fz) (sv : Value) (L : List Vol) (i : Nat) (w : World) (hK : K.In w) (hS : SlK K 4 encV sv L) (hF : FlatS sv) (hlen : L.length ≤ 1000000) (hi : i < L.length) :
    Calls Try.prog 66 #[sv, .int .i64 (i : Nat)] w (fun e w' => ∃ v', e = .returned v' ∧ w'.ownsRow w.heap.size 90 4 v' (L.length - 1) ((L.eraseIdx i).flatMap encV) ∧ Below w.heap.size w w') := by
  have s := St.start hK
  have HS := Lib.hid hS
  have HF := Lib.hid hF
  clear hS hF
  obtain ⟨j, hj⟩ : ∃ j, j = i + 1 := ⟨_, rfl⟩
  have hw : IntKind.i64.wrap ((i : Int) + 1) = (j : Int) := by rw [IntKind.wrap_i64]; omega
  have hone := flat_one encV_one L
  have HJ := Lib.hid hj
  clear hj
  go_enter Try.func66, Try.ntmps66
  go_wp2_with (first
    | (go_at_call 94; refine (vClone_ok K sv L _ s.inn HS.out HF.out hlen).mono ?_; rintro e W2 ⟨v1, rfl, hrow, hb⟩; have r := Row.fresh s.inn s.size hrow; replace s := s.quiet hb; clear hb hrow)
    | (go_at_call 95; refine (vDelete_ok _ v1 L.length i j _ _ r.own HJ.out hi hlen hone).mono ?_; rintro e W3 ⟨v2, rfl, hrow2, hgr⟩; replace s := s.grown r hgr)
    | fail)
  go_ret
  refine ⟨_, rfl, ?_, s.below⟩
  rw [HJ.out, flat_del encV_len] at hrow2
  exact hrow2

set_option maxRecDepth 100000 in
theorem Delete_ok (K : Fz) (v : Value) (A : Asp) (x : Int) (w : World) (hK : K.In w) (hS : SpA K v A) (hG : Good A) :
    Calls Try.prog 30 #[v, .int .i64 x] w (Ret K w fun K' u => ∃ v', u = .tuple #[v', .int .i64 (A.delete x).2.2] ∧ Res K' (A.delete x) v') := by
  obtain ⟨S, hSp, e1, e2, hR1, hR2⟩ := hS
  obtain rfl := Asp.eq_mk e1 e2
  have hlen : S.vs.length ≤ 1000000 := by have := hG.v.len; simp only [List.length_map] at this; omega
  have HSp := Lib.hid hSp
  obtain ⟨g, T, sv, ss, rfl, hb, h1, h2, h3, h4, f1, f2⟩ := hSp
  have s := St.start hK
  have Hat := Lib.hid fun W (hW : K.In W) => vAt_ok K sv S.vs x W hW h1 hlen
  have H1 := Lib.hid h1
  have HT := Lib.hid h3
  have HF := Lib.hid f1
  have hle := ixN_le Vol.id S.vs x
  have hix : ixN AP.id (S.vs.map Vol.abs) x = ixN Vol.id S.vs x := ixN_map _ _ _ _
  obtain ⟨n, hn⟩ : ∃ n, ixN Vol.id S.vs x = n := ⟨_, rfl⟩
  rw [hn] at hle hix
  have hform : ∃ a c, sv = .slice a S.vs.length c := by obtain ⟨a, c, e, _⟩ := h1; exact ⟨a, c, e⟩
  obtain ⟨a0, c0, rfl⟩ := hform
  by_cases hlt : n < S.vs.length
  · have hv : Hid (ixV Vol.id S.vs x = (n : Int)) := Lib.hid (by rw [ixV, hn, if_pos hlt])
    have hres : Hid (Asp.delete ⟨S.vs.map Vol.abs, S.ss.map Snp.abs⟩ x = (⟨(S.vs.eraseIdx n).map Vol.abs, S.ss.map Snp.abs⟩, 0, 0)) := Lib.hid (by
      unfold Asp.delete
      simp only [hix, List.length_map, if_pos hlt, map_eraseIdx'])
    clear h1 h2 h3 h4 hn hix f1 f2
    go_enter Try.func30, Try.ntmps30
    go_wp2_with (first
      | ((with_reducible refine gate_load (T := 74) ?_); refine wpList_loadCell rfl rfl rfl Try.underlying74 rfl (s.inn.get hb) rfl ?_)
      | (go_at_call 42; refine (Hat.out _ s.inn).mono ?_; rw [hv.out]; rintro e W4 ⟨rfl, hb4⟩; replace s := s.quiet hb4; clear hb4)
      | (go_at_call 66; refine (vWithout_ok K _ S.vs n _ s.inn H1.out HF.out hlen hlt).mono ?_; rintro e W5 ⟨v1, rfl, hrow, hb5⟩; have r := Row.fresh s.inn s.size hrow; replace s := s.quiet hb5; clear hb5 hrow; obtain ⟨K1, s1, hE1, hS1, _⟩ := Row.fix s r encV_len (by rw [List.length_eraseIdx, if_pos hlt]) rfl)
      | (go_at_call 65; refine (volumesAre_ok K1 _ S v1 _ _ s1.inn (HSp.out.ext hE1) hS1 (fun y hy => (HT.out y (mem_eraseIdx' hy)).ext hE1) r.flatS).mono ?_; rintro e W6 ⟨u6, K2, rfl, hi6, hl6, hb6, hu6⟩; replace s1 := s1.call hi6 hl6 hb6; clear hi6 hl6 hb6)
      | fail)
    go_ret2
    refine s1.ret ⟨u6, by rw [hres.out]; rfl, fun _ => ?_, fun h => (h (by rw [hres.out])).elim⟩
    rw [hres.out]
    exact ⟨_, hu6, rfl, rfl, fun y hy => hR1 y (mem_eraseIdx' hy), hR2⟩
  · have hv : Hid (ixV Vol.id S.vs x = -1) := Lib.hid (by rw [ixV, hn, if_neg hlt])
    have hres : Hid (Asp.delete ⟨S.vs.map Vol.abs, S.ss.map Snp.abs⟩ x = (⟨S.vs.map Vol.abs, S.ss.map Snp.abs⟩, 0, 12)) := Lib.hid (by
      unfold Asp.delete
      simp only [hix, List.length_map, if_neg hlt])
    clear h1 h2 h3 h4 hn hix f1 f2
    go_enter Try.func30, Try.ntmps30
    go_wp2_with (first
      | ((with_reducible refine gate_load (T := 74) ?_); refine wpList_loadCell rfl rfl rfl Try.underlying74 rfl (s.inn.get hb) rfl ?_)
      | (go_at_call 42; refine (Hat.out _ s.inn).mono ?_; rw [hv.out]; rintro e W4 ⟨rfl, hb4⟩; replace s := s.quiet hb4; clear hb4)
      | fail)
    go_ret2
    refine s.ret ⟨.pointer none, by rw [hres.out]; rfl, fun h => ?_, fun _ => rfl⟩
    rw [hres.out] at h
    cases h

set_option maxRecDepth 100000 in
theorem sWithout_ok (K : Fz) (sv : Value) (L : List Snp) (i : Nat) (w : World) (hK : K.In w) (hS : SlK K 5 encS sv L) (hF : FlatS sv) (hlen : L.length ≤ 1000000) (hi : i < L.length) :
    Calls Try.prog 73 #[sv, .int .i64 (i : Nat)] w (fun e w' => ∃ v', e = .returned v' ∧ w'.ownsRow w.heap.size 98 5 v' (L.length - 1) ((L.eraseIdx i).flatMap encS) ∧ Below w.heap.size w w') := by
  have s := St.start hK
  have HS := Lib.hid hS
  have HF := Lib.hid hF
  clear hS hF
  obtain ⟨j, hj⟩ : ∃ j, j = i + 1 := ⟨_, rfl⟩
  have hw : IntKind.i64.wrap ((i : Int) + 1) = (j : Int) := by rw [IntKind.wrap_i64]; omega
  have hone := flat_one encS_one L
  have HJ := Lib.hid hj
  clear hj
  go_enter Try.func73, Try.ntmps73
  go_wp2_with (first
    | (go_at_call 72; refine (sClone_ok K sv L _ s.inn HS.out HF.out hlen).mono ?_; rintro e W2 ⟨v1, rfl, hrow, hb⟩; have r := Row.fresh s.inn s.size hrow; replace s := s.quiet hb; clear hb hrow)
    | (go_at_call 98; refine (sDelete_ok _ v1 L.length i j _ _ r.own HJ.out hi hlen hone).mono ?_; rintro e W3 ⟨v2, rfl, hrow2, hgr⟩; replace s := s.grown r hgr)
    | fail)
  go_ret
  refine ⟨_, rfl, ?_, s.below⟩
  rw [HJ.out, flat_del encS_len] at hrow2
  exact hrow2

set_option maxRecDepth 100000 in
theorem Drop_ok (K : Fz) (v : Value) (A : Asp) (x : Int) (w : World) (hK : K.In w) (hS : SpA K v A) (hG : Good A) :
    Calls Try.prog 33 #[v, .int .i64 x] w (Ret K w fun K' u => ∃ v', u = .tuple #[v', .int .i64 (A.drop x).2.2] ∧ Res K' (A.drop x) v') := by
  obtain ⟨S, hSp, e1, e2, hR1, hR2⟩ := hS
  obtain rfl := Asp.eq_mk e1 e2
  have hlen : S.ss.length ≤ 1000000 := by have := hG.s.len; simp only [List.length_map] at this; omega
  have HSp := Lib.hid hSp
  obtain ⟨g, T, sv, ss, rfl, hb, h1, h2, h3, h4, f1, f2⟩ := hSp
  have s := St.start hK
  have Hat := Lib.hid fun W (hW : K.In W) => sAt_ok K ss S.ss x W hW h2 hlen
  have H1 := Lib.hid h2
  have HT := Lib.hid h4
  have HF := Lib.hid f2
  have hle := ixN_le Snp.num S.ss x
  have hix : ixN AP.id (S.ss.map Snp.abs) x = ixN Snp.num S.ss x := ixN_map _ _ _ _
  obtain ⟨n, hn⟩ : ∃ n, ixN Snp.num S.ss x = n := ⟨_, rfl⟩
  rw [hn] at hle hix
  have hform : ∃ a c, ss = .slice a S.ss.length c := by obtain ⟨a, c, e, _⟩ := h2; exact ⟨a, c, e⟩
  obtain ⟨a0, c0, rfl⟩ := hform
  by_cases hlt : n < S.ss.length
  · have hv : Hid (ixV Snp.num S.ss x = (n : Int)) := Lib.hid (by rw [ixV, hn, if_pos hlt])
    have hres : Hid (Asp.drop ⟨S.vs.map Vol.abs, S.ss.map Snp.abs⟩ x = (⟨S.vs.map Vol.abs, (S.ss.eraseIdx n).map Snp.abs⟩, 0, 0)) := Lib.hid (by
      unfold Asp.drop
      simp only [hix, List.length_map, if_pos hlt, map_eraseIdx'])
    clear h1 h2 h3 h4 hn hix f1 f2
    go_enter Try.func33, Try.ntmps33
    go_wp2_with (first
      | ((with_reducible refine gate_load (T := 75) ?_); refine wpList_loadCell rfl rfl rfl Try.underlying75 rfl (s.inn.get hb) rfl ?_)
      | (go_at_call 48; refine (Hat.out _ s.inn).mono ?_; rw [hv.out]; rintro e W4 ⟨rfl, hb4⟩; replace s := s.quiet hb4; clear hb4)
      | (go_at_call 73; refine (sWithout_ok K _ S.ss n _ s.inn H1.out HF.out hlen hlt).mono ?_; rintro e W5 ⟨v1, rfl, hrow, hb5⟩; have r := Row.fresh s.inn s.size hrow; replace s := s.quiet hb5; clear hb5 hrow; obtain ⟨K1, s1, hE1, hS1, _⟩ := Row.fix s r encS_len (by rw [List.length_eraseIdx, if_pos hlt]) rfl)
      | (go_at_call 70; refine (snapshotsAre_ok K1 _ S v1 _ _ s1.inn (HSp.out.ext hE1) hS1 (fun y hy => (HT.out y (mem_eraseIdx' hy)).ext hE1) r.flatS).mono ?_; rintro e W6 ⟨u6, K2, rfl, hi6, hl6, hb6, hu6⟩; replace s1 := s1.call hi6 hl6 hb6; clear hi6 hl6 hb6)
      | fail)
    go_ret2
    refine s1.ret ⟨u6, by rw [hres.out]; rfl, fun _ => ?_, fun h => (h (by rw [hres.out])).elim⟩
    rw [hres.out]
    exact ⟨_, hu6, rfl, rfl, hR1, fun y hy => hR2 y (mem_eraseIdx' hy)⟩
  · have hv : Hid (ixV Snp.num S.ss x = -1) := Lib.hid (by rw [ixV, hn, if_neg hlt])
    have hres : Hid (Asp.drop ⟨S.vs.map Vol.abs, S.ss.map Snp.abs⟩ x = (⟨S.vs.map Vol.abs, S.ss.map Snp.abs⟩, 0, 12)) := Lib.hid (by
      unfold Asp.drop
      simp only [hix, List.length_map, if_neg hlt])
    clear h1 h2 h3 h4 hn hix f1 f2
    go_enter Try.func33, Try.ntmps33
    go_wp2_with (first
      | ((with_reducible refine gate_load (T := 75) ?_); refine wpList_loadCell rfl rfl rfl Try.underlying75 rfl (s.inn.get hb) rfl ?_)
      | (go_at_call 48; refine (Hat.out _ s.inn).mono ?_; rw [hv.out]; rintro e W4 ⟨rfl, hb4⟩; replace s := s.quiet hb4; clear hb4)
      | fail)
    go_ret2
    refine s.ret ⟨.pointer none, by rw [hres.out]; rfl, fun h => ?_, fun _ => rfl⟩
    rw [hres.out] at h
    cases h
end Go.Proofs.Ytdaagmhkhfcmdaa
