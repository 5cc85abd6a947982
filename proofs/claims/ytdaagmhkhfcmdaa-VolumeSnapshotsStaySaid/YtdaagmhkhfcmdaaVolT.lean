/- Give, Map, Unmap and Restore. Written by gen_VolT.py. -/
import Derived.Test.YtdaagmhkhfcmdaaVolS
import Derived.Test.YtdaagmhkhfcmdaaThaw
import Derived.Test.YtdaagmhkhfcmdaaLawK
import Derived.Test.YtdaagmhkhfcmdaaVolP
namespace Go.Proofs.Ytdaagmhkhfcmdaa
open Go Go.RowKit
set_option maxHeartbeats 400000

theorem zero_int1 (w : World) : (zeroValue 3).run Try.prog w = .ok (.int .i64 0) w := by kernel_rfl
/-- Two boxes of the call's own, frozen. -/
theorem St.shut2 {K0 K : Fz} {w W : World} {g g' : Nat} {cs cs' : Array Value} {t t' : TypeId} {fr fr' : Nat × Nat} (s : St K0 w K W) (o : Own w K W g (.cells cs t fr)) (o' : Own w K W g' (.cells cs' t' fr')) (hne : g ≠ g') :
    ∃ K', Ext K K' ∧ St K0 w K' W ∧ K' g = some (.cells cs t fr) ∧ K' g' = some (.cells cs' t' fr') := by
  have o2 := o'.freeze (o' := .cells cs t fr) (fun e => hne e.symm)
  refine ⟨_, fun b oo hb => ?_, (s.freeze o).freeze o2, ?_, Fz.add_self _ _ _⟩
  · rw [Fz.add_other _ _ (by rintro rfl; rw [o'.none_] at hb; cases hb), Fz.add_other _ _ (by rintro rfl; rw [o.none_] at hb; cases hb)]
    exact hb
  · rw [Fz.add_other _ _ hne]; exact Fz.add_self _ _ _
/-- What a verb with two results leaves. -/
def Two (r : Asp × Int × Int) (K' : Fz) (u : Value) : Prop := ∃ v', u = .tuple #[v', .int .i64 r.2.2] ∧ Res K' r v'
def Three (r : Asp × Int × Int) (K' : Fz) (u : Value) : Prop := ∃ v', u = .tuple #[v', .int .i64 r.2.1, .int .i64 r.2.2] ∧ Res K' r v'

set_option maxRecDepth 100000 in
theorem Give_ok (K : Fz) (v : Value) (A : Asp) (x b : Int) (w : World) (hK : K.In w) (hS : SpA K v A) (hG : Good A) :
    Calls Try.prog 31 #[v, .int .i64 x, .int .i64 b] w (Ret K w (Two (A.change x (tenB b) (AP.give b)))) := by
  obtain ⟨q, hq⟩ : ∃ q, tenB b = q := ⟨_, rfl⟩
  have Hq : Hid (decide (0 ≤ b ∧ b < 16) = q) := Lib.hid hq
  rw [hq]
  have s := St.start hK
  have HS := Lib.hid hS
  clear hS hq
  go_enter Try.func31, Try.ntmps31
  go_wp2_with (first
    | ((with_reducible refine gate_box (T := 3) (x := .tmp 2) ?_); refine wpList_boxG rfl rfl rfl (cs := #[.int .i64 b]) rfl ?_; intro g1 W1 e hn; have o1 := Own.made s e hn; replace s := s.new hn; clear e hn)
    | ((with_reducible refine gate_load (T := 3) (x := .tmp 5) ?_); refine wpList_loadCell rfl rfl rfl Try.underlying3 rfl o1.at_ rfl ?_)
    | (go_at_call 67; refine (tenantOK_ok b _).mono ?_; rw [Hq.out]; rintro e W ⟨rfl, rfl⟩)
    | (go_at_call 37; obtain ⟨K1, hE1, s1, hk1⟩ := s.shut o1; refine (change_give K1 v A x q _ s1.inn (HS.out.ext hE1) hG hk1).mono ?_; rintro e W5 ⟨u, K2, rfl, hi, hl, hb, v', rfl, hres⟩; replace s1 := s1.call hi hl hb; clear hi hl hb)
    | fail)
  go_ret2
  exact s1.ret ⟨v', rfl, hres⟩

set_option maxRecDepth 100000 in
theorem Unmap_ok (K : Fz) (v : Value) (A : Asp) (x b : Int) (w : World) (hK : K.In w) (hS : SpA K v A) (hG : Good A) :
    Calls Try.prog 13 #[v, .int .i64 x, .int .i64 b] w (Ret K w (Two (A.change x (blkB b) (AP.unmap b)))) := by
  obtain ⟨q, hq⟩ : ∃ q, blkB b = q := ⟨_, rfl⟩
  have Hq : Hid (decide (0 ≤ b ∧ b < 4096) = q) := Lib.hid hq
  rw [hq]
  have s := St.start hK
  have HS := Lib.hid hS
  clear hS hq
  go_enter Try.func13, Try.ntmps13
  go_wp2_with (first
    | ((with_reducible refine gate_box (T := 3) (x := .tmp 2) ?_); refine wpList_boxG rfl rfl rfl (cs := #[.int .i64 b]) rfl ?_; intro g1 W1 e hn; have o1 := Own.made s e hn; replace s := s.new hn; clear e hn)
    | ((with_reducible refine gate_load (T := 3) (x := .tmp 5) ?_); refine wpList_loadCell rfl rfl rfl Try.underlying3 rfl o1.at_ rfl ?_)
    | (go_at_call 36; refine (blockOK_ok b _).mono ?_; rw [Hq.out]; rintro e W ⟨rfl, rfl⟩)
    | (go_at_call 37; obtain ⟨K1, hE1, s1, hk1⟩ := s.shut o1; refine (change_unmap K1 v A x q _ s1.inn (HS.out.ext hE1) hG hk1).mono ?_; rintro e W5 ⟨u, K2, rfl, hi, hl, hb, v', rfl, hres⟩; replace s1 := s1.call hi hl hb; clear hi hl hb)
    | fail)
  go_ret2
  exact s1.ret ⟨v', rfl, hres⟩

set_option maxRecDepth 100000 in
set_option maxHeartbeats 4000000 in
theorem Map_ok (K : Fz) (v : Value) (A : Asp) (x b c : Int) (w : World) (hK : K.In w) (hS : SpA K v A) (hG : Good A) :
    Calls Try.prog 12 #[v, .int .i64 x, .int .i64 b, .int .i64 c] w (Ret K w (Two (A.change x (blkB b && chkB c) (AP.map b c)))) := by
  obtain ⟨q, hq⟩ : ∃ q, blkB b = q := ⟨_, rfl⟩
  obtain ⟨z, hz⟩ : ∃ z, (blkB b && chkB c) = z := ⟨_, rfl⟩
  have Hq : Hid (decide (0 ≤ b ∧ b < 4096) = q) := Lib.hid hq
  rw [hz]
  rw [hq] at hz
  have s := St.start hK
  have HS := Lib.hid hS
  clear hS hq
  by_cases h0 : 0 ≤ c <;> by_cases h1 : c < 2147483648 <;> cases q
  any_goals (exfalso; omega)
  all_goals
    first | have hd1 := decide_eq_true h1 | have hd1 := decide_eq_false h1
    simp only [chkB, h0, h1, Bool.false_and, Bool.true_and, and_true, and_false, true_and, false_and, decide_true, decide_false] at hz
    subst hz
    go_enter Try.func12, Try.ntmps12
    go_wp2_with (first
      | ((with_reducible refine gate_box (T := 3) (x := .tmp 2) ?_); refine wpList_boxG rfl rfl rfl (cs := #[.int .i64 b]) rfl ?_; intro g1 W1 e hn; have o1 := Own.made s e hn; replace s := s.new hn; clear e hn)
      | ((with_reducible refine gate_box (T := 3) (x := .tmp 3) ?_); refine wpList_boxG rfl rfl rfl (cs := #[.int .i64 c]) rfl ?_; intro g2 W2 e hn; have n12 := Lib.hid (o1.ne e); have o2 := Own.made s e hn; replace s := s.new hn; replace o1 := o1.new hn; clear e hn)
      | ((with_reducible refine gate_load (T := 3) (x := .tmp 6) ?_); refine wpList_loadCell rfl rfl rfl Try.underlying3 rfl o1.at_ rfl ?_)
      | ((with_reducible refine gate_load (T := 3) (x := .tmp 7) ?_); refine wpList_loadCellW rfl rfl rfl Try.underlying3 rfl o2.at_ rfl ?_)
      | (go_at_call 36; refine (blockOK_ok b _).mono ?_; rw [Hq.out]; rintro e W ⟨rfl, rfl⟩)
      | (go_at_call 37; obtain ⟨K1, hE1, s1, hk1⟩ := s.shut2 o1 o2 n12.out; refine (change_map K1 v A x _ _ s1.inn (HS.out.ext hE1) hG hk1.1 hk1.2).mono ?_; rintro e W5 ⟨u, K2, rfl, hi, hl, hb, v', rfl, hres⟩; replace s1 := s1.call hi hl hb; clear hi hl hb)
      | fail)
    go_ret2
    first | exact s1.ret ⟨v', rfl, hres⟩ | (rw [show decide (c < 2147483648) = false from decide_eq_false (by omega)] at hres ⊢; exact s1.ret ⟨v', rfl, hres⟩)

set_option maxRecDepth 100000 in
theorem Restore_ok (K : Fz) (v : Value) (A : Asp) (x y : Int) (w : World) (hK : K.In w) (hS : SpA K v A) (hG : Good A) :
    Calls Try.prog 35 #[v, .int .i64 x, .int .i64 y] w (Ret K w (Two (A.restore x y))) := by
  have HS := Lib.hid hS
  obtain ⟨S, hSp, e1, e2, hR1, hR2⟩ := hS
  obtain rfl := Asp.eq_mk e1 e2
  clear e1 e2
  have hlen : S.ss.length ≤ 1000000 := by have := hG.s.len; simp only [List.length_map] at this; omega
  have HSp := Lib.hid hSp
  obtain ⟨g, T, sv, ss, rfl, hb, h1, h2, h3, h4, f1, f2⟩ := hSp
  have s := St.start hK
  have Hat := Lib.hid fun W (hW : K.In W) => sAt_ok K ss S.ss y W hW h2 hlen
  have hle := ixN_le Snp.num S.ss y
  have hix : ixN AP.id (S.ss.map Snp.abs) y = ixN Snp.num S.ss y := ixN_map _ _ _ _
  obtain ⟨n, hn⟩ : ∃ n, ixN Snp.num S.ss y = n := ⟨_, rfl⟩
  rw [hn] at hle hix
  obtain ⟨a, cap, rfl, _, _⟩ := h2
  by_cases hlt : n < S.ss.length
  · have hv : Hid (ixV Snp.num S.ss y = (n : Int)) := Lib.hid (by rw [ixV, hn, if_pos hlt])
    obtain ⟨q, hqn⟩ : ∃ q, S.ss[n]? = some q := ⟨_, List.getElem?_eq_getElem hlt⟩
    have hres : Hid (Asp.restore ⟨S.vs.map Vol.abs, S.ss.map Snp.abs⟩ x y = Asp.change ⟨S.vs.map Vol.abs, S.ss.map Snp.abs⟩ x true (AP.maps q.L)) := Lib.hid (by
      refine restore_some (v := q.abs) ?_
      show (S.ss.map Snp.abs)[ixN AP.id (S.ss.map Snp.abs) y]? = _
      rw [hix, List.getElem?_map, hqn]
      rfl)
    have hTq := h4 _ (List.mem_of_getElem? hqn)
    have hRq := hR2 _ (List.mem_of_getElem? hqn)
    have Hqn := Lib.hid hqn
    clear h1 h3 h4 hn hix f1 f2 hR1 hR2 hqn
    go_enter Try.func35, Try.ntmps35
    go_wp2_with (first
      | ((with_reducible refine gate_box (T := 24) (x := .tmp 0) ?_); refine wpList_boxG rfl rfl rfl (cs := #[.pointer (some ⟨g, 0, none⟩)]) rfl ?_; intro g1 W1 e hn; have o1 := Own.made s e hn; replace s := s.new hn; clear e hn)
      | ((with_reducible refine gate_load (T := 24) ?_); refine wpList_loadCell rfl rfl rfl Try.underlying24 rfl o1.at_ rfl ?_)
      | ((with_reducible refine gate_load (T := 75) ?_); refine wpList_loadCell rfl rfl rfl Try.underlying75 rfl (s.inn.get hb) rfl ?_)
      | (go_at_call 48; refine (Hat.out _ s.inn).mono ?_; rw [hv.out]; rintro e W4 ⟨rfl, hb4⟩; replace s := s.quiet hb4; replace o1 := o1.quiet hb4; clear hb4)
      | ((with_reducible refine gate_alloc (T := 3) ?_); refine wpList_allocG rfl rfl zero_int1 (cs := #[.int .i64 0]) rfl ?_; intro g2 W2 e hn; have n12 := Lib.hid (o1.ne e); have o2 := Own.made s e hn; replace s := s.new hn; replace o1 := o1.new hn; clear e hn)
      | ((with_reducible refine gate_store (T := 3) ?_); refine wpList_storeAll rfl rfl rfl rfl (cs := #[.int .i64 (n : Nat)]) rfl o2.at_ rfl (by rw [size_int1]; rfl) (by simp [Value.oneCell']) ?_; intro W hu; replace s := s.upd o2 hu; replace o1 := o1.other hu n12.out; replace o2 := o2.upd hu; clear hu)
      | ((with_reducible refine gate_load (T := 3) ?_); refine wpList_loadCell rfl rfl rfl Try.underlying3 rfl o2.at_ rfl ?_)
      | (go_at_call 37; obtain ⟨K1, hE1, s1, hk1⟩ := s.shut2 o1 o2 n12.out; refine (change_restore K1 _ _ x true _ s1.inn (HS.out.ext hE1) hG (HSp.out.ext hE1) Hqn.out (hTq.ext hE1) hRq hlen hk1.1 hk1.2).mono ?_; rintro e W5 ⟨u, K2, rfl, hi, hl, hb, v', rfl, hr⟩; replace s1 := s1.call hi hl hb; clear hi hl hb)
      | fail)
    go_ret2
    rw [hres.out]
    exact s1.ret ⟨v', rfl, hr⟩
  · have hv : Hid (ixV Snp.num S.ss y = -1) := Lib.hid (by rw [ixV, hn, if_neg hlt])
    have hres : Hid (Asp.restore ⟨S.vs.map Vol.abs, S.ss.map Snp.abs⟩ x y = (⟨S.vs.map Vol.abs, S.ss.map Snp.abs⟩, 0, 12)) := Lib.hid (by
      refine restore_none ?_
      show (S.ss.map Snp.abs)[ixN AP.id (S.ss.map Snp.abs) y]? = _
      rw [hix, List.getElem?_eq_none (by rw [List.length_map]; omega)])
    clear h1 h3 h4 hn hix f1 f2 hR1 hR2
    go_enter Try.func35, Try.ntmps35
    go_wp2_with (first
      | ((with_reducible refine gate_box (T := 24) (x := .tmp 0) ?_); refine wpList_boxG rfl rfl rfl (cs := #[.pointer (some ⟨g, 0, none⟩)]) rfl ?_; intro g1 W1 e hn; have o1 := Own.made s e hn; replace s := s.new hn; clear e hn)
      | ((with_reducible refine gate_load (T := 24) ?_); refine wpList_loadCell rfl rfl rfl Try.underlying24 rfl o1.at_ rfl ?_)
      | ((with_reducible refine gate_load (T := 75) ?_); refine wpList_loadCell rfl rfl rfl Try.underlying75 rfl (s.inn.get hb) rfl ?_)
      | (go_at_call 48; refine (Hat.out _ s.inn).mono ?_; rw [hv.out]; rintro e W4 ⟨rfl, hb4⟩; replace s := s.quiet hb4; replace o1 := o1.quiet hb4; clear hb4)
      | ((with_reducible refine gate_alloc (T := 3) ?_); refine wpList_allocG rfl rfl zero_int1 (cs := #[.int .i64 0]) rfl ?_; intro g2 W2 e hn; have n12 := Lib.hid (o1.ne e); have o2 := Own.made s e hn; replace s := s.new hn; replace o1 := o1.new hn; clear e hn)
      | ((with_reducible refine gate_store (T := 3) ?_); refine wpList_storeAll rfl rfl rfl rfl (cs := #[.int .i64 (-1)]) rfl o2.at_ rfl (by rw [size_int1]; rfl) (by simp [Value.oneCell']) ?_; intro W hu; replace s := s.upd o2 hu; replace o1 := o1.other hu n12.out; replace o2 := o2.upd hu; clear hu)
      | ((with_reducible refine gate_load (T := 3) ?_); refine wpList_loadCell rfl rfl rfl Try.underlying3 rfl o2.at_ rfl ?_)
      | fail)
    go_ret2
    rw [hres.out]
    exact s.ret ⟨.pointer none, rfl, ⟨fun h => (by cases h), fun _ => rfl⟩⟩
end Go.Proofs.Ytdaagmhkhfcmdaa
