/- do: one operation of a script. Written by gen_VolV.py. -/
import Derived.Test.YtdaagmhkhfcmdaaVolU
namespace Go.Proofs.Ytdaagmhkhfcmdaa
open Go Go.RowKit
set_option maxHeartbeats 400000

theorem create_err {A : Asp} {t : Int} {L : Ents} (h : (A.create t L).2.2 ≠ 0) : (A.create t L).1 = A := by
  unfold Asp.create at h ⊢
  split
  · split
    · rename_i h1 h2; rw [if_pos h1, if_pos h2] at h; exact (h rfl).elim
    · rfl
  · rfl
theorem delete_err {A : Asp} {x : Int} (h : (A.delete x).2.2 ≠ 0) : (A.delete x).1 = A := by
  unfold Asp.delete at h ⊢
  split
  · rename_i h1; rw [if_pos h1] at h; exact (h rfl).elim
  · rfl
theorem drop_err {A : Asp} {x : Int} (h : (A.drop x).2.2 ≠ 0) : (A.drop x).1 = A := by
  unfold Asp.drop at h ⊢
  split
  · rename_i h1; rw [if_pos h1] at h; exact (h rfl).elim
  · rfl
theorem change_err {A : Asp} {x : Int} {ok : Bool} {f : AP → AP} (h : (A.change x ok f).2.2 ≠ 0) : (A.change x ok f).1 = A := by
  unfold Asp.change at h ⊢
  split
  · split
    · rename_i h1 h2; rw [if_pos h1, if_pos h2] at h; exact (h rfl).elim
    · rfl
  · rfl
theorem delete_id (A : Asp) (x : Int) : (A.delete x).2.1 = 0 := by unfold Asp.delete; split <;> rfl
theorem drop_id (A : Asp) (x : Int) : (A.drop x).2.1 = 0 := by unfold Asp.drop; split <;> rfl
theorem change_id (A : Asp) (x : Int) (ok : Bool) (f : AP → AP) : (A.change x ok f).2.1 = 0 := by
  unfold Asp.change
  split
  · split <;> rfl
  · rfl
theorem restore_id (A : Asp) (x y : Int) : (A.restore x y).2.1 = 0 := by
  unfold Asp.restore
  split
  · rfl
  · exact change_id _ _ _ _
theorem restore_err {A : Asp} {x y : Int} (h : (A.restore x y).2.2 ≠ 0) : (A.restore x y).1 = A := by
  unfold Asp.restore at h ⊢
  split
  · rfl
  · rename_i p hp
    rw [hp] at h
    exact change_err h
theorem clone_err {A : Asp} {x y : Int} (h : (A.clone x y).2.2 ≠ 0) : (A.clone x y).1 = A := by
  unfold Asp.clone at h ⊢
  split
  · rfl
  · rename_i p hp
    rw [hp] at h
    exact create_err h
theorem snapshot_err {A : Asp} {x : Int} (h : (A.snapshot x).2.2 ≠ 0) : (A.snapshot x).1 = A := by
  cases hv : lk AP.id A.vs x with
  | none => rw [snapshot_none hv]
  | some v =>
    rw [snapshot_some hv] at h ⊢
    split
    · rename_i h1; rw [if_pos h1] at h; exact (h rfl).elim
    · rfl

/-- What do leaves. -/
def Done (r : Asp × Int × Int) (K' : Fz) (u : Value) : Prop := ∃ v', u = .tuple #[v', .int .i64 r.2.1, .int .i64 r.2.2] ∧ SpA K' v' r.1

set_option maxRecDepth 100000 in
set_option maxHeartbeats 1000000 in
theorem do_1 (K : Fz) (v : Value) (A : Asp) (a b c : Int) (w : World) (hK : K.In w) (hS : SpA K v A) (hG : Good A) :
    Calls Try.prog 11 #[v, .agg #[.int .i64 1, .int .i64 a, .int .i64 b, .int .i64 c]] w (Ret K w (Done (A.step ⟨1, a, b, c⟩))) := by
  obtain ⟨r, hr⟩ : ∃ r, A.create a [] = r := ⟨_, rfl⟩
  have hst : A.step ⟨1, a, b, c⟩ = r := hr
  have herr : r.2.2 ≠ 0 → r.1 = A := by rw [← hr]; exact create_err
  rw [hst]
  have Hr := Lib.hid hr
  obtain ⟨A', i, e⟩ := r
  have s := St.start hK
  have HS := Lib.hid hS
  clear hS hr hst
  by_cases he : e = 0
  · subst he
    clear herr
    go_enter Try.func11, Try.ntmps11
    go_wp2_with (first
      | ((with_reducible refine gate_box (T := 30) (x := .tmp 1) ?_); refine wpList_boxG rfl rfl rfl (cs := #[.int .i64 1, .int .i64 a, .int .i64 b, .int .i64 c]) rfl ?_; intro g1 W1 e hn; have o1 := Own.made s e hn; replace s := s.new hn; clear e hn)
      | ((with_reducible refine gate_load (T := 3) ?_); refine wpList_loadCell rfl rfl rfl Try.underlying3 rfl o1.at_ rfl ?_)
      | (go_at_call 29; refine (Create_ok K v A a _ s.inn HS.out hG).mono ?_; rw [Hr.out]; rintro e W5 ⟨u, K2, rfl, hi, hl, hb, v', rfl, hres⟩; replace s := s.call hi hl hb; clear hi hl hb)
      | fail)
    go_ret3
    exact s.ret ⟨v', rfl, hres.1 rfl⟩
  · have HE : Hid (A' = A) := Lib.hid (herr he)
    clear herr
    go_enter Try.func11, Try.ntmps11
    go_wp2_with (first
      | ((with_reducible refine gate_box (T := 30) (x := .tmp 1) ?_); refine wpList_boxG rfl rfl rfl (cs := #[.int .i64 1, .int .i64 a, .int .i64 b, .int .i64 c]) rfl ?_; intro g1 W1 e hn; have o1 := Own.made s e hn; replace s := s.new hn; clear e hn)
      | ((with_reducible refine gate_load (T := 3) ?_); refine wpList_loadCell rfl rfl rfl Try.underlying3 rfl o1.at_ rfl ?_)
      | (go_at_call 29; refine (Create_ok K v A a _ s.inn HS.out hG).mono ?_; rw [Hr.out]; rintro e W5 ⟨u, K2, rfl, hi, hl, hb, v', rfl, hres⟩; have hE2 := Ext.of_le s.inn hl; replace s := s.call hi hl hb; clear hi hl hb)
      | fail)
    go_ret3
    exact s.ret ⟨v, rfl, (show SpA K2 v A' by rw [HE.out]; exact HS.out.ext hE2)⟩

set_option maxRecDepth 100000 in
set_option maxHeartbeats 1000000 in
theorem do_2 (K : Fz) (v : Value) (A : Asp) (a b c : Int) (w : World) (hK : K.In w) (hS : SpA K v A) (hG : Good A) :
    Calls Try.prog 11 #[v, .agg #[.int .i64 2, .int .i64 a, .int .i64 b, .int .i64 c]] w (Ret K w (Done (A.step ⟨2, a, b, c⟩))) := by
  obtain ⟨r, hr⟩ : ∃ r, A.delete a = r := ⟨_, rfl⟩
  have hst : A.step ⟨2, a, b, c⟩ = r := hr
  have herr : r.2.2 ≠ 0 → r.1 = A := by rw [← hr]; exact delete_err
  have hid : r.2.1 = 0 := by rw [← hr]; exact delete_id A a
  rw [hst]
  have Hr := Lib.hid hr
  obtain ⟨A', i, e⟩ := r
  have s := St.start hK
  have HS := Lib.hid hS
  clear hS hr hst
  by_cases he : e = 0
  · subst he
    clear herr
    go_enter Try.func11, Try.ntmps11
    go_wp2_with (first
      | ((with_reducible refine gate_box (T := 30) (x := .tmp 1) ?_); refine wpList_boxG rfl rfl rfl (cs := #[.int .i64 2, .int .i64 a, .int .i64 b, .int .i64 c]) rfl ?_; intro g1 W1 e hn; have o1 := Own.made s e hn; replace s := s.new hn; clear e hn)
      | ((with_reducible refine gate_load (T := 3) ?_); refine wpList_loadCell rfl rfl rfl Try.underlying3 rfl o1.at_ rfl ?_)
      | (go_at_call 30; refine (Delete_ok K v A a _ s.inn HS.out hG).mono ?_; rw [Hr.out]; rintro e W5 ⟨u, K2, rfl, hi, hl, hb, v', rfl, hres⟩; replace s := s.call hi hl hb; clear hi hl hb)
      | fail)
    go_ret3
    exact s.ret ⟨v', (by have h0 : i = 0 := hid; rw [h0]; rfl), hres.1 rfl⟩
  · have HE : Hid (A' = A) := Lib.hid (herr he)
    clear herr
    go_enter Try.func11, Try.ntmps11
    go_wp2_with (first
      | ((with_reducible refine gate_box (T := 30) (x := .tmp 1) ?_); refine wpList_boxG rfl rfl rfl (cs := #[.int .i64 2, .int .i64 a, .int .i64 b, .int .i64 c]) rfl ?_; intro g1 W1 e hn; have o1 := Own.made s e hn; replace s := s.new hn; clear e hn)
      | ((with_reducible refine gate_load (T := 3) ?_); refine wpList_loadCell rfl rfl rfl Try.underlying3 rfl o1.at_ rfl ?_)
      | (go_at_call 30; refine (Delete_ok K v A a _ s.inn HS.out hG).mono ?_; rw [Hr.out]; rintro e W5 ⟨u, K2, rfl, hi, hl, hb, v', rfl, hres⟩; have hE2 := Ext.of_le s.inn hl; replace s := s.call hi hl hb; clear hi hl hb)
      | fail)
    go_ret3
    exact s.ret ⟨v, (by have h0 : i = 0 := hid; rw [h0]; rfl), (show SpA K2 v A' by rw [HE.out]; exact HS.out.ext hE2)⟩

set_option maxRecDepth 100000 in
set_option maxHeartbeats 1000000 in
theorem do_3 (K : Fz) (v : Value) (A : Asp) (a b c : Int) (w : World) (hK : K.In w) (hS : SpA K v A) (hG : Good A) :
    Calls Try.prog 11 #[v, .agg #[.int .i64 3, .int .i64 a, .int .i64 b, .int .i64 c]] w (Ret K w (Done (A.step ⟨3, a, b, c⟩))) := by
  obtain ⟨r, hr⟩ : ∃ r, A.change a (tenB b) (AP.give b) = r := ⟨_, rfl⟩
  have hst : A.step ⟨3, a, b, c⟩ = r := hr
  have herr : r.2.2 ≠ 0 → r.1 = A := by rw [← hr]; exact change_err
  have hid : r.2.1 = 0 := by rw [← hr]; exact change_id A a _ _
  rw [hst]
  have Hr := Lib.hid hr
  obtain ⟨A', i, e⟩ := r
  have s := St.start hK
  have HS := Lib.hid hS
  clear hS hr hst
  by_cases he : e = 0
  · subst he
    clear herr
    go_enter Try.func11, Try.ntmps11
    go_wp2_with (first
      | ((with_reducible refine gate_box (T := 30) (x := .tmp 1) ?_); refine wpList_boxG rfl rfl rfl (cs := #[.int .i64 3, .int .i64 a, .int .i64 b, .int .i64 c]) rfl ?_; intro g1 W1 e hn; have o1 := Own.made s e hn; replace s := s.new hn; clear e hn)
      | ((with_reducible refine gate_load (T := 3) ?_); refine wpList_loadCell rfl rfl rfl Try.underlying3 rfl o1.at_ rfl ?_)
      | (go_at_call 31; refine (Give_ok K v A a b _ s.inn HS.out hG).mono ?_; rw [Hr.out]; rintro e W5 ⟨u, K2, rfl, hi, hl, hb, v', rfl, hres⟩; replace s := s.call hi hl hb; clear hi hl hb)
      | fail)
    go_ret3
    exact s.ret ⟨v', (by have h0 : i = 0 := hid; rw [h0]; rfl), hres.1 rfl⟩
  · have HE : Hid (A' = A) := Lib.hid (herr he)
    clear herr
    go_enter Try.func11, Try.ntmps11
    go_wp2_with (first
      | ((with_reducible refine gate_box (T := 30) (x := .tmp 1) ?_); refine wpList_boxG rfl rfl rfl (cs := #[.int .i64 3, .int .i64 a, .int .i64 b, .int .i64 c]) rfl ?_; intro g1 W1 e hn; have o1 := Own.made s e hn; replace s := s.new hn; clear e hn)
      | ((with_reducible refine gate_load (T := 3) ?_); refine wpList_loadCell rfl rfl rfl Try.underlying3 rfl o1.at_ rfl ?_)
      | (go_at_call 31; refine (Give_ok K v A a b _ s.inn HS.out hG).mono ?_; rw [Hr.out]; rintro e W5 ⟨u, K2, rfl, hi, hl, hb, v', rfl, hres⟩; have hE2 := Ext.of_le s.inn hl; replace s := s.call hi hl hb; clear hi hl hb)
      | fail)
    go_ret3
    exact s.ret ⟨v, (by have h0 : i = 0 := hid; rw [h0]; rfl), (show SpA K2 v A' by rw [HE.out]; exact HS.out.ext hE2)⟩

set_option maxRecDepth 100000 in
set_option maxHeartbeats 1000000 in
theorem do_4 (K : Fz) (v : Value) (A : Asp) (a b c : Int) (w : World) (hK : K.In w) (hS : SpA K v A) (hG : Good A) :
    Calls Try.prog 11 #[v, .agg #[.int .i64 4, .int .i64 a, .int .i64 b, .int .i64 c]] w (Ret K w (Done (A.step ⟨4, a, b, c⟩))) := by
  obtain ⟨r, hr⟩ : ∃ r, A.change a (blkB b && chkB c) (AP.map b c) = r := ⟨_, rfl⟩
  have hst : A.step ⟨4, a, b, c⟩ = r := hr
  have herr : r.2.2 ≠ 0 → r.1 = A := by rw [← hr]; exact change_err
  have hid : r.2.1 = 0 := by rw [← hr]; exact change_id A a _ _
  rw [hst]
  have Hr := Lib.hid hr
  obtain ⟨A', i, e⟩ := r
  have s := St.start hK
  have HS := Lib.hid hS
  clear hS hr hst
  by_cases he : e = 0
  · subst he
    clear herr
    go_enter Try.func11, Try.ntmps11
    go_wp2_with (first
      | ((with_reducible refine gate_box (T := 30) (x := .tmp 1) ?_); refine wpList_boxG rfl rfl rfl (cs := #[.int .i64 4, .int .i64 a, .int .i64 b, .int .i64 c]) rfl ?_; intro g1 W1 e hn; have o1 := Own.made s e hn; replace s := s.new hn; clear e hn)
      | ((with_reducible refine gate_load (T := 3) ?_); refine wpList_loadCell rfl rfl rfl Try.underlying3 rfl o1.at_ rfl ?_)
      | (go_at_call 12; refine (Map_ok K v A a b c _ s.inn HS.out hG).mono ?_; rw [Hr.out]; rintro e W5 ⟨u, K2, rfl, hi, hl, hb, v', rfl, hres⟩; replace s := s.call hi hl hb; clear hi hl hb)
      | fail)
    go_ret3
    exact s.ret ⟨v', (by have h0 : i = 0 := hid; rw [h0]; rfl), hres.1 rfl⟩
  · have HE : Hid (A' = A) := Lib.hid (herr he)
    clear herr
    go_enter Try.func11, Try.ntmps11
    go_wp2_with (first
      | ((with_reducible refine gate_box (T := 30) (x := .tmp 1) ?_); refine wpList_boxG rfl rfl rfl (cs := #[.int .i64 4, .int .i64 a, .int .i64 b, .int .i64 c]) rfl ?_; intro g1 W1 e hn; have o1 := Own.made s e hn; replace s := s.new hn; clear e hn)
      | ((with_reducible refine gate_load (T := 3) ?_); refine wpList_loadCell rfl rfl rfl Try.underlying3 rfl o1.at_ rfl ?_)
      | (go_at_call 12; refine (Map_ok K v A a b c _ s.inn HS.out hG).mono ?_; rw [Hr.out]; rintro e W5 ⟨u, K2, rfl, hi, hl, hb, v', rfl, hres⟩; have hE2 := Ext.of_le s.inn hl; replace s := s.call hi hl hb; clear hi hl hb)
      | fail)
    go_ret3
    exact s.ret ⟨v, (by have h0 : i = 0 := hid; rw [h0]; rfl), (show SpA K2 v A' by rw [HE.out]; exact HS.out.ext hE2)⟩

set_option maxRecDepth 100000 in
set_option maxHeartbeats 1000000 in
theorem do_5 (K : Fz) (v : Value) (A : Asp) (a b c : Int) (w : World) (hK : K.In w) (hS : SpA K v A) (hG : Good A) :
    Calls Try.prog 11 #[v, .agg #[.int .i64 5, .int .i64 a, .int .i64 b, .int .i64 c]] w (Ret K w (Done (A.step ⟨5, a, b, c⟩))) := by
  obtain ⟨r, hr⟩ : ∃ r, A.change a (blkB b) (AP.unmap b) = r := ⟨_, rfl⟩
  have hst : A.step ⟨5, a, b, c⟩ = r := hr
  have herr : r.2.2 ≠ 0 → r.1 = A := by rw [← hr]; exact change_err
  have hid : r.2.1 = 0 := by rw [← hr]; exact change_id A a _ _
  rw [hst]
  have Hr := Lib.hid hr
  obtain ⟨A', i, e⟩ := r
  have s := St.start hK
  have HS := Lib.hid hS
  clear hS hr hst
  by_cases he : e = 0
  · subst he
    clear herr
    go_enter Try.func11, Try.ntmps11
    go_wp2_with (first
      | ((with_reducible refine gate_box (T := 30) (x := .tmp 1) ?_); refine wpList_boxG rfl rfl rfl (cs := #[.int .i64 5, .int .i64 a, .int .i64 b, .int .i64 c]) rfl ?_; intro g1 W1 e hn; have o1 := Own.made s e hn; replace s := s.new hn; clear e hn)
      | ((with_reducible refine gate_load (T := 3) ?_); refine wpList_loadCell rfl rfl rfl Try.underlying3 rfl o1.at_ rfl ?_)
      | (go_at_call 13; refine (Unmap_ok K v A a b _ s.inn HS.out hG).mono ?_; rw [Hr.out]; rintro e W5 ⟨u, K2, rfl, hi, hl, hb, v', rfl, hres⟩; replace s := s.call hi hl hb; clear hi hl hb)
      | fail)
    go_ret3
    exact s.ret ⟨v', (by have h0 : i = 0 := hid; rw [h0]; rfl), hres.1 rfl⟩
  · have HE : Hid (A' = A) := Lib.hid (herr he)
    clear herr
    go_enter Try.func11, Try.ntmps11
    go_wp2_with (first
      | ((with_reducible refine gate_box (T := 30) (x := .tmp 1) ?_); refine wpList_boxG rfl rfl rfl (cs := #[.int .i64 5, .int .i64 a, .int .i64 b, .int .i64 c]) rfl ?_; intro g1 W1 e hn; have o1 := Own.made s e hn; replace s := s.new hn; clear e hn)
      | ((with_reducible refine gate_load (T := 3) ?_); refine wpList_loadCell rfl rfl rfl Try.underlying3 rfl o1.at_ rfl ?_)
      | (go_at_call 13; refine (Unmap_ok K v A a b _ s.inn HS.out hG).mono ?_; rw [Hr.out]; rintro e W5 ⟨u, K2, rfl, hi, hl, hb, v', rfl, hres⟩; have hE2 := Ext.of_le s.inn hl; replace s := s.call hi hl hb; clear hi hl hb)
      | fail)
    go_ret3
    exact s.ret ⟨v, (by have h0 : i = 0 := hid; rw [h0]; rfl), (show SpA K2 v A' by rw [HE.out]; exact HS.out.ext hE2)⟩

set_option maxRecDepth 100000 in
set_option maxHeartbeats 1000000 in
theorem do_6 (K : Fz) (v : Value) (A : Asp) (a b c : Int) (w : World) (hK : K.In w) (hS : SpA K v A) (hG : Good A) :
    Calls Try.prog 11 #[v, .agg #[.int .i64 6, .int .i64 a, .int .i64 b, .int .i64 c]] w (Ret K w (Done (A.step ⟨6, a, b, c⟩))) := by
  obtain ⟨r, hr⟩ : ∃ r, A.snapshot a = r := ⟨_, rfl⟩
  have hst : A.step ⟨6, a, b, c⟩ = r := hr
  have herr : r.2.2 ≠ 0 → r.1 = A := by rw [← hr]; exact snapshot_err
  rw [hst]
  have Hr := Lib.hid hr
  obtain ⟨A', i, e⟩ := r
  have s := St.start hK
  have HS := Lib.hid hS
  clear hS hr hst
  by_cases he : e = 0
  · subst he
    clear herr
    go_enter Try.func11, Try.ntmps11
    go_wp2_with (first
      | ((with_reducible refine gate_box (T := 30) (x := .tmp 1) ?_); refine wpList_boxG rfl rfl rfl (cs := #[.int .i64 6, .int .i64 a, .int .i64 b, .int .i64 c]) rfl ?_; intro g1 W1 e hn; have o1 := Own.made s e hn; replace s := s.new hn; clear e hn)
      | ((with_reducible refine gate_load (T := 3) ?_); refine wpList_loadCell rfl rfl rfl Try.underlying3 rfl o1.at_ rfl ?_)
      | (go_at_call 32; refine (Snapshot_ok K v A a _ s.inn HS.out hG).mono ?_; rw [Hr.out]; rintro e W5 ⟨u, K2, rfl, hi, hl, hb, v', rfl, hres⟩; replace s := s.call hi hl hb; clear hi hl hb)
      | fail)
    go_ret3
    exact s.ret ⟨v', rfl, hres.1 rfl⟩
  · have HE : Hid (A' = A) := Lib.hid (herr he)
    clear herr
    go_enter Try.func11, Try.ntmps11
    go_wp2_with (first
      | ((with_reducible refine gate_box (T := 30) (x := .tmp 1) ?_); refine wpList_boxG rfl rfl rfl (cs := #[.int .i64 6, .int .i64 a, .int .i64 b, .int .i64 c]) rfl ?_; intro g1 W1 e hn; have o1 := Own.made s e hn; replace s := s.new hn; clear e hn)
      | ((with_reducible refine gate_load (T := 3) ?_); refine wpList_loadCell rfl rfl rfl Try.underlying3 rfl o1.at_ rfl ?_)
      | (go_at_call 32; refine (Snapshot_ok K v A a _ s.inn HS.out hG).mono ?_; rw [Hr.out]; rintro e W5 ⟨u, K2, rfl, hi, hl, hb, v', rfl, hres⟩; have hE2 := Ext.of_le s.inn hl; replace s := s.call hi hl hb; clear hi hl hb)
      | fail)
    go_ret3
    exact s.ret ⟨v, rfl, (show SpA K2 v A' by rw [HE.out]; exact HS.out.ext hE2)⟩

set_option maxRecDepth 100000 in
set_option maxHeartbeats 1000000 in
theorem do_7 (K : Fz) (v : Value) (A : Asp) (a b c : Int) (w : World) (hK : K.In w) (hS : SpA K v A) (hG : Good A) :
    Calls Try.prog 11 #[v, .agg #[.int .i64 7, .int .i64 a, .int .i64 b, .int .i64 c]] w (Ret K w (Done (A.step ⟨7, a, b, c⟩))) := by
  obtain ⟨r, hr⟩ : ∃ r, A.drop a = r := ⟨_, rfl⟩
  have hst : A.step ⟨7, a, b, c⟩ = r := hr
  have herr : r.2.2 ≠ 0 → r.1 = A := by rw [← hr]; exact drop_err
  have hid : r.2.1 = 0 := by rw [← hr]; exact drop_id A a
  rw [hst]
  have Hr := Lib.hid hr
  obtain ⟨A', i, e⟩ := r
  have s := St.start hK
  have HS := Lib.hid hS
  clear hS hr hst
  by_cases he : e = 0
  · subst he
    clear herr
    go_enter Try.func11, Try.ntmps11
    go_wp2_with (first
      | ((with_reducible refine gate_box (T := 30) (x := .tmp 1) ?_); refine wpList_boxG rfl rfl rfl (cs := #[.int .i64 7, .int .i64 a, .int .i64 b, .int .i64 c]) rfl ?_; intro g1 W1 e hn; have o1 := Own.made s e hn; replace s := s.new hn; clear e hn)
      | ((with_reducible refine gate_load (T := 3) ?_); refine wpList_loadCell rfl rfl rfl Try.underlying3 rfl o1.at_ rfl ?_)
      | (go_at_call 33; refine (Drop_ok K v A a _ s.inn HS.out hG).mono ?_; rw [Hr.out]; rintro e W5 ⟨u, K2, rfl, hi, hl, hb, v', rfl, hres⟩; replace s := s.call hi hl hb; clear hi hl hb)
      | fail)
    go_ret3
    exact s.ret ⟨v', (by have h0 : i = 0 := hid; rw [h0]; rfl), hres.1 rfl⟩
  · have HE : Hid (A' = A) := Lib.hid (herr he)
    clear herr
    go_enter Try.func11, Try.ntmps11
    go_wp2_with (first
      | ((with_reducible refine gate_box (T := 30) (x := .tmp 1) ?_); refine wpList_boxG rfl rfl rfl (cs := #[.int .i64 7, .int .i64 a, .int .i64 b, .int .i64 c]) rfl ?_; intro g1 W1 e hn; have o1 := Own.made s e hn; replace s := s.new hn; clear e hn)
      | ((with_reducible refine gate_load (T := 3) ?_); refine wpList_loadCell rfl rfl rfl Try.underlying3 rfl o1.at_ rfl ?_)
      | (go_at_call 33; refine (Drop_ok K v A a _ s.inn HS.out hG).mono ?_; rw [Hr.out]; rintro e W5 ⟨u, K2, rfl, hi, hl, hb, v', rfl, hres⟩; have hE2 := Ext.of_le s.inn hl; replace s := s.call hi hl hb; clear hi hl hb)
      | fail)
    go_ret3
    exact s.ret ⟨v, (by have h0 : i = 0 := hid; rw [h0]; rfl), (show SpA K2 v A' by rw [HE.out]; exact HS.out.ext hE2)⟩

set_option maxRecDepth 100000 in
set_option maxHeartbeats 1000000 in
theorem do_8 (K : Fz) (v : Value) (A : Asp) (a b c : Int) (w : World) (hK : K.In w) (hS : SpA K v A) (hG : Good A) :
    Calls Try.prog 11 #[v, .agg #[.int .i64 8, .int .i64 a, .int .i64 b, .int .i64 c]] w (Ret K w (Done (A.step ⟨8, a, b, c⟩))) := by
  obtain ⟨r, hr⟩ : ∃ r, A.clone a b = r := ⟨_, rfl⟩
  have hst : A.step ⟨8, a, b, c⟩ = r := hr
  have herr : r.2.2 ≠ 0 → r.1 = A := by rw [← hr]; exact clone_err
  rw [hst]
  have Hr := Lib.hid hr
  obtain ⟨A', i, e⟩ := r
  have s := St.start hK
  have HS := Lib.hid hS
  clear hS hr hst
  by_cases he : e = 0
  · subst he
    clear herr
    go_enter Try.func11, Try.ntmps11
    go_wp2_with (first
      | ((with_reducible refine gate_box (T := 30) (x := .tmp 1) ?_); refine wpList_boxG rfl rfl rfl (cs := #[.int .i64 8, .int .i64 a, .int .i64 b, .int .i64 c]) rfl ?_; intro g1 W1 e hn; have o1 := Own.made s e hn; replace s := s.new hn; clear e hn)
      | ((with_reducible refine gate_load (T := 3) ?_); refine wpList_loadCell rfl rfl rfl Try.underlying3 rfl o1.at_ rfl ?_)
      | (go_at_call 34; refine (Clone_ok K v A a b _ s.inn HS.out hG).mono ?_; rw [Hr.out]; rintro e W5 ⟨u, K2, rfl, hi, hl, hb, v', rfl, hres⟩; replace s := s.call hi hl hb; clear hi hl hb)
      | fail)
    go_ret3
    exact s.ret ⟨v', rfl, hres.1 rfl⟩
  · have HE : Hid (A' = A) := Lib.hid (herr he)
    clear herr
    go_enter Try.func11, Try.ntmps11
    go_wp2_with (first
      | ((with_reducible refine gate_box (T := 30) (x := .tmp 1) ?_); refine wpList_boxG rfl rfl rfl (cs := #[.int .i64 8, .int .i64 a, .int .i64 b, .int .i64 c]) rfl ?_; intro g1 W1 e hn; have o1 := Own.made s e hn; replace s := s.new hn; clear e hn)
      | ((with_reducible refine gate_load (T := 3) ?_); refine wpList_loadCell rfl rfl rfl Try.underlying3 rfl o1.at_ rfl ?_)
      | (go_at_call 34; refine (Clone_ok K v A a b _ s.inn HS.out hG).mono ?_; rw [Hr.out]; rintro e W5 ⟨u, K2, rfl, hi, hl, hb, v', rfl, hres⟩; have hE2 := Ext.of_le s.inn hl; replace s := s.call hi hl hb; clear hi hl hb)
      | fail)
    go_ret3
    exact s.ret ⟨v, rfl, (show SpA K2 v A' by rw [HE.out]; exact HS.out.ext hE2)⟩

set_option maxRecDepth 100000 in
set_option maxHeartbeats 1000000 in
theorem do_9 (K : Fz) (v : Value) (A : Asp) (a b c : Int) (w : World) (hK : K.In w) (hS : SpA K v A) (hG : Good A) :
    Calls Try.prog 11 #[v, .agg #[.int .i64 9, .int .i64 a, .int .i64 b, .int .i64 c]] w (Ret K w (Done (A.step ⟨9, a, b, c⟩))) := by
  obtain ⟨r, hr⟩ : ∃ r, A.restore a b = r := ⟨_, rfl⟩
  have hst : A.step ⟨9, a, b, c⟩ = r := hr
  have herr : r.2.2 ≠ 0 → r.1 = A := by rw [← hr]; exact restore_err
  have hid : r.2.1 = 0 := by rw [← hr]; exact restore_id A a b
  rw [hst]
  have Hr := Lib.hid hr
  obtain ⟨A', i, e⟩ := r
  have s := St.start hK
  have HS := Lib.hid hS
  clear hS hr hst
  by_cases he : e = 0
  · subst he
    clear herr
    go_enter Try.func11, Try.ntmps11
    go_wp2_with (first
      | ((with_reducible refine gate_box (T := 30) (x := .tmp 1) ?_); refine wpList_boxG rfl rfl rfl (cs := #[.int .i64 9, .int .i64 a, .int .i64 b, .int .i64 c]) rfl ?_; intro g1 W1 e hn; have o1 := Own.made s e hn; replace s := s.new hn; clear e hn)
      | ((with_reducible refine gate_load (T := 3) ?_); refine wpList_loadCell rfl rfl rfl Try.underlying3 rfl o1.at_ rfl ?_)
      | (go_at_call 35; refine (Restore_ok K v A a b _ s.inn HS.out hG).mono ?_; rw [Hr.out]; rintro e W5 ⟨u, K2, rfl, hi, hl, hb, v', rfl, hres⟩; replace s := s.call hi hl hb; clear hi hl hb)
      | fail)
    go_ret3
    exact s.ret ⟨v', (by have h0 : i = 0 := hid; rw [h0]; rfl), hres.1 rfl⟩
  · have HE : Hid (A' = A) := Lib.hid (herr he)
    clear herr
    go_enter Try.func11, Try.ntmps11
    go_wp2_with (first
      | ((with_reducible refine gate_box (T := 30) (x := .tmp 1) ?_); refine wpList_boxG rfl rfl rfl (cs := #[.int .i64 9, .int .i64 a, .int .i64 b, .int .i64 c]) rfl ?_; intro g1 W1 e hn; have o1 := Own.made s e hn; replace s := s.new hn; clear e hn)
      | ((with_reducible refine gate_load (T := 3) ?_); refine wpList_loadCell rfl rfl rfl Try.underlying3 rfl o1.at_ rfl ?_)
      | (go_at_call 35; refine (Restore_ok K v A a b _ s.inn HS.out hG).mono ?_; rw [Hr.out]; rintro e W5 ⟨u, K2, rfl, hi, hl, hb, v', rfl, hres⟩; have hE2 := Ext.of_le s.inn hl; replace s := s.call hi hl hb; clear hi hl hb)
      | fail)
    go_ret3
    exact s.ret ⟨v, (by have h0 : i = 0 := hid; rw [h0]; rfl), (show SpA K2 v A' by rw [HE.out]; exact HS.out.ext hE2)⟩

set_option maxRecDepth 100000 in
set_option maxHeartbeats 1000000 in
theorem do_else (K : Fz) (v : Value) (A : Asp) (k a b c : Int) (w : World) (hK : K.In w) (hS : SpA K v A) (hG : Good A) (h1 : k ≠ 1) (h2 : k ≠ 2) (h3 : k ≠ 3) (h4 : k ≠ 4) (h5 : k ≠ 5) (h6 : k ≠ 6) (h7 : k ≠ 7) (h8 : k ≠ 8) (h9 : k ≠ 9) :
    Calls Try.prog 11 #[v, .agg #[.int .i64 k, .int .i64 a, .int .i64 b, .int .i64 c]] w (Ret K w (Done (A.step ⟨k, a, b, c⟩))) := by
  have hst : A.step ⟨k, a, b, c⟩ = (A, 0, 0) := by
    unfold Asp.step
    simp only [h1, h2, h3, h4, h5, h6, h7, h8, h9, if_false]
  rw [hst]
  have s := St.start hK
  have HS := Lib.hid hS
  clear hS hst
  go_enter Try.func11, Try.ntmps11
  go_wp2_with (first
    | ((with_reducible refine gate_box (T := 30) (x := .tmp 1) ?_); refine wpList_boxG rfl rfl rfl (cs := #[.int .i64 k, .int .i64 a, .int .i64 b, .int .i64 c]) rfl ?_; intro g1 W1 e hn; have o1 := Own.made s e hn; replace s := s.new hn; clear e hn)
    | ((with_reducible refine gate_load (T := 3) ?_); refine wpList_loadCell rfl rfl rfl Try.underlying3 rfl o1.at_ rfl ?_)
    | fail)
  go_ret3
  exact s.ret ⟨v, rfl, HS.out⟩

/-- An operation's cells. -/
def encP1 (o : Opn) : List Value := [.int .i64 o.kind, .int .i64 o.a, .int .i64 o.b, .int .i64 o.c]
theorem do_ok (K : Fz) (v : Value) (A : Asp) (o : Opn) (w : World) (hK : K.In w) (hS : SpA K v A) (hG : Good A) :
    Calls Try.prog 11 #[v, .agg (encP1 o).toArray] w (Ret K w (Done (A.step o))) := by
  obtain ⟨k, a, b, c⟩ := o
  show Calls Try.prog 11 #[v, .agg #[.int .i64 k, .int .i64 a, .int .i64 b, .int .i64 c]] w _
  by_cases h1 : k = 1
  · subst h1; exact do_1 K v A a b c w hK hS hG
  by_cases h2 : k = 2
  · subst h2; exact do_2 K v A a b c w hK hS hG
  by_cases h3 : k = 3
  · subst h3; exact do_3 K v A a b c w hK hS hG
  by_cases h4 : k = 4
  · subst h4; exact do_4 K v A a b c w hK hS hG
  by_cases h5 : k = 5
  · subst h5; exact do_5 K v A a b c w hK hS hG
  by_cases h6 : k = 6
  · subst h6; exact do_6 K v A a b c w hK hS hG
  by_cases h7 : k = 7
  · subst h7; exact do_7 K v A a b c w hK hS hG
  by_cases h8 : k = 8
  · subst h8; exact do_8 K v A a b c w hK hS hG
  by_cases h9 : k = 9
  · subst h9; exact do_9 K v A a b c w hK hS hG
  exact do_else K v A k a b c w hK hS hG h1 h2 h3 h4 h5 h6 h7 h8 h9
end Go.Proofs.Ytdaagmhkhfcmdaa
