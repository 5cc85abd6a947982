/- The law VolumesSeparate. Written by gen_LwD.py. -/
import Derived.Test.YtdaagmhkhfcmdaaLvB
namespace Go.Proofs.Ytdaagmhkhfcmdaa
open Go Go.RowKit
set_option maxHeartbeats 400000

theorem Content_at (K : Fz) (v : Value) (A : Asp) (x : Int) (r : Ents × Int) (w : World) (hr : A.content x = r) (hK : K.In w) (hS : SpA K v A) (hG : Good A) :
    Calls Try.prog 18 #[v, .int .i64 x] w (Ret K w (ContR r)) := by subst hr; exact Content_ok K v A x w hK hS hG
theorem content_some {A : Asp} {x : Int} {y : AP} (h : lk AP.id A.vs x = some y) : A.content x = (y.L, 0) := by unfold Asp.content; rw [h]; rfl
theorem content_none {A : Asp} {x : Int} (h : lk AP.id A.vs x = none) : A.content x = ([], 12) := by unfold Asp.content; rw [h]; rfl
theorem tenant_some {A : Asp} {x : Int} {y : AP} (h : lk AP.id A.vs x = some y) : A.tenant x = y.ten := by unfold Asp.tenant; rw [h]
theorem tenant_at (K : Fz) (v : Value) (A : Asp) (x t : Int) (w : World) (ht : A.tenant x = t) (hK : K.In w) (hS : SpA K v A) (hG : Good A) :
    Calls Try.prog 21 #[v, .int .i64 x] w fun e w' => e = .returned (.int .i64 t) ∧ Below w.heap.size w w' := by subst ht; exact tenant_ok K v A x w hK hS hG
theorem maps_same (K : Fz) (sa sb : Value) (A : Ents) (w : World) (hK : K.In w) (hSa : SlK K 2 encE sa A) (hSb : SlK K 2 encE sb A) (hA : A.length ≤ 2000000) :
    Calls Try.prog 20 #[sa, sb] w fun e w' => e = .returned (.bool true) ∧ Below w.heap.size w w' := by
  have := maps_ok K sa sb A A w hK hSa hSb hA
  rwa [decide_eq_true rfl] at this

set_option maxRecDepth 100000 in
set_option maxHeartbeats 8000000 in
theorem Separate_ok (K : Fz) (sv : Value) (os : List Opn) (o : Opn) (x : Int) (w : World) (hK : K.In w) (hS : SlK K 4 encP1 sv os) :
    Calls Try.prog 6 #[sv, .agg (encP1 o).toArray, .int .i64 x] w fun e w' => e = .returned (.bool true) ∧ Below w.heap.size w w' := by
  obtain ⟨a, cap, rfl, hcap, hx⟩ := hS
  have Hx := Lib.hid hx
  clear hx
  obtain ⟨k, p, b, c⟩ := o
  show Calls Try.prog 6 #[_, .agg #[.int .i64 k, .int .i64 p, .int .i64 b, .int .i64 c], .int .i64 x] w _
  have s := St.start hK
  by_cases hlen : os.length ≤ 60
  · have hB : decide ((60 : Int) < (os.length : Nat)) = false := by simp; omega
    go_enter Try.func6, Try.ntmps6
    go_wp2_with (first
      | ((with_reducible refine gate_box (T := 30) (x := .tmp 1) ?_); refine wpList_boxG rfl rfl rfl (cs := #[.int .i64 k, .int .i64 p, .int .i64 b, .int .i64 c]) rfl ?_; intro g1 W1 e hn; have o1 := Own.made s e hn; replace s := s.new hn; clear e hn)
      | (go_at_call 10; refine (NewA_ok K _ s.inn).mono ?_; rintro e W1 ⟨v0, K1, rfl, hi, hl, hb, hS0⟩; have hE01 := Ext.of_le s.inn hl; replace o1 := o1.call hl hb; replace s := s.call hi hl hb; clear hi hl hb)
      | fail)
    obtain ⟨Kf, hEf, sf, hkf⟩ := s.shut o1
    replace hS0 := hS0.ext hEf
    replace hE01 := hE01.trans hEf
    clear s o1
    have s := sf
    clear sf
    go_loopw [7, 8] (fun v vi wr => ∃ (i : Nat) (K3 : Fz), i ≤ os.length ∧ vi = .int .i64 i ∧ St K w K3 wr ∧ Hid (Ext Kf K3) ∧ Hid (SpA K3 v (Asp.run ⟨[], []⟩ (os.take i)))) (fun _ vi _ => os.length - (intOf vi).toNat)
    case atStart => exact ⟨0, Kf, by omega, rfl, s, Lib.hid (Ext.refl _), Lib.hid hS0⟩
    case round =>
      clear s hS0
      obtain ⟨i, K3, hi, rfl, s, hE3, hSA⟩ := hrel
      obtain ⟨g3, rfl⟩ := SpA.ptr hSA.out
      by_cases hlt : i < os.length
      · obtain ⟨x, hx⟩ : ∃ x, os[i]? = some x := ⟨_, List.getElem?_eq_getElem hlt⟩
        obtain ⟨b, off, cs, ty, fr, rfl, hk, hj⟩ := Hx.out i x hx
        have Hj := Lib.hid hj
        have hk3 := hE3.out _ _ (hE01 _ _ hk)
        have hgood : Good (Asp.run ⟨[], []⟩ (os.take i)) := Good.nil.run _
        have hnext : Hid (((Asp.run ⟨[], []⟩ (os.take i)).step x).1 = Asp.run ⟨[], []⟩ (os.take (i + 1))) := Lib.hid (by rw [List.take_add_one, hx, Option.toList_some, run_snoc])
        obtain ⟨r, hr⟩ : ∃ r, (Asp.run ⟨[], []⟩ (os.take i)).step x = r := ⟨_, rfl⟩
        rw [hr] at hnext
        obtain ⟨rA, r1, r2⟩ := r
        have Hr := Lib.hid hr
        clear hx hj hk hr
        go_wp2_with (first
          | ((with_reducible refine gate_load (T := 30) ?_); refine wpList_loadAgg (vs := encP1 x) (off := off + i * 4) rfl rfl rfl Try.underlying30 rfl (s.inn.get hk3) (by rw [size_LOp]; rfl) (fun j u hu => Hj.out j u hu) ?_)
          | (go_at_call 11; refine (do_at K3 _ _ x _ _ Hr.out s.inn hSA.out hgood).mono ?_; rintro e W6 ⟨u6, K6, rfl, hi6, hl6, hb6, v6, rfl, hS6⟩; have hE6 := Ext.of_le s.inn hl6; replace s := s.call hi6 hl6 hb6; have HS6 := Lib.hid hS6; clear hi6 hl6 hb6 hS6)
          | fail)
        go_roundw
        case rel => exact ⟨i + 1, K6, by omega, by go_num, s, Lib.hid (hE3.out.trans hE6), Lib.hid (by rw [← hnext.out]; exact HS6.out)⟩
        case measure => simp [intOf]; omega
      · obtain rfl : i = os.length := by omega
        have hS3 : SpA K3 (.pointer (some ⟨g3, 0, none⟩)) (Asp.run ⟨[], []⟩ os) := by have := hSA.out; rwa [List.take_length] at this
        have HS3 := Lib.hid hS3
        have hE3' := hE3.out
        clear hSA hS3
        have hG : Good (Asp.run ⟨[], []⟩ os) := Good.nil.run os
        obtain ⟨A, hA⟩ : ∃ A, Asp.run ⟨[], []⟩ os = A := ⟨_, rfl⟩
        rw [hA] at HS3 hG
        replace hkf := hE3' _ _ hkf
        clear hA Hx hE3 hE3'
        cases hy : lk AP.id A.vs x with
        | none =>
          have Hc := Lib.hid (content_none hy)
          clear hy
          go_wp2_with (first
            | (go_at_call 18; refine (Content_at K3 _ A x _ _ Hc.out s.inn HS3.out hG).mono ?_; rintro e W7 ⟨u7, K7, rfl, hi, hl, hb, v7, rfl, hS7, _⟩; have hE7 := Ext.of_le s.inn hl; replace s := s.call hi hl hb; clear hi hl hb hS7)
            | (go_at_call 9; refine (lsanity_ok K7 _ s.inn).mono ?_; rintro e W9 ⟨rfl, hb9⟩; replace s := s.quiet hb9; clear hb9)
            | fail)
          go_ret
          exact ⟨rfl, s.below⟩
        | some y =>
          have Hc := Lib.hid (content_some hy)
          have hyl : y.L.length ≤ 4096 := goodE_len (hG.v.ents (lk_some hy).2)
          by_cases hbad : p = x ∧ (k = 2 ∨ k = 3 ∨ k = 4 ∨ k = 5 ∨ k = 9)
          · obtain ⟨rfl, hk⟩ := hbad
            clear hy
            rcases hk with rfl | rfl | rfl | rfl | rfl
            all_goals
              go_wp2_with (first
                | (go_at_call 18; refine (Content_at K3 _ A p _ _ Hc.out s.inn HS3.out hG).mono ?_; rintro e W7 ⟨u7, K7, rfl, hi, hl, hb, v7, rfl, hS7, _⟩; have hE7 := Ext.of_le s.inn hl; have hk7 := hE7 _ _ hkf; replace s := s.call hi hl hb; clear hi hl hb hS7)
                | ((with_reducible refine gate_load (T := 3) ?_); refine wpList_loadCellW rfl rfl rfl Try.underlying3 rfl (s.inn.get hk7) rfl ?_)
                | (go_at_call 9; refine (lsanity_ok K7 _ s.inn).mono ?_; rintro e W9 ⟨rfl, hb9⟩; replace s := s.quiet hb9; clear hb9)
                | fail)
              go_ret
              exact ⟨rfl, s.below⟩
          · obtain ⟨r, hr⟩ : ∃ r, A.step ⟨k, p, b, c⟩ = r := ⟨_, rfl⟩
            have hGr : Good r.1 := by rw [← hr]; exact hG.step _
            have hyr : lk AP.id r.1.vs x = some y := by rw [← hr]; exact step_other hG hy hbad
            have Hcr := Lib.hid (content_some hyr)
            have Ht := Lib.hid (tenant_some hy)
            have Htr := Lib.hid (tenant_some hyr)
            have Hr := Lib.hid hr
            obtain ⟨Ar, ir, er⟩ := r
            clear hy hyr hr
            obtain ⟨yt, hyt⟩ : ∃ yt, y.ten = yt := ⟨_, rfl⟩
            rw [hyt] at Ht Htr
            clear hyt
            by_cases hpx : p = x
            · subst hpx
              have hk2 : k ≠ 2 := fun h => hbad ⟨rfl, .inl h⟩
              have hk3 : k ≠ 3 := fun h => hbad ⟨rfl, .inr (.inl h)⟩
              have hk4 : k ≠ 4 := fun h => hbad ⟨rfl, .inr (.inr (.inl h))⟩
              have hk5 : k ≠ 5 := fun h => hbad ⟨rfl, .inr (.inr (.inr (.inl h)))⟩
              have hk9 : k ≠ 9 := fun h => hbad ⟨rfl, .inr (.inr (.inr (.inr h)))⟩
              have e2 : (k == 2) = false := by simp [hk2]
              have e3 : (k == 3) = false := by simp [hk3]
              have e4 : (k == 4) = false := by simp [hk4]
              have e5 : (k == 5) = false := by simp [hk5]
              have e9 : (k == 9) = false := by simp [hk9]
              clear hbad hk2 hk3 hk4 hk5 hk9
              go_wp2_with (first
                | (go_at_call 18; (with_reducible refine (Content_at K3 _ A p _ _ Hc.out s.inn HS3.out hG).mono ?_); rintro e W7 ⟨u7, K7, rfl, hi, hl, hb, v7, rfl, hS7, _⟩; have hE7 := Ext.of_le s.inn hl; have hk7 := hE7 _ _ hkf; replace s := s.call hi hl hb; have HS7 := Lib.hid hS7; clear hi hl hb hS7)
                | ((with_reducible refine gate_load (T := 3) ?_); refine wpList_loadCellW rfl rfl rfl Try.underlying3 rfl (s.inn.get hk7) rfl ?_)
                | ((with_reducible refine gate_load (T := 30) ?_); refine wpList_load_row rfl 30 _ rfl _ rfl 30 _ _ _ (s.inn.get hk7) Try.underlying30 rfl (by rw [size_LOp]; rfl) ?_)
                | (go_at_call 11; refine (do_lit K7 _ A k p b c _ _ Hr.out s.inn (HS3.out.ext hE7) hG).mono ?_; rintro e W8 ⟨u8, K8, rfl, hi, hl, hb, v8, rfl, hS8⟩; have hE8 := Ext.of_le s.inn hl; replace s := s.call hi hl hb; have HS8 := Lib.hid hS8; clear hi hl hb hS8)
                | (go_at_call 18; (with_reducible refine (Content_at K8 v8 Ar p _ _ Hcr.out s.inn HS8.out hGr).mono ?_); rintro e W10 ⟨u10, K10, rfl, hi, hl, hb, v10, rfl, hS10, _⟩; have hE10 := Ext.of_le s.inn hl; replace s := s.call hi hl hb; have HS10 := Lib.hid hS10; clear hi hl hb hS10)
                | (go_at_call 9; refine (lsanity_ok K10 _ s.inn).mono ?_; rintro e W9 ⟨rfl, hb9⟩; replace s := s.quiet hb9; clear hb9)
                | (go_at_call 20; refine (maps_same K10 v7 v10 y.L _ s.inn (HS7.out.keep (hE8.trans hE10)) HS10.out (by omega)).mono ?_; rintro e W11 ⟨rfl, hb⟩; replace s := s.quiet hb; clear hb)
                | (go_at_call 21; (with_reducible refine (tenant_at K10 v8 Ar p _ _ Htr.out s.inn (HS8.out.ext hE10) hGr).mono ?_); rintro e W12 ⟨rfl, hb⟩; replace s := s.quiet hb; clear hb)
                | (go_at_call 21; (with_reducible refine (tenant_at K10 _ A p _ _ Ht.out s.inn (HS3.out.ext (hE7.trans (hE8.trans hE10))) hG).mono ?_); rintro e W12 ⟨rfl, hb⟩; replace s := s.quiet hb; clear hb)
                | fail)
              go_ret
              exact ⟨rfl, s.below⟩
            · have epx : (p == x) = false := by simp [hpx]
              clear hbad hpx
              go_wp2_with (first
                | (go_at_call 18; (with_reducible refine (Content_at K3 _ A x _ _ Hc.out s.inn HS3.out hG).mono ?_); rintro e W7 ⟨u7, K7, rfl, hi, hl, hb, v7, rfl, hS7, _⟩; have hE7 := Ext.of_le s.inn hl; have hk7 := hE7 _ _ hkf; replace s := s.call hi hl hb; have HS7 := Lib.hid hS7; clear hi hl hb hS7)
                | ((with_reducible refine gate_load (T := 3) ?_); refine wpList_loadCellW rfl rfl rfl Try.underlying3 rfl (s.inn.get hk7) rfl ?_)
                | ((with_reducible refine gate_load (T := 30) ?_); refine wpList_load_row rfl 30 _ rfl _ rfl 30 _ _ _ (s.inn.get hk7) Try.underlying30 rfl (by rw [size_LOp]; rfl) ?_)
                | (go_at_call 11; refine (do_lit K7 _ A k p b c _ _ Hr.out s.inn (HS3.out.ext hE7) hG).mono ?_; rintro e W8 ⟨u8, K8, rfl, hi, hl, hb, v8, rfl, hS8⟩; have hE8 := Ext.of_le s.inn hl; replace s := s.call hi hl hb; have HS8 := Lib.hid hS8; clear hi hl hb hS8)
                | (go_at_call 18; (with_reducible refine (Content_at K8 v8 Ar x _ _ Hcr.out s.inn HS8.out hGr).mono ?_); rintro e W10 ⟨u10, K10, rfl, hi, hl, hb, v10, rfl, hS10, _⟩; have hE10 := Ext.of_le s.inn hl; replace s := s.call hi hl hb; have HS10 := Lib.hid hS10; clear hi hl hb hS10)
                | (go_at_call 9; refine (lsanity_ok K10 _ s.inn).mono ?_; rintro e W9 ⟨rfl, hb9⟩; replace s := s.quiet hb9; clear hb9)
                | (go_at_call 20; refine (maps_same K10 v7 v10 y.L _ s.inn (HS7.out.keep (hE8.trans hE10)) HS10.out (by omega)).mono ?_; rintro e W11 ⟨rfl, hb⟩; replace s := s.quiet hb; clear hb)
                | (go_at_call 21; (with_reducible refine (tenant_at K10 v8 Ar x _ _ Htr.out s.inn (HS8.out.ext hE10) hGr).mono ?_); rintro e W12 ⟨rfl, hb⟩; replace s := s.quiet hb; clear hb)
                | (go_at_call 21; (with_reducible refine (tenant_at K10 _ A x _ _ Ht.out s.inn (HS3.out.ext (hE7.trans (hE8.trans hE10))) hG).mono ?_); rintro e W12 ⟨rfl, hb⟩; replace s := s.quiet hb; clear hb)
                | fail)
              go_ret
              exact ⟨rfl, s.below⟩
  · have hB : decide ((60 : Int) < (os.length : Nat)) = true := by simp; omega
    go_enter Try.func6, Try.ntmps6
    go_wp2_with (first | ((with_reducible refine gate_box (T := 30) (x := .tmp 1) ?_); refine wpList_boxG rfl rfl rfl (cs := #[.int .i64 k, .int .i64 p, .int .i64 b, .int .i64 c]) rfl ?_; intro g1 W1 e hn; have o1 := Own.made s e hn; replace s := s.new hn; clear e hn) | (go_at_call 9; refine (lsanity_ok K _ s.inn).mono ?_; rintro e W9 ⟨rfl, hb9⟩; replace s := s.quiet hb9; clear hb9) | fail)
    go_ret
    exact ⟨rfl, s.below⟩
end Go.Proofs.Ytdaagmhkhfcmdaa
