/- The law VolumeSnapshotsStay. Written by gen_LwC.py. -/
import Derived.Test.YtdaagmhkhfcmdaaLvB
namespace Go.Proofs.Ytdaagmhkhfcmdaa
open Go Go.RowKit
set_option maxHeartbeats 400000

theorem cont_at (K : Fz) (v : Value) (A : Asp) (x : Int) (r : Ents × Int) (w : World) (hr : A.content x = r) (hK : K.In w) (hS : SpA K v A) (hG : Good A) :
    Calls Try.prog 18 #[v, .int .i64 x] w (Ret K w (ContR r)) := by subst hr; exact Content_ok K v A x w hK hS hG
theorem imag_at (K : Fz) (v : Value) (A : Asp) (x : Int) (r : Ents × Int) (w : World) (hr : A.image x = r) (hK : K.In w) (hS : SpA K v A) (hG : Good A) :
    Calls Try.prog 19 #[v, .int .i64 x] w (Ret K w (ContR r)) := by subst hr; exact Image_ok K v A x w hK hS hG
theorem cont_some {A : Asp} {x : Int} {y : AP} (h : lk AP.id A.vs x = some y) : A.content x = (y.L, 0) := by unfold Asp.content; rw [h]; rfl
theorem cont_none {A : Asp} {x : Int} (h : lk AP.id A.vs x = none) : A.content x = ([], 12) := by unfold Asp.content; rw [h]; rfl
theorem imag_some {A : Asp} {x : Int} {y : AP} (h : lk AP.id A.ss x = some y) : A.image x = (y.L, 0) := by unfold Asp.image; rw [h]; rfl
theorem SlK.extS {α : Type} {K K' : Fz} {n : Nat} {enc : α → List Value} {v : Value} {l : List α} (h : SlK K n enc v l) (hE : Ext K K') : SlK K' n enc v l := h.keep hE
theorem maps_one (K : Fz) (sa sb : Value) (A : Ents) (w : World) (hK : K.In w) (hSa : SlK K 2 encE sa A) (hSb : SlK K 2 encE sb A) (hA : A.length ≤ 2000000) :
    Calls Try.prog 20 #[sa, sb] w fun e w' => e = .returned (.bool true) ∧ Below w.heap.size w w' := by
  have := maps_ok K sa sb A A w hK hSa hSb hA
  rwa [decide_eq_true rfl] at this

set_option maxRecDepth 100000 in
set_option maxHeartbeats 8000000 in
theorem SnapshotsStay_ok (K : Fz) (sv : Value) (os : List Opn) (fr x : Int) (w : World) (hK : K.In w) (hS : SlK K 4 encP1 sv os) :
    Calls Try.prog 5 #[sv, .int .i64 fr, .int .i64 x] w fun e w' => e = .returned (.bool true) ∧ Below w.heap.size w w' := by
  obtain ⟨a, cap, rfl, hcap, hx⟩ := hS
  have Hx := Lib.hid hx
  clear hx
  have s := St.start hK
  by_cases hlen : os.length ≤ 60
  · have hB : decide ((60 : Int) < (os.length : Nat)) = false := by simp; omega
    by_cases hf0 : fr < 0
    · go_enter Try.func5, Try.ntmps5
      go_wp2_with (first | (go_at_call 9; refine (lsanity_ok K _ s.inn).mono ?_; rintro e W9 ⟨rfl, hb9⟩; replace s := s.quiet hb9; clear hb9) | fail)
      go_ret
      exact ⟨rfl, s.below⟩
    · by_cases hf1 : (os.length : Int) < fr
      · go_enter Try.func5, Try.ntmps5
        go_wp2_with (first | (go_at_call 9; refine (lsanity_ok K _ s.inn).mono ?_; rintro e W9 ⟨rfl, hb9⟩; replace s := s.quiet hb9; clear hb9) | fail)
        go_ret
        exact ⟨rfl, s.below⟩
      · obtain ⟨F, rfl⟩ : ∃ F : Nat, fr = F := ⟨fr.toNat, by omega⟩
        have hN : F ≤ os.length := by omega
        have hf2 : ¬ ((os.length : Int) < (F : Nat)) := hf1
        clear hf0 hf1
        go_enter Try.func5, Try.ntmps5
        go_wp2_with (first | (go_at_call 10; refine (NewA_ok K _ s.inn).mono ?_; rintro e W1 ⟨v0, K1, rfl, hi, hl, hb, hS0⟩; have hE01 := Ext.of_le s.inn hl; replace s := s.call hi hl hb; clear hi hl hb) | fail)
        go_loopw [7, 8] (fun v vi wr => ∃ (i : Nat) (K3 : Fz), i ≤ F ∧ vi = .int .i64 i ∧ St K w K3 wr ∧ Hid (Ext K1 K3) ∧ Hid (SpA K3 v (Asp.run ⟨[], []⟩ (os.take i)))) (fun _ vi _ => F - (intOf vi).toNat)
        case atStart => exact ⟨0, K1, by omega, rfl, s, Lib.hid (Ext.refl _), Lib.hid hS0⟩
        case round =>
          clear s hS0
          obtain ⟨i, K3, hi, rfl, s, hE3, hSA⟩ := hrel
          obtain ⟨g3, rfl⟩ := SpA.ptr hSA.out
          by_cases hlt : i < F
          · obtain ⟨x, hx⟩ : ∃ x, os[i]? = some x := ⟨_, List.getElem?_eq_getElem (by omega)⟩
            obtain ⟨b, off, cs, ty, fr, rfl, hk, hj⟩ := Hx.out i x hx
            have Hj := Lib.hid hj
            have hk3 := hE3.out _ _ (hE01 _ _ hk)
            have hgood : Good (Asp.run ⟨[], []⟩ (os.take i)) := Good.nil.run _
            have hnext : Hid (((Asp.run ⟨[], []⟩ (os.take i)).step x).1 = Asp.run ⟨[], []⟩ (os.take (i + 1))) := Lib.hid (by rw [List.take_add_one, hx, Option.toList_some, run_snoc])
            obtain ⟨r, hr⟩ : ∃ r, (Asp.run ⟨[], []⟩ (os.take i)).step x = r := ⟨_, rfl⟩
            rw [hr] at hnext
            obtain ⟨rA, r1, r2⟩ := r
            have Hr := Lib.hid hr
            have hlt2 : i < os.length := (by omega); clear hx hj hk hr
            go_wp2_with (first
              | ((with_reducible refine gate_load (T := 30) ?_); refine wpList_loadAgg (vs := encP1 x) (off := off + i * 4) rfl rfl rfl Try.underlying30 rfl (s.inn.get hk3) (by rw [size_LOp]; rfl) (fun j u hu => Hj.out j u hu) ?_)
              | (go_at_call 11; refine (do_at K3 _ _ x _ _ Hr.out s.inn hSA.out hgood).mono ?_; rintro e W6 ⟨u6, K6, rfl, hi6, hl6, hb6, v6, rfl, hS6⟩; have hE6 := Ext.of_le s.inn hl6; replace s := s.call hi6 hl6 hb6; have HS6 := Lib.hid hS6; clear hi6 hl6 hb6 hS6)
              | fail)
            go_roundw
            case rel => exact ⟨i + 1, K6, by omega, by go_num, s, Lib.hid (hE3.out.trans hE6), Lib.hid (by rw [← hnext.out]; exact HS6.out)⟩
            case measure => simp [intOf]; omega
          · obtain rfl : F = i := by omega
            have hS3 : SpA K3 (.pointer (some ⟨g3, 0, none⟩)) (Asp.run ⟨[], []⟩ (os.take F)) := hSA.out
            have HS3 := Lib.hid hS3
            have hE3' := hE3.out
            clear hSA hS3
            have hG : Good (Asp.run ⟨[], []⟩ (os.take F)) := Good.nil.run _
            obtain ⟨A, hA⟩ : ∃ A, Asp.run ⟨[], []⟩ (os.take F) = A := ⟨_, rfl⟩
            rw [hA] at HS3 hG
            clear hA hE3
            cases hy : lk AP.id A.vs x with
            | none =>
              have Hc := Lib.hid (cont_none hy)
              have hst : A.step ⟨6, x, 0, 0⟩ = (A, 0, 12) := snapshot_none hy
              have Hst := Lib.hid hst
              clear hy hst
              go_wp2_with (first
                | (go_at_call 18; refine (cont_at K3 _ A x _ _ Hc.out s.inn HS3.out hG).mono ?_; rintro e W7 ⟨u7, K7, rfl, hi, hl, hb, v7, rfl, hS7, _⟩; have hE7 := Ext.of_le s.inn hl; replace s := s.call hi hl hb; clear hi hl hb hS7)
                | (go_at_call 11; refine (do_lit K7 _ A 6 x 0 0 _ _ Hst.out s.inn (HS3.out.ext hE7) hG).mono ?_; rintro e W8 ⟨u8, K8, rfl, hi, hl, hb, v8, rfl, hS8⟩; have hE8 := Ext.of_le s.inn hl; replace s := s.call hi hl hb; clear hi hl hb hS8)
                | (go_at_call 9; refine (lsanity_ok K8 _ s.inn).mono ?_; rintro e W9 ⟨rfl, hb9⟩; replace s := s.quiet hb9; clear hb9)
                | fail)
              go_ret
              exact ⟨rfl, s.below⟩
            | some y =>
              have Hc := Lib.hid (cont_some hy)
              have hyl : y.L.length ≤ 4096 := goodE_len (hG.v.ents (lk_some hy).2)
              obtain ⟨r, hr⟩ : ∃ r, A.snapshot x = r := ⟨_, rfl⟩
              have hGr : Good r.1 := by rw [← hr]; exact hG.step ⟨6, x, 0, 0⟩
              have Hst : Hid (A.step ⟨6, x, 0, 0⟩ = r) := Lib.hid hr
              by_cases hok : r.2.2 = 0
              · obtain ⟨y', hy', hq⟩ := snapshot_ok hG (x := x) (by rw [hr]; exact hok)
                rw [hy] at hy'
                cases hy'
                rw [hr] at hq
                obtain ⟨Ar, sn, er⟩ := r
                obtain rfl : er = 0 := hok
                have hqs : lk AP.id Ar.ss sn = some ⟨sn, y.ten, x, y.L⟩ := hq
                have Hold := Lib.hid (imag_some hqs)
                have Hqs := Lib.hid hqs
                clear hy hr hq hqs
                go_wp2_with (first
                  | (go_at_call 18; (with_reducible refine (cont_at K3 _ A x _ _ Hc.out s.inn HS3.out hG).mono ?_); rintro e W7 ⟨u7, K7, rfl, hi, hl, hb, v7, rfl, hS7, _⟩; have hE7 := Ext.of_le s.inn hl; replace s := s.call hi hl hb; have HS7 := Lib.hid hS7; clear hi hl hb hS7)
                  | (go_at_call 11; refine (do_lit K7 _ A 6 x 0 0 _ _ Hst.out s.inn (HS3.out.ext hE7) hG).mono ?_; rintro e W8 ⟨u8, K8, rfl, hi, hl, hb, v8, rfl, hS8⟩; have hE8 := Ext.of_le s.inn hl; replace s := s.call hi hl hb; have HS8 := Lib.hid hS8; clear hi hl hb hS8)
                  | fail)
                go_loopw [11, 15] (fun v vi wr => ∃ (i : Nat) (K5 : Fz) (B : Asp), F ≤ i ∧ i ≤ os.length ∧ vi = .int .i64 i ∧ St K w K5 wr ∧ Hid (Ext K8 K5) ∧ Hid (SpA K5 v B) ∧ Hid (Good B) ∧ Hid (lk AP.id B.ss sn = some ⟨sn, y.ten, x, y.L⟩)) (fun _ vi _ => os.length - (intOf vi).toNat)
                case atStart => exact ⟨F, K8, Ar, Nat.le_refl _, hN, rfl, s, Lib.hid (Ext.refl _), HS8, Lib.hid hGr, Hqs⟩
                case round =>
                  clear s
                  obtain ⟨i, K5, B, hFi, hi, rfl, s, hE5, hSB, hGB, hlB⟩ := hrel
                  obtain ⟨g5, rfl⟩ := SpA.ptr hSB.out
                  by_cases hlt : i < os.length
                  · obtain ⟨o, ho⟩ : ∃ o, os[i]? = some o := ⟨_, List.getElem?_eq_getElem hlt⟩
                    obtain ⟨b, off, cs, ty, frz, rfl, hk, hj⟩ := Hx.out i o ho
                    have c0 := hj 0 _ rfl
                    have c1 := hj 1 _ rfl
                    have Hj := Lib.hid hj
                    have hk5 := hE5.out _ _ (hE8 _ _ (hE7 _ _ (hE3' _ _ (hE01 _ _ hk))))
                    clear ho hj hk
                    by_cases hd : o.kind = 7 ∧ o.a = sn
                    · have e1 : (o.kind == 7) = true := by simp [hd.1]
                      have e2 : (o.a == sn) = true := by simp [hd.2]
                      clear hd
                      go_wp2_with (first
                        | ((with_reducible refine gate_load (T := 3) (x := .tmp 84) ?_); refine wpList_loadCellW (off := off + i * 4) rfl rfl rfl Try.underlying3 rfl (s.inn.get hk5) c0 ?_)
                        | ((with_reducible refine gate_load (T := 3) (x := .tmp 91) ?_); refine wpList_loadCellW (off := off + i * 4 + 1) rfl rfl rfl Try.underlying3 rfl (s.inn.get hk5) c1 ?_)
                        | fail)
                      go_roundw
                      case rel => exact ⟨i + 1, K5, B, by omega, by omega, by go_num, s, hE5, hSB, hGB, hlB⟩
                      case measure => simp [intOf]; omega
                    · obtain ⟨q, hq⟩ : ∃ q, B.step o = q := ⟨_, rfl⟩
                      have hGq : Hid (Good q.1) := Lib.hid (by rw [← hq]; exact hGB.out.step o)
                      have hlq : Hid (lk AP.id q.1.ss sn = some ⟨sn, y.ten, x, y.L⟩) := Lib.hid (by rw [← hq]; exact step_snap hGB.out hlB.out hd)
                      have Hq := Lib.hid hq
                      obtain ⟨Bq, iq, eq⟩ := q
                      clear hq
                      by_cases h7 : o.kind = 7
                      · have e1 : (o.kind == 7) = true := by simp [h7]
                        have e2 : (o.a == sn) = false := by simp; exact fun h => hd ⟨h7, h⟩
                        clear hd h7
                        go_wp2_with (first
                          | ((with_reducible refine gate_load (T := 3) (x := .tmp 84) ?_); refine wpList_loadCellW (off := off + i * 4) rfl rfl rfl Try.underlying3 rfl (s.inn.get hk5) c0 ?_)
                          | ((with_reducible refine gate_load (T := 3) (x := .tmp 91) ?_); refine wpList_loadCellW (off := off + i * 4 + 1) rfl rfl rfl Try.underlying3 rfl (s.inn.get hk5) c1 ?_)
                          | ((with_reducible refine gate_load (T := 30) ?_); refine wpList_loadAgg (vs := encP1 o) (off := off + i * 4) rfl rfl rfl Try.underlying30 rfl (s.inn.get hk5) (by rw [size_LOp]; rfl) (fun j u hu => Hj.out j u hu) ?_)
                          | (go_at_call 11; refine (do_at K5 _ _ o _ _ Hq.out s.inn hSB.out hGB.out).mono ?_; rintro e W6 ⟨u6, K6, rfl, hi6, hl6, hb6, v6, rfl, hS6⟩; have hE6 := Ext.of_le s.inn hl6; replace s := s.call hi6 hl6 hb6; have HS6 := Lib.hid hS6; clear hi6 hl6 hb6 hS6)
                          | fail)
                        go_roundw
                        case rel => exact ⟨i + 1, K6, Bq, by omega, by omega, by go_num, s, Lib.hid (hE5.out.trans hE6), HS6, hGq, hlq⟩
                        case measure => simp [intOf]; omega
                      · have e1 : (o.kind == 7) = false := by simp [h7]
                        clear hd h7
                        go_wp2_with (first
                          | ((with_reducible refine gate_load (T := 3) (x := .tmp 84) ?_); refine wpList_loadCellW (off := off + i * 4) rfl rfl rfl Try.underlying3 rfl (s.inn.get hk5) c0 ?_)
                          | ((with_reducible refine gate_load (T := 3) (x := .tmp 91) ?_); refine wpList_loadCellW (off := off + i * 4 + 1) rfl rfl rfl Try.underlying3 rfl (s.inn.get hk5) c1 ?_)
                          | ((with_reducible refine gate_load (T := 30) ?_); refine wpList_loadAgg (vs := encP1 o) (off := off + i * 4) rfl rfl rfl Try.underlying30 rfl (s.inn.get hk5) (by rw [size_LOp]; rfl) (fun j u hu => Hj.out j u hu) ?_)
                          | (go_at_call 11; refine (do_at K5 _ _ o _ _ Hq.out s.inn hSB.out hGB.out).mono ?_; rintro e W6 ⟨u6, K6, rfl, hi6, hl6, hb6, v6, rfl, hS6⟩; have hE6 := Ext.of_le s.inn hl6; replace s := s.call hi6 hl6 hb6; have HS6 := Lib.hid hS6; clear hi6 hl6 hb6 hS6)
                          | fail)
                        go_roundw
                        case rel => exact ⟨i + 1, K6, Bq, by omega, by omega, by go_num, s, Lib.hid (hE5.out.trans hE6), HS6, hGq, hlq⟩
                        case measure => simp [intOf]; omega
                  · obtain rfl : i = os.length := by omega
                    have Hnow := Lib.hid (imag_some hlB.out)
                    have hGB' := hGB.out
                    have hE5' := hE5.out
                    clear hlB hGB hE5
                    go_wp2_with (first
                      | (go_at_call 19; (with_reducible refine (imag_at K5 (.pointer (some ⟨g5, 0, none⟩)) B sn _ _ Hnow.out s.inn hSB.out hGB').mono ?_); rintro e W9 ⟨u9, K9, rfl, hi, hl, hb, v9, rfl, hS9, _⟩; have hE9 := Ext.of_le s.inn hl; replace s := s.call hi hl hb; have HS9 := Lib.hid hS9; clear hi hl hb hS9)
                      | (go_at_call 19; (with_reducible refine (imag_at K9 v8 Ar sn _ _ Hold.out s.inn (HS8.out.ext (hE5'.trans hE9)) hGr).mono ?_); rintro e W10 ⟨u10, K10, rfl, hi, hl, hb, v10, rfl, hS10, _⟩; have hE10 := Ext.of_le s.inn hl; replace s := s.call hi hl hb; have HS10 := Lib.hid hS10; clear hi hl hb hS10)
                      | (go_at_call 18; (with_reducible refine (cont_at K10 _ A x _ _ Hc.out s.inn (HS3.out.ext (hE7.trans (hE8.trans (hE5'.trans (hE9.trans hE10))))) hG).mono ?_); rintro e W11 ⟨u11, K11, rfl, hi, hl, hb, v11, rfl, hS11, _⟩; have hE11 := Ext.of_le s.inn hl; replace s := s.call hi hl hb; have HS11 := Lib.hid hS11; clear hi hl hb hS11)
                      | (go_at_call 9; refine (lsanity_ok K11 _ s.inn).mono ?_; rintro e W9 ⟨rfl, hb9⟩; replace s := s.quiet hb9; clear hb9)
                      | (go_at_call 20; (with_reducible refine (maps_one K11 v9 v7 y.L _ s.inn (HS9.out.extS (hE10.trans hE11)) (HS7.out.extS (hE8.trans (hE5'.trans (hE9.trans (hE10.trans hE11))))) (by omega)).mono ?_); rintro e W12 ⟨rfl, hb⟩; replace s := s.quiet hb; clear hb)
                      | (go_at_call 20; (with_reducible refine (maps_one K11 v10 v7 y.L _ s.inn (HS10.out.extS hE11) (HS7.out.extS (hE8.trans (hE5'.trans (hE9.trans (hE10.trans hE11))))) (by omega)).mono ?_); rintro e W12 ⟨rfl, hb⟩; replace s := s.quiet hb; clear hb)
                      | (go_at_call 20; (with_reducible refine (maps_one K11 v11 v7 y.L _ s.inn HS11.out (HS7.out.extS (hE8.trans (hE5'.trans (hE9.trans (hE10.trans hE11))))) (by omega)).mono ?_); rintro e W12 ⟨rfl, hb⟩; replace s := s.quiet hb; clear hb)
                      | fail)
                    go_ret
                    exact ⟨rfl, s.below⟩
              · obtain ⟨Ar, sn, er⟩ := r
                have her : er ≠ 0 := hok
                have e1 : (er == 0) = false := by simp [her]
                have e2 : (er != 0) = true := by simp [her]
                clear hy hr hok her
                go_wp2_with (first
                  | (go_at_call 18; (with_reducible refine (cont_at K3 _ A x _ _ Hc.out s.inn HS3.out hG).mono ?_); rintro e W7 ⟨u7, K7, rfl, hi, hl, hb, v7, rfl, hS7, _⟩; have hE7 := Ext.of_le s.inn hl; replace s := s.call hi hl hb; clear hi hl hb hS7)
                  | (go_at_call 11; refine (do_lit K7 _ A 6 x 0 0 _ _ Hst.out s.inn (HS3.out.ext hE7) hG).mono ?_; rintro e W8 ⟨u8, K8, rfl, hi, hl, hb, v8, rfl, hS8⟩; have hE8 := Ext.of_le s.inn hl; replace s := s.call hi hl hb; clear hi hl hb hS8)
                  | (go_at_call 9; refine (lsanity_ok K8 _ s.inn).mono ?_; rintro e W9 ⟨rfl, hb9⟩; replace s := s.quiet hb9; clear hb9)
                  | fail)
                go_ret
                exact ⟨rfl, s.below⟩
  · have hB : decide ((60 : Int) < (os.length : Nat)) = true := by simp; omega
    go_enter Try.func5, Try.ntmps5
    go_wp2_with (first | (go_at_call 9; refine (lsanity_ok K _ s.inn).mono ?_; rintro e W9 ⟨rfl, hb9⟩; replace s := s.quiet hb9; clear hb9) | fail)
    go_ret
    exact ⟨rfl, s.below⟩
end Go.Proofs.Ytdaagmhkhfcmdaa
