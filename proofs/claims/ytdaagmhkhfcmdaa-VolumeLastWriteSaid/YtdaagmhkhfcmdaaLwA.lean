/- The law VolumeLastWrite. Written by gen_LwA.py. -/
import Derived.Test.YtdaagmhkhfcmdaaLvB
namespace Go.Proofs.Ytdaagmhkhfcmdaa
open Go Go.RowKit
set_option maxHeartbeats 400000

theorem change_zero {A : Asp} {x : Int} {ok : Bool} {g : AP → AP} (h : (A.change x ok g).2.2 = 0) : ok = true ∧ ∃ v, lk AP.id A.vs x = some v := by
  cases hv : lk AP.id A.vs x with
  | none => rw [change_none hv] at h; cases h
  | some v =>
    cases ok with
    | true => exact ⟨rfl, v, rfl⟩
    | false => rw [change_bad hv] at h; cases h
set_option maxRecDepth 100000 in
set_option maxHeartbeats 4000000 in
theorem LastWrite_ok (K : Fz) (sv : Value) (os : List Opn) (x b c z : Int) (w : World) (hK : K.In w) (hS : SlK K 4 encP1 sv os) :
    Calls Try.prog 3 #[sv, .int .i64 x, .int .i64 b, .int .i64 c, .int .i64 z] w fun e w' => e = .returned (.bool true) ∧ Below w.heap.size w w' := by
  obtain ⟨a, cap, rfl, hcap, hx⟩ := hS
  have Hx := Lib.hid hx
  clear hx
  have s := St.start hK
  by_cases hlen : os.length ≤ 60
  · have hB : decide ((60 : Int) < (os.length : Nat)) = false := by simp; omega
    by_cases hzb : z = b
    · subst hzb
      go_enter Try.func3, Try.ntmps3
      go_wp2_with (first | (go_at_call 9; refine (lsanity_ok K _ s.inn).mono ?_; rintro e W9 ⟨rfl, hb9⟩; replace s := s.quiet hb9; clear hb9) | fail)
      go_ret
      exact ⟨rfl, s.below⟩
    · have hzb1 : (z == b) = false := by simp [hzb]
      have Hzb := Lib.hid hzb
      clear hzb
      go_enter Try.func3, Try.ntmps3
      go_wp2_with (first | (go_at_call 10; refine (NewA_ok K _ s.inn).mono ?_; rintro e W1 ⟨v0, K1, rfl, hi, hl, hb, hS0⟩; have hE01 := Ext.of_le s.inn hl; replace s := s.call hi hl hb; clear hi hl hb) | fail)
      go_loopw [11, 12] (fun v vi wr => ∃ (i : Nat) (K3 : Fz), i ≤ os.length ∧ vi = .int .i64 i ∧ St K w K3 wr ∧ Hid (Ext K1 K3) ∧ Hid (SpA K3 v (Asp.run ⟨[], []⟩ (os.take i)))) (fun _ vi _ => os.length - (intOf vi).toNat)
      case atStart => exact ⟨0, K1, by omega, rfl, s, Lib.hid (Ext.refl _), Lib.hid hS0⟩
      case round =>
        clear s hS0
        obtain ⟨i, K3, hi, rfl, s, hE3, hSA⟩ := hrel
        obtain ⟨g3, rfl⟩ := SpA.ptr hSA.out
        by_cases hlt : i < os.length
        · obtain ⟨x, hx⟩ : ∃ x, os[i]? = some x := ⟨_, List.getElem?_eq_getElem hlt⟩
          obtain ⟨b, off, cs, ty, fr, rfl, hk, hj⟩ := Hx.out i x hx
          have Hj := Lib.hid hj
          have hk3 := hE3.out _ _ (hE01 _ _ hk)
          have hgood : Good (Asp.run ⟨[], []⟩ (os.take i)) := Good.nil.run _
          have hnext : Hid (((Asp.run ⟨[], []⟩ (os.take i)).step x).1 = Asp.run ⟨[], []⟩ (os.take (i + 1))) := Lib.hid (by rw [List.take_add_one, hx, Option.toList_some, run_snoc])
          obtain ⟨r, hr⟩ : ∃ r, (Asp.run ⟨[], []⟩ (os.take i)).step x = r := ⟨_, rfl⟩
          rw [hr] at hnext
          obtain ⟨rA, r1, r2⟩ := r
          have Hr := Lib.hid hr
          clear hx hj hk hr
          go_wp2_with (first
            | ((with_reducible refine gate_load (T := 30) ?_); refine wpList_loadAgg (vs := encP1 x) (off := off + i * 4) rfl rfl rfl Try.underlying30 rfl (s.inn.get hk3) (by rw [size_LOp]; rfl) (fun j u hu => Hj.out j u hu) ?_)
            | (go_at_call 11; refine (do_at K3 _ _ x _ _ Hr.out s.inn hSA.out hgood).mono ?_; rintro e W6 ⟨u6, K6, rfl, hi6, hl6, hb6, v6, rfl, hS6⟩; have hE6 := Ext.of_le s.inn hl6; replace s := s.call hi6 hl6 hb6; have HS6 := Lib.hid hS6; clear hi6 hl6 hb6 hS6)
            | fail)
          go_roundw
          case rel => exact ⟨i + 1, K6, by omega, by go_num, s, Lib.hid (hE3.out.trans hE6), Lib.hid (by rw [← hnext.out]; exact HS6.out)⟩
          case measure => simp [intOf]; omega
        · obtain rfl : i = os.length := by omega
          have hS3 : SpA K3 (.pointer (some ⟨g3, 0, none⟩)) (Asp.run ⟨[], []⟩ os) := by have := hSA.out; rwa [List.take_length] at this
          have HS3 := Lib.hid hS3
          have hE3' := hE3.out
          clear hSA hS3
          have hG : Good (Asp.run ⟨[], []⟩ os) := Good.nil.run os
          obtain ⟨A, hA⟩ : ∃ A, Asp.run ⟨[], []⟩ os = A := ⟨_, rfl⟩
          rw [hA] at HS3 hG
          obtain ⟨rm, hrm⟩ : ∃ rm, A.change x (blkB b && chkB c) (AP.map b c) = rm := ⟨_, rfl⟩
          obtain ⟨ru, hru⟩ : ∃ ru, A.change x (blkB b) (AP.unmap b) = ru := ⟨_, rfl⟩
          have Hrm := Lib.hid hrm
          have Hru := Lib.hid hru
          by_cases hem : rm.2.2 = 0
          · obtain ⟨hok, y, hy⟩ := change_zero (by rw [hrm]; exact hem)
            have hblk : blkB b = true := by simp only [Bool.and_eq_true] at hok; exact hok.1
            have hbr : 0 ≤ b ∧ b < 4096 := by simpa [blkB] using hblk
            have hsrt : Srt y.L := hG.v.srt y (lk_some hy).2
            have hGm : Good rm.1 := by have := hG.step ⟨4, x, b, c⟩; rwa [show A.step ⟨4, x, b, c⟩ = rm from hrm] at this
            have hGu : Good ru.1 := by have := hG.step ⟨5, x, b, c⟩; rwa [show A.step ⟨5, x, b, c⟩ = ru from hru] at this
            have g1 : Hid (rm.1.got x b = (c, 0)) := Lib.hid (by
              rw [← hrm, hok, got_eq, lk_change (g := AP.map b c) (fun _ => rfl) hy, if_pos rfl]
              show atE (rset y.L b c) b = _
              rw [atE_set hsrt hbr, if_pos rfl])
            have g2 : Hid (ru.1.got x b = (0, 12)) := Lib.hid (by
              rw [← hru, hblk, got_eq, lk_change (g := AP.unmap b) (fun _ => rfl) hy, if_pos rfl]
              show atE (rclr y.L b) b = _
              rw [atE_clr hsrt hbr, if_pos rfl])
            have g3' : Hid (ru.1.got x z = A.got x z) := Lib.hid (by
              rw [← hru, hblk, got_eq, got_eq, lk_change (g := AP.unmap b) (fun _ => rfl) hy, if_pos rfl, hy]
              show atE (rclr y.L b) z = atE y.L z
              rw [atE_clr hsrt hbr, if_neg Hzb.out])
            have g4 : Hid (rm.1.got x z = A.got x z) := Lib.hid (by
              rw [← hrm, hok, got_eq, got_eq, lk_change (g := AP.map b c) (fun _ => rfl) hy, if_pos rfl, hy]
              show atE (rset y.L b c) z = atE y.L z
              rw [atE_set hsrt hbr, if_neg Hzb.out])
            have hfu : ru.2.2 = 0 := by rw [← hru, hblk, change_some hy]
            obtain ⟨r, hr⟩ : ∃ r, A.got x z = r := ⟨_, rfl⟩
            rw [hr] at g3' g4
            have Hr := Lib.hid hr
            obtain ⟨Am, im, em⟩ := rm
            obtain ⟨Au, iu, eu⟩ := ru
            obtain rfl : em = 0 := hem
            obtain rfl : eu = 0 := hfu
            obtain ⟨r1, r2⟩ := r
            clear hA hrm hru hr hy hok hblk hsrt Hx
            go_wp2_with (first
              | (go_at_call 12; refine (Map_ok K3 _ A x b c _ s.inn HS3.out hG).mono ?_; rw [Hrm.out]; rintro e W7 ⟨u7, K7, rfl, hi, hl, hb, v7, rfl, hres7⟩; have hE7 := Ext.of_le s.inn hl; replace s := s.call hi hl hb; have HSm := Lib.hid (hres7.1 rfl); clear hi hl hb hres7)
              | (go_at_call 13; refine (Unmap_ok K7 _ A x b _ s.inn (HS3.out.ext hE7) hG).mono ?_; rw [Hru.out]; rintro e W8 ⟨u8, K8, rfl, hi, hl, hb, v8, rfl, hres8⟩; have hE8 := Ext.of_le s.inn hl; replace s := s.call hi hl hb; have HSu := Lib.hid (hres8.1 rfl); clear hi hl hb hres8)
              | (go_at_call 14; (with_reducible refine (GetA_at K8 v7 Am x b _ _ g1.out s.inn (HSm.out.ext hE8) hGm).mono ?_); rintro e W7 ⟨rfl, hb⟩; replace s := s.quiet hb; clear hb)
              | (go_at_call 14; (with_reducible refine (GetA_at K8 v8 Au x b _ _ g2.out s.inn HSu.out hGu).mono ?_); rintro e W7 ⟨rfl, hb⟩; replace s := s.quiet hb; clear hb)
              | (go_at_call 14; (with_reducible refine (GetA_at K8 v7 Am x z _ _ g4.out s.inn (HSm.out.ext hE8) hGm).mono ?_); rintro e W7 ⟨rfl, hb⟩; replace s := s.quiet hb; clear hb)
              | (go_at_call 14; (with_reducible refine (GetA_at K8 v8 Au x z _ _ g3'.out s.inn HSu.out hGu).mono ?_); rintro e W7 ⟨rfl, hb⟩; replace s := s.quiet hb; clear hb)
              | (go_at_call 14; (with_reducible refine (GetA_at K8 _ A x z _ _ Hr.out s.inn (HS3.out.ext (hE7.trans hE8)) hG).mono ?_); rintro e W7 ⟨rfl, hb⟩; replace s := s.quiet hb; clear hb)
              | (go_at_call 9; refine (lsanity_ok K8 _ s.inn).mono ?_; rintro e W9 ⟨rfl, hb9⟩; replace s := s.quiet hb9; clear hb9)
              | fail)
            go_ret
            exact ⟨rfl, s.below⟩
          · obtain ⟨Am, im, em⟩ := rm
            obtain ⟨Au, iu, eu⟩ := ru
            replace hem : em ≠ 0 := hem
            have hem1 : (em == 0) = false := by simp [hem]
            have hem2 : (em != 0) = true := by simp [hem]
            clear hA hrm hru Hx hem
            go_wp2_with (first
              | (go_at_call 12; refine (Map_ok K3 _ A x b c _ s.inn HS3.out hG).mono ?_; rw [Hrm.out]; rintro e W7 ⟨u7, K7, rfl, hi, hl, hb, v7, rfl, hres7⟩; have hE7 := Ext.of_le s.inn hl; replace s := s.call hi hl hb; clear hi hl hb hres7)
              | (go_at_call 13; refine (Unmap_ok K7 _ A x b _ s.inn (HS3.out.ext hE7) hG).mono ?_; rw [Hru.out]; rintro e W8 ⟨u8, K8, rfl, hi, hl, hb, v8, rfl, hres8⟩; have hE8 := Ext.of_le s.inn hl; replace s := s.call hi hl hb; clear hi hl hb hres8)
              | (go_at_call 9; refine (lsanity_ok K8 _ s.inn).mono ?_; rintro e W9 ⟨rfl, hb9⟩; replace s := s.quiet hb9; clear hb9)
              | fail)
            go_ret
            exact ⟨rfl, s.below⟩
  · have hB : decide ((60 : Int) < (os.length : Nat)) = true := by simp; omega
    go_enter Try.func3, Try.ntmps3
    go_wp2_with (first | (go_at_call 9; refine (lsanity_ok K _ s.inn).mono ?_; rintro e W9 ⟨rfl, hb9⟩; replace s := s.quiet hb9; clear hb9) | fail)
    go_ret
    exact ⟨rfl, s.below⟩
end Go.Proofs.Ytdaagmhkhfcmdaa
