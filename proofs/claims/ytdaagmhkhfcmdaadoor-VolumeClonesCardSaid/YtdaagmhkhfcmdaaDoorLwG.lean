/- The law VolumeClones. Written by gen_LwG.py. -/
import Derived.Test.YtdaagmhkhfcmdaaDoorGM
import Derived.Test.YtdaagmhkhfcmdaaDoorGQ
namespace Go.Proofs.YtdaagmhkhfcmdaaDoor
open Go Go.RowKit
set_option maxHeartbeats 400000

theorem cont_at (K : Fz) (v : Value) (A : Asp) (x : Int) (r : Ents × Int) (w : World) (hr : A.content x = r) (hK : K.In w) (hS : SpA K v A) (hG : Good A) :
    Calls Tryd.prog 8 #[v, .int .i64 x] w (Ret K w (ContR r)) := by subst hr; exact Content_ok K v A x w hK hS hG
theorem imag_at (K : Fz) (v : Value) (A : Asp) (x : Int) (r : Ents × Int) (w : World) (hr : A.image x = r) (hK : K.In w) (hS : SpA K v A) (hG : Good A) :
    Calls Tryd.prog 7 #[v, .int .i64 x] w (Ret K w (ContR r)) := by subst hr; exact Image_ok K v A x w hK hS hG
theorem diff_at (K : Fz) (v : Value) (A : Asp) (x z : Int) (r : List Nat × Int) (w : World) (hr : A.diff x z = r) (hK : K.In w) (hS : SpA K v A) (hG : Good A) (ht : Tab K) :
    Calls Tryd.prog 11 #[v, .int .i64 x, .int .i64 z] w (Ret K w (DifR r)) := by subst hr; exact vDiff_ok K v A x z w hK hS hG ht
theorem tenant_at (K : Fz) (v : Value) (A : Asp) (x t : Int) (w : World) (ht : A.tenant x = t) (hK : K.In w) (hS : SpA K v A) (hG : Good A) :
    Calls Tryd.prog 10 #[v, .int .i64 x] w fun e w' => e = .returned (.int .i64 t) ∧ Below w.heap.size w w' := by subst ht; exact tenant_ok K v A x w hK hS hG
theorem cont_some {A : Asp} {x : Int} {y : AP} (h : lk AP.id A.vs x = some y) : A.content x = (y.L, 0) := by unfold Asp.content; rw [h]; rfl
theorem imag_some {A : Asp} {x : Int} {y : AP} (h : lk AP.id A.ss x = some y) : A.image x = (y.L, 0) := by unfold Asp.image; rw [h]; rfl
theorem imag_none {A : Asp} {x : Int} (h : lk AP.id A.ss x = none) : A.image x = ([], 12) := by unfold Asp.image; rw [h]; rfl
theorem tenant_some {A : Asp} {x : Int} {y : AP} (h : lk AP.id A.vs x = some y) : A.tenant x = y.ten := by unfold Asp.tenant; rw [h]
theorem SlK.extS {α : Type} {K K' : Fz} {n : Nat} {enc : α → List Value} {v : Value} {l : List α} (h : SlK K n enc v l) (hE : Ext K K') : SlK K' n enc v l := h.keep hE
theorem maps_one (K : Fz) (sa sb : Value) (A : Ents) (w : World) (hK : K.In w) (hSa : SlK K 2 encE sa A) (hSb : SlK K 2 encE sb A) (hA : A.length ≤ 2000000) :
    Calls Tryd.prog 9 #[sa, sb] w fun e w' => e = .returned (.bool true) ∧ Below w.heap.size w w' := by
  have := maps_ok K sa sb A A w hK hSa hSb hA
  rwa [decide_eq_true rfl] at this
theorem restore_ok {A : Asp} {x u : Int} {y : AP} (hy : lk AP.id A.ss x = some y) (hok : (A.restore u x).2.2 = 0) :
    ∃ z, lk AP.id A.vs u = some z ∧ lk AP.id (A.restore u x).1.vs u = some { z with L := y.L } := by
  rw [restore_some hy] at hok ⊢
  cases hz : lk AP.id A.vs u with
  | none => rw [change_none hz] at hok; cases hok
  | some z =>
    refine ⟨z, rfl, ?_⟩
    rw [lk_change (g := AP.maps y.L) (fun a => rfl) hz, if_pos rfl]
    rfl
theorem diff_self {A : Asp} {x z : Int} {p q : AP} (hp : lk AP.id A.ss x = some p) (hq : lk AP.id A.ss z = some q) (h : p.L = q.L) : A.diff x z = ([], 0) := by
  unfold Asp.diff
  rw [hp, hq]
  show (dif p.L q.L, (0 : Int)) = _
  rw [h, dif_self]

set_option maxRecDepth 100000 in
set_option maxHeartbeats 16000000 in
theorem Clones_ok (K : Fz) (sv : Value) (os : List Opn) (x t u : Int) (w : World) (hK : K.In w) (hT : Tab K) (hS : SlK K 4 encP1 sv os) :
    Calls Tryd.prog 3 #[sv, .int .i64 x, .int .i64 t, .int .i64 u] w fun e w' => e = .returned (.bool true) ∧ Below w.heap.size w w' := by
  obtain ⟨a, cap, rfl, hcap, hx⟩ := hS
  have Hx := Lib.hid hx
  clear hx
  have s := St.start hK
  by_cases hlen : os.length ≤ 60
  · have hB : decide ((60 : Int) < (os.length : Nat)) = false := by simp; omega
    go_enter Tryd.func3, Tryd.ntmps3
    go_wp2_with (first | (go_at_call 5; refine (NewA_ok K _ s.inn).mono ?_; rintro e W1 ⟨v0, K1, rfl, hi, hl, hb, hS0⟩; have hE01 := Ext.of_le s.inn hl; replace s := s.call hi hl hb; clear hi hl hb) | fail)
    have hT1 := hT.ext hE01
    go_loopw [9, 10] (fun v vi wr => ∃ (i : Nat) (K3 : Fz), i ≤ os.length ∧ vi = .int .i64 i ∧ St K w K3 wr ∧ Hid (Ext K1 K3) ∧ Hid (SpA K3 v (Asp.run ⟨[], []⟩ (os.take i)))) (fun _ vi _ => os.length - (intOf vi).toNat)
    case atStart => exact ⟨0, K1, by omega, rfl, s, Lib.hid (Ext.refl _), Lib.hid hS0⟩
    case round =>
      clear s hS0
      obtain ⟨i, K3, hi, rfl, s, hE3, hSA⟩ := hrel
      obtain ⟨g3, rfl⟩ := SpA.ptr hSA.out
      by_cases hlt : i < os.length
      · obtain ⟨x, hx⟩ : ∃ x, os[i]? = some x := ⟨_, List.getElem?_eq_getElem hlt⟩
        obtain ⟨b, off, cs, ty, fr, rfl, hk, hj⟩ := Hx.out i x hx
        have Hj := Lib.hid hj
        have hk3 := hE3.out _ _ (hE01 _ _ hk)
        have hgood : Good (Asp.run ⟨[], []⟩ (os.take i)) := Good.nil.run _
        have hnext : Hid (((Asp.run ⟨[], []⟩ (os.take i)).step x).1 = Asp.run ⟨[], []⟩ (os.take (i + 1))) := Lib.hid (by rw [List.take_add_one, hx, Option.toList_some, run_snoc])
        obtain ⟨r, hr⟩ : ∃ r, (Asp.run ⟨[], []⟩ (os.take i)).step x = r := ⟨_, rfl⟩
        rw [hr] at hnext
        obtain ⟨rA, r1, r2⟩ := r
        have Hr := Lib.hid hr
        clear hx hj hk hr
        go_wp2_with (first
          | ((with_reducible refine gate_load (T := 30) ?_); refine wpList_loadAgg (vs := encP1 x) (off := off + i * 4) rfl rfl rfl Tryd.underlying30 rfl (s.inn.get hk3) (by rw [size_LOp]; rfl) (fun j u hu => Hj.out j u hu) ?_)
          | (go_at_call 6; refine (do_at K3 _ _ x _ _ Hr.out s.inn hSA.out hgood).mono ?_; rintro e W6 ⟨u6, K6, rfl, hi6, hl6, hb6, v6, rfl, hS6⟩; have hE6 := Ext.of_le s.inn hl6; replace s := s.call hi6 hl6 hb6; have HS6 := Lib.hid hS6; clear hi6 hl6 hb6 hS6)
          | fail)
        go_roundw
        case rel => exact ⟨i + 1, K6, by omega, by go_num, s, Lib.hid (hE3.out.trans hE6), Lib.hid (by rw [← hnext.out]; exact HS6.out)⟩
        case measure => simp [intOf]; omega
      · obtain rfl : i = os.length := by omega
        have hS3 : SpA K3 (.pointer (some ⟨g3, 0, none⟩)) (Asp.run ⟨[], []⟩ os) := by have := hSA.out; rwa [List.take_length] at this
        have HS3 := Lib.hid hS3
        have hE3' := hE3.out
        clear hSA hS3
        have hT3 := hT1.ext hE3'
        have hG : Good (Asp.run ⟨[], []⟩ os) := Good.nil.run _
        obtain ⟨A, hA⟩ : ∃ A, Asp.run ⟨[], []⟩ os = A := ⟨_, rfl⟩
        rw [hA] at HS3 hG
        clear hA hE3 Hx
        cases hy : lk AP.id A.ss x with
        | none =>
          have Hi := Lib.hid (imag_none hy)
          have hst : A.step ⟨8, x, t, 0⟩ = (A, 0, 12) := clone_none hy
          have Hst := Lib.hid hst
          clear hy hst
          go_wp2_with (first
            | (go_at_call 7; (with_reducible refine (imag_at K3 _ A x _ _ Hi.out s.inn HS3.out hG).mono ?_); rintro e W7 ⟨u7, K7, rfl, hi, hl, hb, v7, rfl, hS7, _⟩; have hE7 := Ext.of_le s.inn hl; replace s := s.call hi hl hb; have HS7 := Lib.hid hS7; clear hi hl hb hS7)
            | (go_at_call 6; (with_reducible refine (do_lit K7 _ A 8 x t 0 _ _ Hst.out s.inn (HS3.out.ext hE7) hG).mono ?_); rintro e W8 ⟨u8, K8, rfl, hi, hl, hb, v8, rfl, hS8⟩; have hE8 := Ext.of_le s.inn hl; replace s := s.call hi hl hb; have HS8 := Lib.hid hS8; clear hi hl hb hS8)
            | (go_at_call 4; refine (lsanity_ok K8 _ s.inn).mono ?_; rintro e W9 ⟨rfl, hb9⟩; replace s := s.quiet hb9; clear hb9)
            | fail)
          go_ret
          exact ⟨rfl, s.below⟩
        | some y =>
          have Hi := Lib.hid (imag_some hy)
          have hyl : y.L.length ≤ 4096 := goodE_len (hG.s.ents (lk_some hy).2)
          obtain ⟨r, hr⟩ : ∃ r, A.clone x t = r := ⟨_, rfl⟩
          have hGr : Good r.1 := by rw [← hr]; exact hG.step ⟨8, x, t, 0⟩
          have Hst : Hid (A.step ⟨8, x, t, 0⟩ = r) := Lib.hid hr
          by_cases hok : r.2.2 = 0
          · have hcr : A.create t y.L = r := by rw [← clone_some hy]; exact hr
            have hlk := create_ok hG (t := t) (L := y.L) (by rw [hcr]; exact hok)
            have hss : r.1.ss = A.ss := by rw [← hcr]; exact ss_create _ _ _
            rw [hcr] at hlk
            obtain ⟨Ar, id, er⟩ := r
            obtain rfl : er = 0 := hok
            have hlk : lk AP.id Ar.vs id = some ⟨id, t, 0, y.L⟩ := hlk
            have hss : Ar.ss = A.ss := hss
            have hyr : lk AP.id Ar.ss x = some y := by rw [hss]; exact hy
            have Hc := Lib.hid (cont_some hlk)
            have Ht := Lib.hid (tenant_some hlk)
            obtain ⟨q, hq⟩ : ∃ q, Ar.snapshot id = q := ⟨_, rfl⟩
            have hGq : Good q.1 := by rw [← hq]; exact hGr.step ⟨6, id, 0, 0⟩
            have Hsq : Hid (Ar.step ⟨6, id, 0, 0⟩ = q) := Lib.hid hq
            obtain ⟨p, hp⟩ : ∃ p, A.restore u x = p := ⟨_, rfl⟩
            have hGp : Good p.1 := by rw [← hp]; exact hG.step ⟨9, u, x, 0⟩
            have Hsp : Hid (A.step ⟨9, u, x, 0⟩ = p) := Lib.hid hp
            by_cases hq0 : q.2.2 = 0
            · obtain ⟨v', hv', hqs⟩ := snapshot_ok hGr (x := id) (by rw [hq]; exact hq0)
              rw [hlk] at hv'
              cases hv'
              have hxq := lk_snapshot hGr (x := id) hyr
              rw [hq] at hqs hxq
              obtain ⟨Aq, ag, eq⟩ := q
              obtain rfl : eq = 0 := hq0
              have Hdf := Lib.hid (diff_self hxq hqs rfl)
              by_cases hp0 : p.2.2 = 0
              · obtain ⟨z, hz, hzp⟩ := restore_ok hy (u := u) (by rw [hp]; exact hp0)
                rw [hp] at hzp
                obtain ⟨Ap, ip, ep⟩ := p
                obtain rfl : ep = 0 := hp0
                have hzp : lk AP.id Ap.vs u = some { z with L := y.L } := hzp
                have Hcp := Lib.hid (cont_some hzp)
                have Htp := Lib.hid (tenant_some hzp)
                have Hta := Lib.hid (tenant_some hz)
                clear hy hr hcr hlk hss hyr hq hqs hxq hp hz hzp
                go_wp2_with (first
                  | (go_at_call 7; (with_reducible refine (imag_at K3 _ A x _ _ Hi.out s.inn HS3.out hG).mono ?_); rintro e W7 ⟨u7, K7, rfl, hi, hl, hb, v7, rfl, hS7, _⟩; have hE7 := Ext.of_le s.inn hl; replace s := s.call hi hl hb; have HS7 := Lib.hid hS7; clear hi hl hb hS7)
                  | (go_at_call 6; (with_reducible refine (do_lit K7 _ A 8 x t 0 _ _ Hst.out s.inn (HS3.out.ext hE7) hG).mono ?_); rintro e W8 ⟨u8, K8, rfl, hi, hl, hb, v8, rfl, hS8⟩; have hE8 := Ext.of_le s.inn hl; replace s := s.call hi hl hb; have HS8 := Lib.hid hS8; clear hi hl hb hS8)
                  | (go_at_call 8; (with_reducible refine (cont_at K8 v8 Ar id _ _ Hc.out s.inn HS8.out hGr).mono ?_); rintro e W9 ⟨u9, K9, rfl, hi, hl, hb, v9, rfl, hS9, _⟩; have hE9 := Ext.of_le s.inn hl; replace s := s.call hi hl hb; have HS9 := Lib.hid hS9; clear hi hl hb hS9)
                  | (go_at_call 6; (with_reducible refine (do_lit K9 v8 Ar 6 id 0 0 _ _ Hsq.out s.inn (HS8.out.ext hE9) hGr).mono ?_); rintro e W10 ⟨u10, K10, rfl, hi, hl, hb, v10, rfl, hS10⟩; have hE10 := Ext.of_le s.inn hl; replace s := s.call hi hl hb; have HS10 := Lib.hid hS10; clear hi hl hb hS10)
                  | (go_at_call 9; (with_reducible refine (maps_one K10 v9 v7 y.L _ s.inn (HS9.out.extS hE10) (HS7.out.extS (hE8.trans (hE9.trans hE10))) (by omega)).mono ?_); rintro e W4 ⟨rfl, hb⟩; replace s := s.quiet hb; clear hb)
                  | (go_at_call 10; (with_reducible refine (tenant_at K10 v8 Ar id _ _ Ht.out s.inn (HS8.out.ext (hE9.trans hE10)) hGr).mono ?_); rintro e W4 ⟨rfl, hb⟩; replace s := s.quiet hb; clear hb)
                  | (go_at_call 11; (with_reducible refine (diff_at K10 v10 Aq x ag _ _ Hdf.out s.inn HS10.out hGq (hT3.ext (hE7.trans (hE8.trans (hE9.trans hE10))))).mono ?_); rintro e W11 ⟨u11, K11, rfl, hi, hl, hb, v11, rfl, a11, cap11, rfl, _, _⟩; have hE11 := Ext.of_le s.inn hl; replace s := s.call hi hl hb; clear hi hl hb)
                  | (go_at_call 6; (with_reducible refine (do_lit K11 (.pointer (some ⟨g3, 0, none⟩)) A 9 u x 0 _ _ Hsp.out s.inn (HS3.out.ext (hE7.trans (hE8.trans (hE9.trans (hE10.trans hE11))))) hG).mono ?_); rintro e W12 ⟨u12, K12, rfl, hi, hl, hb, v12, rfl, hS12⟩; have hE12 := Ext.of_le s.inn hl; replace s := s.call hi hl hb; have HS12 := Lib.hid hS12; clear hi hl hb hS12)
                  | (go_at_call 8; (with_reducible refine (cont_at K12 v12 Ap u _ _ Hcp.out s.inn HS12.out hGp).mono ?_); rintro e W13 ⟨u13, K13, rfl, hi, hl, hb, v13, rfl, hS13, _⟩; have hE13 := Ext.of_le s.inn hl; replace s := s.call hi hl hb; have HS13 := Lib.hid hS13; clear hi hl hb hS13)
                  | (go_at_call 4; refine (lsanity_ok K13 _ s.inn).mono ?_; rintro e W9 ⟨rfl, hb9⟩; replace s := s.quiet hb9; clear hb9)
                  | (go_at_call 9; (with_reducible refine (maps_one K13 v13 v7 y.L _ s.inn HS13.out (HS7.out.extS (hE8.trans (hE9.trans (hE10.trans (hE11.trans (hE12.trans hE13)))))) (by omega)).mono ?_); rintro e W4 ⟨rfl, hb⟩; replace s := s.quiet hb; clear hb)
                  | (go_at_call 10; (with_reducible refine (tenant_at K13 v12 Ap u _ _ Htp.out s.inn (HS12.out.ext hE13) hGp).mono ?_); rintro e W4 ⟨rfl, hb⟩; replace s := s.quiet hb; clear hb)
                  | (go_at_call 10; (with_reducible refine (tenant_at K13 (.pointer (some ⟨g3, 0, none⟩)) A u _ _ Hta.out s.inn (HS3.out.ext (hE7.trans (hE8.trans (hE9.trans (hE10.trans (hE11.trans (hE12.trans hE13))))))) hG).mono ?_); rintro e W4 ⟨rfl, hb⟩; replace s := s.quiet hb; clear hb)
                  | fail)
                go_ret
                exact ⟨rfl, s.below⟩
              · obtain ⟨Ap, ip, ep⟩ := p
                have hep : ep ≠ 0 := hp0
                have e3 : (ep == 0) = false := by simp [hep]
                have e4 : (ep != 0) = true := by simp [hep]
                clear hy hr hcr hlk hss hyr hq hqs hxq hp hp0 hep
                go_wp2_with (first
                  | (go_at_call 7; (with_reducible refine (imag_at K3 _ A x _ _ Hi.out s.inn HS3.out hG).mono ?_); rintro e W7 ⟨u7, K7, rfl, hi, hl, hb, v7, rfl, hS7, _⟩; have hE7 := Ext.of_le s.inn hl; replace s := s.call hi hl hb; have HS7 := Lib.hid hS7; clear hi hl hb hS7)
                  | (go_at_call 6; (with_reducible refine (do_lit K7 _ A 8 x t 0 _ _ Hst.out s.inn (HS3.out.ext hE7) hG).mono ?_); rintro e W8 ⟨u8, K8, rfl, hi, hl, hb, v8, rfl, hS8⟩; have hE8 := Ext.of_le s.inn hl; replace s := s.call hi hl hb; have HS8 := Lib.hid hS8; clear hi hl hb hS8)
                  | (go_at_call 8; (with_reducible refine (cont_at K8 v8 Ar id _ _ Hc.out s.inn HS8.out hGr).mono ?_); rintro e W9 ⟨u9, K9, rfl, hi, hl, hb, v9, rfl, hS9, _⟩; have hE9 := Ext.of_le s.inn hl; replace s := s.call hi hl hb; have HS9 := Lib.hid hS9; clear hi hl hb hS9)
                  | (go_at_call 6; (with_reducible refine (do_lit K9 v8 Ar 6 id 0 0 _ _ Hsq.out s.inn (HS8.out.ext hE9) hGr).mono ?_); rintro e W10 ⟨u10, K10, rfl, hi, hl, hb, v10, rfl, hS10⟩; have hE10 := Ext.of_le s.inn hl; replace s := s.call hi hl hb; have HS10 := Lib.hid hS10; clear hi hl hb hS10)
                  | (go_at_call 9; (with_reducible refine (maps_one K10 v9 v7 y.L _ s.inn (HS9.out.extS hE10) (HS7.out.extS (hE8.trans (hE9.trans hE10))) (by omega)).mono ?_); rintro e W4 ⟨rfl, hb⟩; replace s := s.quiet hb; clear hb)
                  | (go_at_call 10; (with_reducible refine (tenant_at K10 v8 Ar id _ _ Ht.out s.inn (HS8.out.ext (hE9.trans hE10)) hGr).mono ?_); rintro e W4 ⟨rfl, hb⟩; replace s := s.quiet hb; clear hb)
                  | (go_at_call 11; (with_reducible refine (diff_at K10 v10 Aq x ag _ _ Hdf.out s.inn HS10.out hGq (hT3.ext (hE7.trans (hE8.trans (hE9.trans hE10))))).mono ?_); rintro e W11 ⟨u11, K11, rfl, hi, hl, hb, v11, rfl, a11, cap11, rfl, _, _⟩; have hE11 := Ext.of_le s.inn hl; replace s := s.call hi hl hb; clear hi hl hb)
                  | (go_at_call 6; (with_reducible refine (do_lit K11 (.pointer (some ⟨g3, 0, none⟩)) A 9 u x 0 _ _ Hsp.out s.inn (HS3.out.ext (hE7.trans (hE8.trans (hE9.trans (hE10.trans hE11))))) hG).mono ?_); rintro e W12 ⟨u12, K12, rfl, hi, hl, hb, v12, rfl, hS12⟩; have hE12 := Ext.of_le s.inn hl; replace s := s.call hi hl hb; have HS12 := Lib.hid hS12; clear hi hl hb hS12)
                  | (go_at_call 4; refine (lsanity_ok K12 _ s.inn).mono ?_; rintro e W9 ⟨rfl, hb9⟩; replace s := s.quiet hb9; clear hb9)
                  | fail)
                go_ret
                exact ⟨rfl, s.below⟩
            · obtain ⟨Aq, ag, eq⟩ := q
              have heq : eq ≠ 0 := hq0
              have e1 : (eq == 0) = false := by simp [heq]
              have e2 : (eq != 0) = true := by simp [heq]
              by_cases hp0 : p.2.2 = 0
              · obtain ⟨z, hz, hzp⟩ := restore_ok hy (u := u) (by rw [hp]; exact hp0)
                rw [hp] at hzp
                obtain ⟨Ap, ip, ep⟩ := p
                obtain rfl : ep = 0 := hp0
                have hzp : lk AP.id Ap.vs u = some { z with L := y.L } := hzp
                have Hcp := Lib.hid (cont_some hzp)
                have Htp := Lib.hid (tenant_some hzp)
                have Hta := Lib.hid (tenant_some hz)
                clear hy hr hcr hlk hss hyr hq hp hz hzp heq hq0
                go_wp2_with (first
                  | (go_at_call 7; (with_reducible refine (imag_at K3 _ A x _ _ Hi.out s.inn HS3.out hG).mono ?_); rintro e W7 ⟨u7, K7, rfl, hi, hl, hb, v7, rfl, hS7, _⟩; have hE7 := Ext.of_le s.inn hl; replace s := s.call hi hl hb; have HS7 := Lib.hid hS7; clear hi hl hb hS7)
                  | (go_at_call 6; (with_reducible refine (do_lit K7 _ A 8 x t 0 _ _ Hst.out s.inn (HS3.out.ext hE7) hG).mono ?_); rintro e W8 ⟨u8, K8, rfl, hi, hl, hb, v8, rfl, hS8⟩; have hE8 := Ext.of_le s.inn hl; replace s := s.call hi hl hb; have HS8 := Lib.hid hS8; clear hi hl hb hS8)
                  | (go_at_call 8; (with_reducible refine (cont_at K8 v8 Ar id _ _ Hc.out s.inn HS8.out hGr).mono ?_); rintro e W9 ⟨u9, K9, rfl, hi, hl, hb, v9, rfl, hS9, _⟩; have hE9 := Ext.of_le s.inn hl; replace s := s.call hi hl hb; have HS9 := Lib.hid hS9; clear hi hl hb hS9)
                  | (go_at_call 6; (with_reducible refine (do_lit K9 v8 Ar 6 id 0 0 _ _ Hsq.out s.inn (HS8.out.ext hE9) hGr).mono ?_); rintro e W10 ⟨u10, K10, rfl, hi, hl, hb, v10, rfl, hS10⟩; have hE10 := Ext.of_le s.inn hl; replace s := s.call hi hl hb; have HS10 := Lib.hid hS10; clear hi hl hb hS10)
                  | (go_at_call 9; (with_reducible refine (maps_one K10 v9 v7 y.L _ s.inn (HS9.out.extS hE10) (HS7.out.extS (hE8.trans (hE9.trans hE10))) (by omega)).mono ?_); rintro e W4 ⟨rfl, hb⟩; replace s := s.quiet hb; clear hb)
                  | (go_at_call 10; (with_reducible refine (tenant_at K10 v8 Ar id _ _ Ht.out s.inn (HS8.out.ext (hE9.trans hE10)) hGr).mono ?_); rintro e W4 ⟨rfl, hb⟩; replace s := s.quiet hb; clear hb)
                  | (go_at_call 6; (with_reducible refine (do_lit K10 (.pointer (some ⟨g3, 0, none⟩)) A 9 u x 0 _ _ Hsp.out s.inn (HS3.out.ext (hE7.trans (hE8.trans (hE9.trans hE10)))) hG).mono ?_); rintro e W12 ⟨u12, K12, rfl, hi, hl, hb, v12, rfl, hS12⟩; have hE12 := Ext.of_le s.inn hl; replace s := s.call hi hl hb; have HS12 := Lib.hid hS12; clear hi hl hb hS12)
                  | (go_at_call 8; (with_reducible refine (cont_at K12 v12 Ap u _ _ Hcp.out s.inn HS12.out hGp).mono ?_); rintro e W13 ⟨u13, K13, rfl, hi, hl, hb, v13, rfl, hS13, _⟩; have hE13 := Ext.of_le s.inn hl; replace s := s.call hi hl hb; have HS13 := Lib.hid hS13; clear hi hl hb hS13)
                  | (go_at_call 4; refine (lsanity_ok K13 _ s.inn).mono ?_; rintro e W9 ⟨rfl, hb9⟩; replace s := s.quiet hb9; clear hb9)
                  | (go_at_call 9; (with_reducible refine (maps_one K13 v13 v7 y.L _ s.inn HS13.out (HS7.out.extS (hE8.trans (hE9.trans (hE10.trans (hE12.trans hE13))))) (by omega)).mono ?_); rintro e W4 ⟨rfl, hb⟩; replace s := s.quiet hb; clear hb)
                  | (go_at_call 10; (with_reducible refine (tenant_at K13 v12 Ap u _ _ Htp.out s.inn (HS12.out.ext hE13) hGp).mono ?_); rintro e W4 ⟨rfl, hb⟩; replace s := s.quiet hb; clear hb)
                  | (go_at_call 10; (with_reducible refine (tenant_at K13 (.pointer (some ⟨g3, 0, none⟩)) A u _ _ Hta.out s.inn (HS3.out.ext (hE7.trans (hE8.trans (hE9.trans (hE10.trans (hE12.trans hE13)))))) hG).mono ?_); rintro e W4 ⟨rfl, hb⟩; replace s := s.quiet hb; clear hb)
                  | fail)
                go_ret
                exact ⟨rfl, s.below⟩
              · obtain ⟨Ap, ip, ep⟩ := p
                have hep : ep ≠ 0 := hp0
                have e3 : (ep == 0) = false := by simp [hep]
                have e4 : (ep != 0) = true := by simp [hep]
                clear hy hr hcr hlk hss hyr hq hp hp0 hep heq hq0
                go_wp2_with (first
                  | (go_at_call 7; (with_reducible refine (imag_at K3 _ A x _ _ Hi.out s.inn HS3.out hG).mono ?_); rintro e W7 ⟨u7, K7, rfl, hi, hl, hb, v7, rfl, hS7, _⟩; have hE7 := Ext.of_le s.inn hl; replace s := s.call hi hl hb; have HS7 := Lib.hid hS7; clear hi hl hb hS7)
                  | (go_at_call 6; (with_reducible refine (do_lit K7 _ A 8 x t 0 _ _ Hst.out s.inn (HS3.out.ext hE7) hG).mono ?_); rintro e W8 ⟨u8, K8, rfl, hi, hl, hb, v8, rfl, hS8⟩; have hE8 := Ext.of_le s.inn hl; replace s := s.call hi hl hb; have HS8 := Lib.hid hS8; clear hi hl hb hS8)
                  | (go_at_call 8; (with_reducible refine (cont_at K8 v8 Ar id _ _ Hc.out s.inn HS8.out hGr).mono ?_); rintro e W9 ⟨u9, K9, rfl, hi, hl, hb, v9, rfl, hS9, _⟩; have hE9 := Ext.of_le s.inn hl; replace s := s.call hi hl hb; have HS9 := Lib.hid hS9; clear hi hl hb hS9)
                  | (go_at_call 6; (with_reducible refine (do_lit K9 v8 Ar 6 id 0 0 _ _ Hsq.out s.inn (HS8.out.ext hE9) hGr).mono ?_); rintro e W10 ⟨u10, K10, rfl, hi, hl, hb, v10, rfl, hS10⟩; have hE10 := Ext.of_le s.inn hl; replace s := s.call hi hl hb; have HS10 := Lib.hid hS10; clear hi hl hb hS10)
                  | (go_at_call 9; (with_reducible refine (maps_one K10 v9 v7 y.L _ s.inn (HS9.out.extS hE10) (HS7.out.extS (hE8.trans (hE9.trans hE10))) (by omega)).mono ?_); rintro e W4 ⟨rfl, hb⟩; replace s := s.quiet hb; clear hb)
                  | (go_at_call 10; (with_reducible refine (tenant_at K10 v8 Ar id _ _ Ht.out s.inn (HS8.out.ext (hE9.trans hE10)) hGr).mono ?_); rintro e W4 ⟨rfl, hb⟩; replace s := s.quiet hb; clear hb)
                  | (go_at_call 6; (with_reducible refine (do_lit K10 (.pointer (some ⟨g3, 0, none⟩)) A 9 u x 0 _ _ Hsp.out s.inn (HS3.out.ext (hE7.trans (hE8.trans (hE9.trans hE10)))) hG).mono ?_); rintro e W12 ⟨u12, K12, rfl, hi, hl, hb, v12, rfl, hS12⟩; have hE12 := Ext.of_le s.inn hl; replace s := s.call hi hl hb; have HS12 := Lib.hid hS12; clear hi hl hb hS12)
                  | (go_at_call 4; refine (lsanity_ok K12 _ s.inn).mono ?_; rintro e W9 ⟨rfl, hb9⟩; replace s := s.quiet hb9; clear hb9)
                  | fail)
                go_ret
                exact ⟨rfl, s.below⟩
          · obtain ⟨Ar, id, er⟩ := r
            have her : er ≠ 0 := hok
            have e1 : (er == 0) = false := by simp [her]
            have e2 : (er != 0) = true := by simp [her]
            clear hy hr hok her
            go_wp2_with (first
              | (go_at_call 7; (with_reducible refine (imag_at K3 _ A x _ _ Hi.out s.inn HS3.out hG).mono ?_); rintro e W7 ⟨u7, K7, rfl, hi, hl, hb, v7, rfl, hS7, _⟩; have hE7 := Ext.of_le s.inn hl; replace s := s.call hi hl hb; have HS7 := Lib.hid hS7; clear hi hl hb hS7)
              | (go_at_call 6; (with_reducible refine (do_lit K7 _ A 8 x t 0 _ _ Hst.out s.inn (HS3.out.ext hE7) hG).mono ?_); rintro e W8 ⟨u8, K8, rfl, hi, hl, hb, v8, rfl, hS8⟩; have hE8 := Ext.of_le s.inn hl; replace s := s.call hi hl hb; have HS8 := Lib.hid hS8; clear hi hl hb hS8)
              | (go_at_call 4; refine (lsanity_ok K8 _ s.inn).mono ?_; rintro e W9 ⟨rfl, hb9⟩; replace s := s.quiet hb9; clear hb9)
              | fail)
            go_ret
            exact ⟨rfl, s.below⟩
  · have hB : decide ((60 : Int) < (os.length : Nat)) = true := by simp; omega
    go_enter Tryd.func3, Tryd.ntmps3
    go_wp2_with (first | (go_at_call 4; refine (lsanity_ok K _ s.inn).mono ?_; rintro e W9 ⟨rfl, hb9⟩; replace s := s.quiet hb9; clear hb9) | fail)
    go_ret
    exact ⟨rfl, s.below⟩
end Go.Proofs.YtdaagmhkhfcmdaaDoor
