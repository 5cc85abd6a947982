/- What the law TreeShares answers. -/
import Derived.Test.YtpfdlpniijgakaaDoorLawKit2
namespace Go.Proofs.YtpfdlpniijgakaaDoor
open Go Go.RowKit
set_option maxHeartbeats 400000

theorem size_ROp : (Tryd.prog.info? 38).map (·.size) = some 4 := by kernel_rfl

set_option maxRecDepth 100000 in
set_option maxHeartbeats 16000000 in
theorem Shares_ok (K : Fz) (sv : Value) (os : List Chg) (op : Chg) (w : World) (hK : K.In w) (ht : Tab K) (hS : SlK K 4 encO sv os) :
    Calls Tryd.prog 4 #[sv, .agg (encO op).toArray] w fun e w' => e = .returned (.bool true) ∧ Below w.heap.size w w' := by
  have HS := Lib.hid hS
  obtain ⟨a, cap, rfl, hcap, _⟩ := hS
  have s := St.start hK
  obtain ⟨fm, cl', blk, ch⟩ := op
  by_cases hlen : os.length ≤ 60
  · have hB : decide ((60 : Int) < (os.length : Nat)) = false := by simp; omega
    go_enter Tryd.func4, Tryd.ntmps4
    go_wp2_with (first
      | ((with_reducible refine gate_box (T := 38) ?_); refine wpList_boxG rfl rfl rfl (cs := (encO ⟨fm, cl', blk, ch⟩).toArray) rfl ?_; intro g3 W0 e hn; obtain ⟨K0, hE0, s0, hk3, _, _⟩ := s.box e hn; replace s := s0; clear hn e s0)
      | (go_at_call 9; refine (sanity_ok K0 _ s.inn (ht.ext hE0)).mono ?_; rintro e W1 ⟨rfl, hb⟩; replace s := s.quiet hb; clear hb)
      | (go_at_call 10; refine (play_ok K0 _ os _ s.inn (HS.out.keep hE0) (by omega)).mono ?_; rintro e W2 ⟨v1, K1, rfl, hi, hl, hb, ts, hSl, hTs, hV, hE1⟩; replace s := s.call hi hl hb; clear hi hl hb)
      | (go_at_call 11; refine (rPlay_ok K1 _ os _ s.inn (HS.out.keep (hE0.trans hE1)) (by omega)).mono ?_; rintro e W3 ⟨v2, K2, rfl, hi, hl, hb, svs, hSw, hA2, hE2⟩; replace s := s.call hi hl hb; clear hi hl hb)
      | fail)
    obtain ⟨al, cl, rfl, hcl, hxl⟩ := hSl
    obtain ⟨aw, cw, rfl, hcw, hxw⟩ := hSw
    have hlts : ts.length = os.length + 1 := hV.1
    have hlsv : svs.length = os.length + 1 := by rw [hA2.1, rplay_len]
    have Hxl := Lib.hid hxl
    have Hxw := Lib.hid hxw
    have HV := Lib.hid hV
    have HA := Lib.hid hA2
    have HTs := Lib.hid hTs
    have HE2 := Lib.hid hE2
    have Hlts := Lib.hid hlts
    have Hk3 : Hid (K2 g3 = some (.cells (encO ⟨fm, cl', blk, ch⟩).toArray 38 (0, 0))) := Lib.hid (hE2 _ _ (hE1 _ _ hk3))
    rw [hlts] at hcl ⊢
    rw [hlsv] at hcw ⊢
    clear hxl hxw hV hA2 hTs hE2 hE1 hlts hlsv hk3 hE0
    go_loopw [8] (fun vi wr => ∃ (i : Nat) (K3 : Fz), i ≤ os.length + 1 ∧ vi = .int .i64 i ∧ St K w K3 wr ∧ Hid (Ext K2 K3)) (fun vi _ => os.length + 1 - (intOf vi).toNat)
    case atStart => exact ⟨0, K2, by omega, rfl, s, Lib.hid (Ext.refl _)⟩
    case round =>
      clear s
      obtain ⟨i, K4, hi, rfl, s, HE⟩ := hrel
      by_cases hlt : i < os.length + 1
      · obtain ⟨x, L, hx, hL, hR, hLl⟩ := at_version HV.out (i := i) (by rw [Hlts.out]; exact hlt)
        obtain ⟨sv0, hs0, hS0, hF0⟩ := HA.out.at hL
        obtain ⟨bl, ofl, csl, tyl, frl, rfl, hkl, hjl⟩ := Hxl.out i x hx
        obtain ⟨bw, ofw, csw, tyw, frw, rfl, hkw, hjw⟩ := Hxw.out i sv0 hs0
        have hTx := (HTs.out x (List.mem_of_getElem? hx)).ext (HE2.out.trans HE.out)
        replace hkl := HE.out _ _ (HE2.out _ _ hkl)
        replace hkw := HE.out _ _ hkw
        have hk3 := HE.out _ _ Hk3.out
        have HS0 := Lib.hid (hS0.keep HE.out)
        have Hjl := Lib.hid hjl
        have Hjw := Lib.hid hjw
        have HR := Lib.hid hR
        have HF0 := Lib.hid hF0
        obtain ⟨hn0, hn1⟩ := hR.n_le
        clear hx hL hs0 hS0 hF0 hjl hjw hR
        go_wp2
        refine wp_region_run (m := 10) (n := 87) (I := fun K2 W => St K w K2 W) (K0 := K4)
          (ws := [.is (.slice (some ⟨bl, ofl, none⟩) (os.length + 1) cl), .is (.int .i64 (i : Nat)), .is (.pointer (some ⟨bl, ofl + i * 2, none⟩)), .is (.agg (encT x).toArray), .is (.pointer (some ⟨g3, 2, none⟩)), .is (.int .i64 blk), .is (.pointer (some ⟨g3, 3, none⟩)), .is (.int .i64 ch), .sat (ChgV 0 ⟨fm, false, blk, ch⟩ x), .sat (BoxV w.heap.size K4 #[.pointer none, .int .i64 0] 31)])
          mixed_ok (by kernel_rfl) rfl rfl ?monob9 s.drew ?_
        case monob9 =>
          simp only [List.forall_mem_cons]
          exact ⟨trivial, trivial, trivial, trivial, trivial, trivial, trivial, trivial, fun _ _ _ hE h => h.ext hE, fun _ _ _ hE h => h.ext hE, fun _ h => by cases h⟩
        apply RunAll.is_
        · intro K3 W3 hE3 hI3 hF3
          go_wp2
          exact step_end ⟨⟨K3, Ext.refl _, hI3⟩, rfl⟩
        · rfl
        apply RunAll.is_
        · intro K3 W3 hE3 hI3 hF3
          go_wp2
          exact step_end ⟨⟨K3, Ext.refl _, hI3⟩, rfl⟩
        · rfl
        apply RunAll.is_
        · intro K3 W3 hE3 hI3 hF3
          go_wp2
          exact step_end ⟨⟨K3, Ext.refl _, hI3⟩, rfl⟩
        · rfl
        apply RunAll.is_
        · intro K3 W3 hE3 hI3 hF3
          go_wp2_with (first | ((with_reducible refine gate_load (T := 31) ?_); refine wpList_loadAggW (vs := encT x) (off := ofl + i * 2) rfl rfl rfl Tryd.underlying31 rfl (hI3.inn.get (hE3 _ _ hkl)) (by kernel_rfl) (fun j u hu => Hjl.out j u hu) ?_) | fail)
          exact step_end ⟨⟨K3, Ext.refl _, hI3⟩, rfl⟩
        · rfl
        apply RunAll.is_
        · intro K3 W3 hE3 hI3 hF3
          go_wp2
          exact step_end ⟨⟨K3, Ext.refl _, hI3⟩, rfl⟩
        · rfl
        apply RunAll.is_
        · intro K3 W3 hE3 hI3 hF3
          go_wp2_with (first | ((with_reducible refine gate_load (T := 3) ?_); refine wpList_loadCell rfl rfl rfl Tryd.underlying3 rfl (hI3.inn.get (hE3 _ _ hk3)) rfl ?_) | fail)
          exact step_end ⟨⟨K3, Ext.refl _, hI3⟩, rfl⟩
        · rfl
        apply RunAll.is_
        · intro K3 W3 hE3 hI3 hF3
          go_wp2
          exact step_end ⟨⟨K3, Ext.refl _, hI3⟩, rfl⟩
        · rfl
        apply RunAll.is_
        · intro K3 W3 hE3 hI3 hF3
          go_wp2_with (first | ((with_reducible refine gate_load (T := 3) ?_); refine wpList_loadCell rfl rfl rfl Tryd.underlying3 rfl (hI3.inn.get (hE3 _ _ hk3)) rfl ?_) | fail)
          exact step_end ⟨⟨K3, Ext.refl _, hI3⟩, rfl⟩
        · rfl
        apply RunAll.sat_
        · intro K3 W3 hE3 hI3 hF3
          go_wp2_with (first | (go_at_call 14; refine (Set_ok K3 x.1 x.2 blk ch _ hI3.inn (hTx.ext hE3) (by omega) (by omega)).mono ?_; rintro e W4 ⟨v, K4', rfl, hi, hl, hb, hx4⟩) | fail)
          obtain ⟨t3, n3, hv3, ht3, hs3⟩ := hx4
          exact step_end ⟨v, K4', Ext.of_le hI3.inn hl, hI3.call hi hl hb, rfl, (t3, n3), W3.heap.size, hv3, ht3, Nat.zero_le _, (hTx.ext hE3).under hI3.inn, hs3⟩
        · intro v; rfl
        intro v8
        apply RunAll.sat_
        · intro K3 W3 hE3 hI3 hF3
          go_wp2_with (first | ((with_reducible refine gate_alloc (T := 31) ?_); refine wpList_allocG rfl rfl zero_Tree (cs := #[.pointer none, .int .i64 0]) rfl ?_; intro gb W4 e hn; obtain ⟨K5, hE5, s5, hkb, hgb, hgn⟩ := hI3.box e hn; clear hn e) | fail)
          generalize hgv : Value.pointer (some ⟨gb, 0, none⟩) = v10
          exact step_end ⟨v10, K5, hE5, s5, rfl, gb, hgv.symm, hkb, hgb, none_of_ext hE3 hgn⟩
        · intro v; rfl
        intro v9
        intro K5 W5 hE5 hI5 hF5
        obtain ⟨⟨_, y, m, rfl, hTy, _, huy, hsy⟩, g9, rfl, hk9, hg9, hg9n⟩ := hF5
        obtain ⟨s5, o9⟩ := hI5.thaw hk9 hg9
        have hEd : Ext K4 (K5.del g9) := hE5.del hg9n
        replace hTy := hTy.del hk9 (by decide)
        have Hsy := Lib.hid hsy
        have Huy := Lib.hid huy
        replace hk3 := hEd _ _ hk3
        replace hkl := hEd _ _ hkl
        replace hkw := hEd _ _ hkw
        replace hTx := hTx.ext hEd
        replace HS0 := Lib.hid (HS0.out.keep hEd)
        replace HE := Lib.hid (HE.out.trans hEd)
        clear hk9 hsy huy hEd hE5 hI5 hg9n
        generalize K5.del g9 = K6 at *
        change wpList _ _ _ (List.cons _ _) _ _
        have cf := (s5.inn.cell hk3 1)
        cases cl' with
        | false =>
          have cg : W5.cell? ⟨g3, 1, none⟩ = some (.bool false) := cf
          clear cf
          go_wp2_with (first
            | ((with_reducible refine gate_store (T := 31) ?_); refine wpList_storeAll rfl rfl rfl rfl (cs := #[.pointer y.1.ptr, .int .i64 y.2]) rfl o9.at_ rfl (by rw [size_Tree]; rfl) (by simp [Value.oneCell']) ?_; intro W7 hu; replace s5 := s5.upd o9 hu; replace o9 := o9.upd hu; clear hu cg; have cg := (s5.inn.cell hk3 1))
            | ((with_reducible refine gate_load (T := 4) ?_); refine wpList_loadCell rfl rfl rfl Tryd.underlying4 rfl (s5.inn.get hk3) rfl ?_)
            | fail)
          clear cg
          obtain ⟨K7, hE7, s7, hk9⟩ := s5.shut o9
          have HRy := Lib.hid (HR.out.step (x := x) Huy.out Hsy.out)
          replace hTy := hTy.ext hE7
          replace hTx := hTx.ext hE7
          replace hk3 := hE7 _ _ hk3
          replace hkl := hE7 _ _ hkl
          replace hkw := hE7 _ _ hkw
          replace HS0 := Lib.hid (HS0.out.keep hE7)
          replace HE := Lib.hid (HE.out.trans hE7)
          have hLy : (rdo L ⟨fm, false, blk, ch⟩).length ≤ 61 := by have := rdo_len L ⟨fm, false, blk, ch⟩; omega
          clear s5 o9 hE7
          refine wp_region_run (m := 7) (n := 87) (I := fun K2 W => St K w K2 W) (K0 := K7)
            (ws := [.is (.slice (some ⟨bw, ofw, none⟩) (os.length + 1) cw), .is (.int .i64 (i : Nat)), .is (.pointer (some ⟨bw, ofw + i, none⟩)), .is (.agg #[sv0]), .is (.agg (encO ⟨fm, false, blk, ch⟩).toArray), .sat (fun K v => RT K v (rdo L ⟨fm, false, blk, ch⟩)), .sat (BoxV w.heap.size K7 #[.slice none 0 0] 35)])
            mixed_ok (by kernel_rfl) rfl rfl ?monobf12 s7.drew ?_
          case monobf12 =>
            simp only [List.forall_mem_cons]
            exact ⟨trivial, trivial, trivial, trivial, trivial, fun _ _ _ hE h => h.ext hE, fun _ _ _ hE h => h.ext hE, fun _ h => by cases h⟩
          apply RunAll.is_
          · intro K3 W3 hE3 hI3 hF3
            go_wp2
            exact step_end ⟨⟨K3, Ext.refl _, hI3⟩, rfl⟩
          · rfl
          apply RunAll.is_
          · intro K3 W3 hE3 hI3 hF3
            go_wp2
            exact step_end ⟨⟨K3, Ext.refl _, hI3⟩, rfl⟩
          · rfl
          apply RunAll.is_
          · intro K3 W3 hE3 hI3 hF3
            go_wp2
            exact step_end ⟨⟨K3, Ext.refl _, hI3⟩, rfl⟩
          · rfl
          apply RunAll.is_
          · intro K3 W3 hE3 hI3 hF3
            go_wp2_with (first | ((with_reducible refine gate_load (T := 35) ?_); refine wpList_loadAggW (vs := [sv0]) (off := ofw + i) rfl rfl rfl Tryd.underlying35 rfl (hI3.inn.get (hE3 _ _ hkw)) (by kernel_rfl) (fun j u hu => by have := Hjw.out j u hu; rwa [Nat.mul_one] at this) ?_) | fail)
            exact step_end ⟨⟨K3, Ext.refl _, hI3⟩, rfl⟩
          · rfl
          apply RunAll.is_
          · intro K3 W3 hE3 hI3 hF3
            go_wp2_with (first | ((with_reducible refine gate_load (T := 38) ?_); refine wpList_loadAggW (vs := encO ⟨fm, false, blk, ch⟩) (off := 0) rfl rfl rfl Tryd.underlying38 rfl (hI3.inn.get (hE3 _ _ hk3)) (by kernel_rfl) (fun j u hu => by rw [Nat.zero_add]; simpa using hu) ?_) | fail)
            exact step_end ⟨⟨K3, Ext.refl _, hI3⟩, rfl⟩
          · rfl
          apply RunAll.sat_
          · intro K3 W3 hE3 hI3 hF3
            go_wp2_with (first | (go_at_call 16; refine (rDo_ok K3 _ L ⟨fm, false, blk, ch⟩ _ hI3.inn ⟨sv0, rfl, HS0.out.keep hE3, HF0.out⟩ (by omega)).mono ?_; rintro e W4 ⟨v, K4', rfl, hi, hl, hb, hx4⟩) | fail)
            obtain ⟨hR4, hE4⟩ := hx4
            exact step_end ⟨v, K4', hE4, hI3.call hi hl hb, rfl, hR4⟩
          · intro v; rfl
          intro v5
          apply RunAll.sat_
          · intro K3 W3 hE3 hI3 hF3
            go_wp2_with (first | ((with_reducible refine gate_alloc (T := 35) ?_); refine wpList_allocG rfl rfl zero_RTree (cs := #[.slice none 0 0]) rfl ?_; intro gb W4 e hn; obtain ⟨K5, hE5, s5, hkb, hgb, hgn⟩ := hI3.box e hn; clear hn e) | fail)
            generalize hgv : Value.pointer (some ⟨gb, 0, none⟩) = v10
            exact step_end ⟨v10, K5, hE5, s5, rfl, gb, hgv.symm, hkb, hgb, none_of_ext hE3 hgn⟩
          · intro v; rfl
          intro v6
          intro K8 W10 hE8 hI8 hF8
          obtain ⟨⟨_, sv2, rfl, hS2, hFl2⟩, g10, rfl, hk10, hg10, hg10n⟩ := hF8
          obtain ⟨a2, l2, c2, rfl⟩ : ∃ a l c, sv2 = .slice a l c := by obtain ⟨_, _, e, _⟩ := hS2; exact ⟨_, _, _, e⟩
          obtain ⟨s8, o10⟩ := hI8.thaw hk10 hg10
          have hEd : Ext K7 (K8.del g10) := hE8.del hg10n
          replace hS2 : SlK (K8.del g10) 2 encE (.slice a2 l2 c2) (rdo L ⟨fm, false, blk, ch⟩) := hS2.del1 hk10
          replace hk3 := hEd _ _ hk3
          replace hkl := hEd _ _ hkl
          replace hkw := hEd _ _ hkw
          replace hk9 := hEd _ _ hk9
          replace hTx := hTx.ext hEd
          replace hTy := hTy.ext hEd
          replace HS0 := Lib.hid (HS0.out.keep hEd)
          replace HE := Lib.hid (HE.out.trans hEd)
          have HS2 := Lib.hid hS2
          clear hk10 hEd hE8 hI8 hg10n hS2
          generalize K8.del g10 = K9 at *
          change wpList _ _ _ (List.cons _ _) _ _
          go_wp2_with (first
            | ((with_reducible refine gate_store (T := 35) ?_); refine wpList_storeAll rfl rfl rfl rfl (cs := #[.slice a2 l2 c2]) rfl o10.at_ rfl (by rw [size_RTree]; rfl) (by simp [Value.oneCell']) ?_; intro W11 hu; replace s8 := s8.upd o10 hu; replace o10 := o10.upd hu; clear hu)
            | fail)
          obtain ⟨K10, hE10, s10, hk10⟩ := s8.shut o10
          replace hTy := hTy.ext hE10
          replace hTx := hTx.ext hE10
          replace hk3 := hE10 _ _ hk3
          replace hkl := hE10 _ _ hkl
          replace hkw := hE10 _ _ hkw
          replace hk9 := hE10 _ _ hk9
          replace HS0 := Lib.hid (HS0.out.keep hE10)
          replace HS2 := Lib.hid (HS2.out.keep hE10)
          replace HE := Lib.hid (HE.out.trans hE10)
          have hle3 : moreN L ⟨fm, false, blk, ch⟩ ≤ 3 := moreN_le HR.out Huy.out Hsy.out
          have hc1 : (gathAll [x] []).length = cntTo L L.length := HR.out.nodes1
          have hc2 : (gathAll [x, y] []).length = cntTo L L.length + moreN L ⟨fm, false, blk, ch⟩ := (HR.out.share Huy.out Hsy.out).trans (by rw [HR.out.nodes1])
          have hcl : cntTo L L.length ≤ 180 := by have := cntTo_le L L.length; omega
          obtain ⟨c, hc0⟩ : ∃ c, cntTo L L.length = c := ⟨_, rfl⟩
          obtain ⟨mo, hmo⟩ : ∃ mo, moreN L ⟨fm, false, blk, ch⟩ = mo := ⟨_, rfl⟩
          rw [hmo] at hle3 hc2
          rw [hc0] at hc1 hc2 hcl
          have Hmo := Lib.hid hmo
          have Hc1 := Lib.hid hc1
          have Hc2 := Lib.hid hc2
          clear hc0 hmo hc1 hc2 s8 o10 hE10
          obtain ⟨eq, heq⟩ : ∃ eq, (rdiff L (rdo L ⟨fm, false, blk, ch⟩)).isEmpty = eq := ⟨_, rfl⟩
          have Heq := Lib.hid heq
          clear heq
          go_wp2
          refine wp_region_run (m := 6) (n := 87) (I := fun K2 W => St K w K2 W) (K0 := K10)
            (ws := [.is (.slice (some ⟨bw, ofw, none⟩) (os.length + 1) cw), .is (.int .i64 (i : Nat)), .is (.pointer (some ⟨bw, ofw + i, none⟩)), .is (.agg #[sv0]), .is (.agg #[.slice a2 l2 c2]), .is (.bool eq)])
            mixed_ok (by kernel_rfl) rfl rfl ?monobf14 s10.drew ?_
          case monobf14 =>
            simp only [List.forall_mem_cons]
            exact ⟨trivial, trivial, trivial, trivial, trivial, trivial, fun _ h => by cases h⟩
          apply RunAll.is_
          · intro K3 W3 hE3 hI3 hF3
            go_wp2
            exact step_end ⟨⟨K3, Ext.refl _, hI3⟩, rfl⟩
          · rfl
          apply RunAll.is_
          · intro K3 W3 hE3 hI3 hF3
            go_wp2
            exact step_end ⟨⟨K3, Ext.refl _, hI3⟩, rfl⟩
          · rfl
          apply RunAll.is_
          · intro K3 W3 hE3 hI3 hF3
            go_wp2
            exact step_end ⟨⟨K3, Ext.refl _, hI3⟩, rfl⟩
          · rfl
          apply RunAll.is_
          · intro K3 W3 hE3 hI3 hF3
            go_wp2_with (first | ((with_reducible refine gate_load (T := 35) ?_); refine wpList_loadAggW (vs := [sv0]) (off := ofw + i) rfl rfl rfl Tryd.underlying35 rfl (hI3.inn.get (hE3 _ _ hkw)) (by kernel_rfl) (fun j u hu => by have := Hjw.out j u hu; rwa [Nat.mul_one] at this) ?_) | fail)
            exact step_end ⟨⟨K3, Ext.refl _, hI3⟩, rfl⟩
          · rfl
          apply RunAll.is_
          · intro K3 W3 hE3 hI3 hF3
            go_wp2_with (first | ((with_reducible refine gate_load (T := 35) ?_); refine wpList_loadAggW (vs := [.slice a2 l2 c2]) (off := 0) rfl rfl rfl Tryd.underlying35 rfl (hI3.inn.get (hE3 _ _ hk10)) (by kernel_rfl) (fun j u hu => by rw [Nat.zero_add]; simpa using hu) ?_) | fail)
            exact step_end ⟨⟨K3, Ext.refl _, hI3⟩, rfl⟩
          · rfl
          apply RunAll.is_
          · intro K3 W3 hE3 hI3 hF3
            go_wp2_with (first | (go_at_call 17; refine (rEqual_ok K3 _ _ L (rdo L ⟨fm, false, blk, ch⟩) _ hI3.inn (HS0.out.keep hE3) (HS2.out.keep hE3) (by omega) (by omega)).mono ?_; rintro e W4 ⟨rfl, hb⟩; rw [Heq.out]) | fail)
            exact step_end ⟨⟨K3, Ext.refl _, hI3.quiet hb⟩, rfl⟩
          · rfl
          intro K11 W12 hE11 hI11 hF11
          change wpList _ _ _ (List.cons _ _) _ _
          replace hTy := hTy.ext hE11
          replace hTx := hTx.ext hE11
          replace hk3 := hE11 _ _ hk3
          replace hkl := hE11 _ _ hkl
          replace hk9 := hE11 _ _ hk9
          replace hk10 := hE11 _ _ hk10
          replace HS2 := Lib.hid (HS2.out.keep hE11)
          replace HE := Lib.hid (HE.out.trans hE11)
          clear hE11 hF11 s10
          cases eq with
          | true =>
            have hm0 : mo = 0 := by have := Hmo.out; unfold moreN at this; rw [Heq.out, if_pos rfl] at this; exact this.symm
            subst hm0
            go_wp2
            refine wp_region_run (m := 19) (n := 87) (I := fun K2 W => St K w K2 W) (K0 := K11)
              (ws := [.is (.int .i64 0), .is (.bool false), .is (.bool false), .is (.slice (some ⟨bl, ofl, none⟩) (os.length + 1) cl), .is (.int .i64 (i : Nat)), .is (.pointer (some ⟨bl, ofl + i * 2, none⟩)), .is (.agg (encT x).toArray), .is (.agg (encT y).toArray), .sat (fun K v => SlK K 2 encT v [x, y]), .is (.int .i64 (c : Nat)), .is (.slice (some ⟨bl, ofl, none⟩) (os.length + 1) cl), .is (.int .i64 (i : Nat)), .is (.pointer (some ⟨bl, ofl + i * 2, none⟩)), .is (.agg (encT x).toArray), .sat (fun K v => SlK K 2 encT v [x]), .is (.int .i64 (c : Nat)), .is (.int .i64 0), .is (.int .i64 (c : Nat)), .is (.bool false)])
              mixed_ok (by kernel_rfl) rfl rfl ?monobf16t hI11.drew ?_
            case monobf16t =>
              simp only [List.forall_mem_cons]
              exact ⟨trivial, trivial, trivial, trivial, trivial, trivial, trivial, trivial, fun _ _ _ hE h => h.keep hE, trivial, trivial, trivial, trivial, trivial, fun _ _ _ hE h => h.keep hE, trivial, trivial, trivial, trivial, fun _ h => by cases h⟩
            apply RunAll.is_
            · intro K3 W3 hE3 hI3 hF3
              go_wp2
              exact step_end ⟨⟨K3, Ext.refl _, hI3⟩, rfl⟩
            · rfl
            apply RunAll.is_
            · intro K3 W3 hE3 hI3 hF3
              go_wp2
              exact step_end ⟨⟨K3, Ext.refl _, hI3⟩, rfl⟩
            · rfl
            apply RunAll.is_
            · intro K3 W3 hE3 hI3 hF3
              go_wp2
              exact step_end ⟨⟨K3, Ext.refl _, hI3⟩, rfl⟩
            · rfl
            apply RunAll.is_
            · intro K3 W3 hE3 hI3 hF3
              go_wp2
              exact step_end ⟨⟨K3, Ext.refl _, hI3⟩, rfl⟩
            · rfl
            apply RunAll.is_
            · intro K3 W3 hE3 hI3 hF3
              go_wp2
              exact step_end ⟨⟨K3, Ext.refl _, hI3⟩, rfl⟩
            · rfl
            apply RunAll.is_
            · intro K3 W3 hE3 hI3 hF3
              go_wp2
              exact step_end ⟨⟨K3, Ext.refl _, hI3⟩, rfl⟩
            · rfl
            apply RunAll.is_
            · intro K3 W3 hE3 hI3 hF3
              go_wp2_with (first | ((with_reducible refine gate_load (T := 31) ?_); refine wpList_loadAggW (vs := encT x) (off := ofl + i * 2) rfl rfl rfl Tryd.underlying31 rfl (hI3.inn.get (hE3 _ _ hkl)) (by kernel_rfl) (fun j u hu => Hjl.out j u hu) ?_) | fail)
              exact step_end ⟨⟨K3, Ext.refl _, hI3⟩, rfl⟩
            · rfl
            apply RunAll.is_
            · intro K3 W3 hE3 hI3 hF3
              go_wp2_with (first | ((with_reducible refine gate_load (T := 31) ?_); refine wpList_loadAggW (vs := encT y) (off := 0) rfl rfl rfl Tryd.underlying31 rfl (hI3.inn.get (hE3 _ _ hk9)) (by kernel_rfl) (fun j u hu => by rw [Nat.zero_add]; simpa [encT] using hu) ?_) | fail)
              exact step_end ⟨⟨K3, Ext.refl _, hI3⟩, rfl⟩
            · rfl
            apply RunAll.sat_
            · intro K3 W3 hE3 hI3 hF3
              go_wp2_with (first | ((with_reducible refine gate_buildSlice (T := 24) ?_); refine wpList_build2W rfl rfl rfl rfl (cs := (encT x ++ encT y).toArray) Tryd.underlying24 info_tree (by decide) (by decide) (by kernel_rfl) ?_; intro gn W5 eg hn; obtain ⟨K4, hE4, s4, hS4⟩ := fresh_trees hI3 eg hn (zs := [x, y]) rfl rfl; clear eg hn) | fail)
              generalize hgv : Value.slice (some ⟨gn, 0, none⟩) 2 2 = v10 at hS4 ⊢
              exact step_end ⟨v10, K4, hE4, s4, rfl, hS4⟩
            · intro v; rfl
            intro v8
            apply RunAll.is_
            · intro K3 W3 hE3 hI3 hF3
              go_wp2_with (first | (go_at_call 12; refine (Nodes_ok K3 [x, y] _ _ hI3.inn (hF3.2 rfl) (all_two (hTx.ext hE3) (hTy.ext hE3)) (by simp)).mono ?_; rintro e W4 ⟨rfl, hb⟩; rw [Hc2.out, Nat.add_zero]) | fail)
              exact step_end ⟨⟨K3, Ext.refl _, hI3.quiet hb⟩, rfl⟩
            · rfl
            apply RunAll.is_
            · intro K3 W3 hE3 hI3 hF3
              go_wp2
              exact step_end ⟨⟨K3, Ext.refl _, hI3⟩, rfl⟩
            · rfl
            apply RunAll.is_
            · intro K3 W3 hE3 hI3 hF3
              go_wp2
              exact step_end ⟨⟨K3, Ext.refl _, hI3⟩, rfl⟩
            · rfl
            apply RunAll.is_
            · intro K3 W3 hE3 hI3 hF3
              go_wp2
              exact step_end ⟨⟨K3, Ext.refl _, hI3⟩, rfl⟩
            · rfl
            apply RunAll.is_
            · intro K3 W3 hE3 hI3 hF3
              go_wp2_with (first | ((with_reducible refine gate_load (T := 31) ?_); refine wpList_loadAggW (vs := encT x) (off := ofl + i * 2) rfl rfl rfl Tryd.underlying31 rfl (hI3.inn.get (hE3 _ _ hkl)) (by kernel_rfl) (fun j u hu => Hjl.out j u hu) ?_) | fail)
              exact step_end ⟨⟨K3, Ext.refl _, hI3⟩, rfl⟩
            · rfl
            apply RunAll.sat_
            · intro K3 W3 hE3 hI3 hF3
              go_wp2_with (first | ((with_reducible refine gate_buildSlice (T := 24) ?_); refine wpList_build1W rfl rfl rfl (cs := (encT x).toArray) Tryd.underlying24 info_tree (by decide) (by decide) (by kernel_rfl) ?_; intro gn W5 eg hn; obtain ⟨K4, hE4, s4, hS4⟩ := fresh_trees hI3 eg hn (zs := [x]) rfl rfl; clear eg hn) | fail)
              generalize hgv : Value.slice (some ⟨gn, 0, none⟩) 1 1 = v10 at hS4 ⊢
              exact step_end ⟨v10, K4, hE4, s4, rfl, hS4⟩
            · intro v; rfl
            intro v14
            apply RunAll.is_
            · intro K3 W3 hE3 hI3 hF3
              go_wp2_with (first | (go_at_call 12; refine (Nodes_ok K3 [x] _ _ hI3.inn (hF3.2 rfl) (all_one (hTx.ext hE3)) (by simp)).mono ?_; rintro e W4 ⟨rfl, hb⟩; rw [Hc1.out]) | fail)
              exact step_end ⟨⟨K3, Ext.refl _, hI3.quiet hb⟩, rfl⟩
            · rfl
            apply RunAll.is_
            · intro K3 W3 hE3 hI3 hF3
              go_wp2
              exact step_end ⟨⟨K3, Ext.refl _, hI3⟩, rfl⟩
            · rfl
            apply RunAll.is_
            · intro K3 W3 hE3 hI3 hF3
              go_wp2
              exact step_end ⟨⟨K3, Ext.refl _, hI3⟩, rfl⟩
            · rfl
            apply RunAll.is_
            · intro K3 W3 hE3 hI3 hF3
              go_wp2
              exact step_end ⟨⟨K3, Ext.refl _, hI3⟩, rfl⟩
            · rfl
            intro K12 W13 hE12 hI12 hF12
            change wpList _ _ _ (List.cons _ _) _ _
            go_wp2
            go_roundw
            case rel => exact ⟨i + 1, K12, by omega, by go_num, hI12, Lib.hid (HE.out.trans hE12)⟩
            case measure => simp [intOf]; omega
          | false =>
            have hne : L ≠ rdo L ⟨fm, false, blk, ch⟩ := fun e => by have h := Heq.out; rw [← e, (rdiff_nil HR.out.srt HR.out.srt).2 rfl] at h; cases h
            obtain ⟨hb0, hb1⟩ : 0 ≤ blk ∧ blk < 4096 := rdo_out HR.out.inb hne
            have hpm : rpath (rdo L ⟨fm, false, blk, ch⟩) blk = mo := by have := Hmo.out; unfold moreN at this; rw [Heq.out] at this; exact this
            have Hpm := Lib.hid hpm
            clear hne hpm
            go_wp2_with (first
              | ((with_reducible refine gate_load (T := 35) ?_); refine wpList_loadAggW (vs := [.slice a2 l2 c2]) (off := 0) rfl rfl rfl Tryd.underlying35 rfl (hI11.inn.get hk10) (by kernel_rfl) (fun j u hu => by rw [Nat.zero_add]; simpa using hu) ?_)
              | ((with_reducible refine gate_load (T := 3) ?_); refine wpList_loadCell rfl rfl rfl Tryd.underlying3 rfl (hI11.inn.get hk3) rfl ?_)
              | (go_at_call 18; refine (rPath_ok K11 _ (rdo L ⟨fm, false, blk, ch⟩) blk _ hI11.inn HS2.out (by omega) hb0 hb1).mono ?_; rintro e W14 ⟨rfl, hb⟩; rw [Hpm.out]; replace hI11 := hI11.quiet hb; clear hb)
              | fail)
            have hd3 : decide ((3 : Int) < (mo : Nat)) = false := by simp; omega
            refine wp_region_run (m := 19) (n := 87) (I := fun K2 W => St K w K2 W) (K0 := K11)
              (ws := [.is (.int .i64 (mo : Nat)), .is (.bool false), .is (.bool false), .is (.slice (some ⟨bl, ofl, none⟩) (os.length + 1) cl), .is (.int .i64 (i : Nat)), .is (.pointer (some ⟨bl, ofl + i * 2, none⟩)), .is (.agg (encT x).toArray), .is (.agg (encT y).toArray), .sat (fun K v => SlK K 2 encT v [x, y]), .is (.int .i64 ((c : Nat) + (mo : Nat))), .is (.slice (some ⟨bl, ofl, none⟩) (os.length + 1) cl), .is (.int .i64 (i : Nat)), .is (.pointer (some ⟨bl, ofl + i * 2, none⟩)), .is (.agg (encT x).toArray), .sat (fun K v => SlK K 2 encT v [x]), .is (.int .i64 (c : Nat)), .is (.int .i64 (mo : Nat)), .is (.int .i64 ((c : Nat) + (mo : Nat))), .is (.bool false)])
              mixed_ok (by kernel_rfl) rfl rfl ?monobf16f hI11.drew ?_
            case monobf16f =>
              simp only [List.forall_mem_cons]
              exact ⟨trivial, trivial, trivial, trivial, trivial, trivial, trivial, trivial, fun _ _ _ hE h => h.keep hE, trivial, trivial, trivial, trivial, trivial, fun _ _ _ hE h => h.keep hE, trivial, trivial, trivial, trivial, fun _ h => by cases h⟩
            apply RunAll.is_
            · intro K3 W3 hE3 hI3 hF3
              go_wp2
              exact step_end ⟨⟨K3, Ext.refl _, hI3⟩, rfl⟩
            · rfl
            apply RunAll.is_
            · intro K3 W3 hE3 hI3 hF3
              go_wp2
              exact step_end ⟨⟨K3, Ext.refl _, hI3⟩, rfl⟩
            · rfl
            apply RunAll.is_
            · intro K3 W3 hE3 hI3 hF3
              go_wp2
              exact step_end ⟨⟨K3, Ext.refl _, hI3⟩, rfl⟩
            · rfl
            apply RunAll.is_
            · intro K3 W3 hE3 hI3 hF3
              go_wp2
              exact step_end ⟨⟨K3, Ext.refl _, hI3⟩, rfl⟩
            · rfl
            apply RunAll.is_
            · intro K3 W3 hE3 hI3 hF3
              go_wp2
              exact step_end ⟨⟨K3, Ext.refl _, hI3⟩, rfl⟩
            · rfl
            apply RunAll.is_
            · intro K3 W3 hE3 hI3 hF3
              go_wp2
              exact step_end ⟨⟨K3, Ext.refl _, hI3⟩, rfl⟩
            · rfl
            apply RunAll.is_
            · intro K3 W3 hE3 hI3 hF3
              go_wp2_with (first | ((with_reducible refine gate_load (T := 31) ?_); refine wpList_loadAggW (vs := encT x) (off := ofl + i * 2) rfl rfl rfl Tryd.underlying31 rfl (hI3.inn.get (hE3 _ _ hkl)) (by kernel_rfl) (fun j u hu => Hjl.out j u hu) ?_) | fail)
              exact step_end ⟨⟨K3, Ext.refl _, hI3⟩, rfl⟩
            · rfl
            apply RunAll.is_
            · intro K3 W3 hE3 hI3 hF3
              go_wp2_with (first | ((with_reducible refine gate_load (T := 31) ?_); refine wpList_loadAggW (vs := encT y) (off := 0) rfl rfl rfl Tryd.underlying31 rfl (hI3.inn.get (hE3 _ _ hk9)) (by kernel_rfl) (fun j u hu => by rw [Nat.zero_add]; simpa [encT] using hu) ?_) | fail)
              exact step_end ⟨⟨K3, Ext.refl _, hI3⟩, rfl⟩
            · rfl
            apply RunAll.sat_
            · intro K3 W3 hE3 hI3 hF3
              go_wp2_with (first | ((with_reducible refine gate_buildSlice (T := 24) ?_); refine wpList_build2W rfl rfl rfl rfl (cs := (encT x ++ encT y).toArray) Tryd.underlying24 info_tree (by decide) (by decide) (by kernel_rfl) ?_; intro gn W5 eg hn; obtain ⟨K4, hE4, s4, hS4⟩ := fresh_trees hI3 eg hn (zs := [x, y]) rfl rfl; clear eg hn) | fail)
              generalize hgv : Value.slice (some ⟨gn, 0, none⟩) 2 2 = v10 at hS4 ⊢
              exact step_end ⟨v10, K4, hE4, s4, rfl, hS4⟩
            · intro v; rfl
            intro v8
            apply RunAll.is_
            · intro K3 W3 hE3 hI3 hF3
              go_wp2_with (first | (go_at_call 12; refine (Nodes_ok K3 [x, y] _ _ hI3.inn (hF3.2 rfl) (all_two (hTx.ext hE3) (hTy.ext hE3)) (by simp)).mono ?_; rintro e W4 ⟨rfl, hb⟩; rw [Hc2.out, Int.natCast_add]) | fail)
              exact step_end ⟨⟨K3, Ext.refl _, hI3.quiet hb⟩, rfl⟩
            · rfl
            apply RunAll.is_
            · intro K3 W3 hE3 hI3 hF3
              go_wp2
              exact step_end ⟨⟨K3, Ext.refl _, hI3⟩, rfl⟩
            · rfl
            apply RunAll.is_
            · intro K3 W3 hE3 hI3 hF3
              go_wp2
              exact step_end ⟨⟨K3, Ext.refl _, hI3⟩, rfl⟩
            · rfl
            apply RunAll.is_
            · intro K3 W3 hE3 hI3 hF3
              go_wp2
              exact step_end ⟨⟨K3, Ext.refl _, hI3⟩, rfl⟩
            · rfl
            apply RunAll.is_
            · intro K3 W3 hE3 hI3 hF3
              go_wp2_with (first | ((with_reducible refine gate_load (T := 31) ?_); refine wpList_loadAggW (vs := encT x) (off := ofl + i * 2) rfl rfl rfl Tryd.underlying31 rfl (hI3.inn.get (hE3 _ _ hkl)) (by kernel_rfl) (fun j u hu => Hjl.out j u hu) ?_) | fail)
              exact step_end ⟨⟨K3, Ext.refl _, hI3⟩, rfl⟩
            · rfl
            apply RunAll.sat_
            · intro K3 W3 hE3 hI3 hF3
              go_wp2_with (first | ((with_reducible refine gate_buildSlice (T := 24) ?_); refine wpList_build1W rfl rfl rfl (cs := (encT x).toArray) Tryd.underlying24 info_tree (by decide) (by decide) (by kernel_rfl) ?_; intro gn W5 eg hn; obtain ⟨K4, hE4, s4, hS4⟩ := fresh_trees hI3 eg hn (zs := [x]) rfl rfl; clear eg hn) | fail)
              generalize hgv : Value.slice (some ⟨gn, 0, none⟩) 1 1 = v10 at hS4 ⊢
              exact step_end ⟨v10, K4, hE4, s4, rfl, hS4⟩
            · intro v; rfl
            intro v14
            apply RunAll.is_
            · intro K3 W3 hE3 hI3 hF3
              go_wp2_with (first | (go_at_call 12; refine (Nodes_ok K3 [x] _ _ hI3.inn (hF3.2 rfl) (all_one (hTx.ext hE3)) (by simp)).mono ?_; rintro e W4 ⟨rfl, hb⟩; rw [Hc1.out]) | fail)
              exact step_end ⟨⟨K3, Ext.refl _, hI3.quiet hb⟩, rfl⟩
            · rfl
            apply RunAll.is_
            · intro K3 W3 hE3 hI3 hF3
              go_wp2
              exact step_end ⟨⟨K3, Ext.refl _, hI3⟩, rfl⟩
            · rfl
            apply RunAll.is_
            · intro K3 W3 hE3 hI3 hF3
              go_wp2
              exact step_end ⟨⟨K3, Ext.refl _, hI3⟩, rfl⟩
            · rfl
            apply RunAll.is_
            · intro K3 W3 hE3 hI3 hF3
              go_wp2
              exact step_end ⟨⟨K3, Ext.refl _, hI3⟩, rfl⟩
            · rfl
            intro K12 W13 hE12 hI12 hF12
            change wpList _ _ _ (List.cons _ _) _ _
            go_wp2
            go_roundw
            case rel => exact ⟨i + 1, K12, by omega, by go_num, hI12, Lib.hid (HE.out.trans hE12)⟩
            case measure => simp [intOf]; omega
        | true =>
          have cg : W5.cell? ⟨g3, 1, none⟩ = some (.bool true) := cf
          clear cf hTy Huy Hsy
          go_wp2_with (first
            | ((with_reducible refine gate_store (T := 31) ?_); refine wpList_storeAll rfl rfl rfl rfl (cs := #[.pointer y.1.ptr, .int .i64 y.2]) rfl o9.at_ rfl (by rw [size_Tree]; rfl) (by simp [Value.oneCell']) ?_; intro W7 hu; replace s5 := s5.upd o9 hu; replace o9 := o9.upd hu; clear hu cg; have cg := (s5.inn.cell hk3 1))
            | ((with_reducible refine gate_load (T := 4) ?_); refine wpList_loadCell rfl rfl rfl Tryd.underlying4 rfl (s5.inn.get hk3) rfl ?_)
            | fail)
          clear cg
          refine wp_region_run (m := 7) (n := 87) (I := fun K2 W => St K w K2 W ∧ Own w K2 W g9 (.cells #[.pointer y.1.ptr, .int .i64 y.2] 31 (0, 0))) (K0 := K6)
            (ws := [.is (.slice (some ⟨bl, ofl, none⟩) (os.length + 1) cl), .is (.int .i64 (i : Nat)), .is (.pointer (some ⟨bl, ofl + i * 2, none⟩)), .is (.agg (encT x).toArray), .is (.pointer (some ⟨g3, 2, none⟩)), .is (.int .i64 blk), .sat (ChgV 0 ⟨fm, true, blk, ch⟩ x)])
            mixed_ok (by kernel_rfl) rfl rfl ?monob11 ⟨s5.drew, o9.drew⟩ ?_
          case monob11 =>
            simp only [List.forall_mem_cons]
            exact ⟨trivial, trivial, trivial, trivial, trivial, trivial, fun _ _ _ hE h => h.ext hE, fun _ h => by cases h⟩
          apply RunAll.is_
          · intro K3 W3 hE3 hI3 hF3
            go_wp2
            exact step_end ⟨⟨K3, Ext.refl _, hI3⟩, rfl⟩
          · rfl
          apply RunAll.is_
          · intro K3 W3 hE3 hI3 hF3
            go_wp2
            exact step_end ⟨⟨K3, Ext.refl _, hI3⟩, rfl⟩
          · rfl
          apply RunAll.is_
          · intro K3 W3 hE3 hI3 hF3
            go_wp2
            exact step_end ⟨⟨K3, Ext.refl _, hI3⟩, rfl⟩
          · rfl
          apply RunAll.is_
          · intro K3 W3 hE3 hI3 hF3
            go_wp2_with (first | ((with_reducible refine gate_load (T := 31) ?_); refine wpList_loadAggW (vs := encT x) (off := ofl + i * 2) rfl rfl rfl Tryd.underlying31 rfl (hI3.1.inn.get (hE3 _ _ hkl)) (by kernel_rfl) (fun j u hu => Hjl.out j u hu) ?_) | fail)
            exact step_end ⟨⟨K3, Ext.refl _, hI3⟩, rfl⟩
          · rfl
          apply RunAll.is_
          · intro K3 W3 hE3 hI3 hF3
            go_wp2
            exact step_end ⟨⟨K3, Ext.refl _, hI3⟩, rfl⟩
          · rfl
          apply RunAll.is_
          · intro K3 W3 hE3 hI3 hF3
            go_wp2_with (first | ((with_reducible refine gate_load (T := 3) ?_); refine wpList_loadCell rfl rfl rfl Tryd.underlying3 rfl (hI3.1.inn.get (hE3 _ _ hk3)) rfl ?_) | fail)
            exact step_end ⟨⟨K3, Ext.refl _, hI3⟩, rfl⟩
          · rfl
          apply RunAll.sat_
          · intro K3 W3 hE3 hI3 hF3
            go_wp2_with (first | (go_at_call 15; refine (Clear_ok K3 x.1 x.2 blk _ hI3.1.inn (hTx.ext hE3) (by omega) (by omega)).mono ?_; rintro e W4 ⟨v, K4', rfl, hi, hl, hb, hx4⟩) | fail)
            obtain ⟨t3, n3, hv3, ht3, hs3⟩ := hx4
            exact step_end ⟨v, K4', Ext.of_le hI3.1.inn hl, ⟨hI3.1.call hi hl hb, hI3.2.call hl hb⟩, rfl, (t3, n3), W3.heap.size, hv3, ht3, Nat.zero_le _, (hTx.ext hE3).under hI3.1.inn, hs3⟩
          · intro v; rfl
          intro v6
          intro K5 W8 hE5 hI5 hF5
          obtain ⟨_, y', m', rfl, hTy, _, huy, hsy⟩ := hF5
          obtain ⟨s5, o9⟩ := hI5
          have Hsy := Lib.hid hsy
          have Huy := Lib.hid huy
          replace hk3 := hE5 _ _ hk3
          replace hkl := hE5 _ _ hkl
          replace hkw := hE5 _ _ hkw
          replace hTx := hTx.ext hE5
          replace HS0 := Lib.hid (HS0.out.keep hE5)
          replace HE := Lib.hid (HE.out.trans hE5)
          clear hsy huy hE5
          change wpList _ _ _ (List.cons _ _) _ _
          go_wp2_with (first
            | ((with_reducible refine gate_store (T := 31) ?_); refine wpList_storeAll rfl rfl rfl rfl (cs := #[.pointer y'.1.ptr, .int .i64 y'.2]) rfl o9.at_ rfl (by rw [size_Tree]; rfl) (by simp [Value.oneCell']) ?_; intro W9 hu; replace s5 := s5.upd o9 hu; replace o9 := o9.upd hu; clear hu)
            | fail)
          obtain ⟨K7, hE7, s7, hk9⟩ := s5.shut o9
          have HRy := Lib.hid (HR.out.step (x := x) Huy.out Hsy.out)
          replace hTy := hTy.ext hE7
          replace hTx := hTx.ext hE7
          replace hk3 := hE7 _ _ hk3
          replace hkl := hE7 _ _ hkl
          replace hkw := hE7 _ _ hkw
          replace HS0 := Lib.hid (HS0.out.keep hE7)
          replace HE := Lib.hid (HE.out.trans hE7)
          have hLy : (rdo L ⟨fm, true, blk, ch⟩).length ≤ 61 := by have := rdo_len L ⟨fm, true, blk, ch⟩; omega
          clear s5 o9 hE7
          refine wp_region_run (m := 7) (n := 87) (I := fun K2 W => St K w K2 W) (K0 := K7)
            (ws := [.is (.slice (some ⟨bw, ofw, none⟩) (os.length + 1) cw), .is (.int .i64 (i : Nat)), .is (.pointer (some ⟨bw, ofw + i, none⟩)), .is (.agg #[sv0]), .is (.agg (encO ⟨fm, true, blk, ch⟩).toArray), .sat (fun K v => RT K v (rdo L ⟨fm, true, blk, ch⟩)), .sat (BoxV w.heap.size K7 #[.slice none 0 0] 35)])
            mixed_ok (by kernel_rfl) rfl rfl ?monobt12 s7.drew ?_
          case monobt12 =>
            simp only [List.forall_mem_cons]
            exact ⟨trivial, trivial, trivial, trivial, trivial, fun _ _ _ hE h => h.ext hE, fun _ _ _ hE h => h.ext hE, fun _ h => by cases h⟩
          apply RunAll.is_
          · intro K3 W3 hE3 hI3 hF3
            go_wp2
            exact step_end ⟨⟨K3, Ext.refl _, hI3⟩, rfl⟩
          · rfl
          apply RunAll.is_
          · intro K3 W3 hE3 hI3 hF3
            go_wp2
            exact step_end ⟨⟨K3, Ext.refl _, hI3⟩, rfl⟩
          · rfl
          apply RunAll.is_
          · intro K3 W3 hE3 hI3 hF3
            go_wp2
            exact step_end ⟨⟨K3, Ext.refl _, hI3⟩, rfl⟩
          · rfl
          apply RunAll.is_
          · intro K3 W3 hE3 hI3 hF3
            go_wp2_with (first | ((with_reducible refine gate_load (T := 35) ?_); refine wpList_loadAggW (vs := [sv0]) (off := ofw + i) rfl rfl rfl Tryd.underlying35 rfl (hI3.inn.get (hE3 _ _ hkw)) (by kernel_rfl) (fun j u hu => by have := Hjw.out j u hu; rwa [Nat.mul_one] at this) ?_) | fail)
            exact step_end ⟨⟨K3, Ext.refl _, hI3⟩, rfl⟩
          · rfl
          apply RunAll.is_
          · intro K3 W3 hE3 hI3 hF3
            go_wp2_with (first | ((with_reducible refine gate_load (T := 38) ?_); refine wpList_loadAggW (vs := encO ⟨fm, true, blk, ch⟩) (off := 0) rfl rfl rfl Tryd.underlying38 rfl (hI3.inn.get (hE3 _ _ hk3)) (by kernel_rfl) (fun j u hu => by rw [Nat.zero_add]; simpa using hu) ?_) | fail)
            exact step_end ⟨⟨K3, Ext.refl _, hI3⟩, rfl⟩
          · rfl
          apply RunAll.sat_
          · intro K3 W3 hE3 hI3 hF3
            go_wp2_with (first | (go_at_call 16; refine (rDo_ok K3 _ L ⟨fm, true, blk, ch⟩ _ hI3.inn ⟨sv0, rfl, HS0.out.keep hE3, HF0.out⟩ (by omega)).mono ?_; rintro e W4 ⟨v, K4', rfl, hi, hl, hb, hx4⟩) | fail)
            obtain ⟨hR4, hE4⟩ := hx4
            exact step_end ⟨v, K4', hE4, hI3.call hi hl hb, rfl, hR4⟩
          · intro v; rfl
          intro v5
          apply RunAll.sat_
          · intro K3 W3 hE3 hI3 hF3
            go_wp2_with (first | ((with_reducible refine gate_alloc (T := 35) ?_); refine wpList_allocG rfl rfl zero_RTree (cs := #[.slice none 0 0]) rfl ?_; intro gb W4 e hn; obtain ⟨K5, hE5, s5, hkb, hgb, hgn⟩ := hI3.box e hn; clear hn e) | fail)
            generalize hgv : Value.pointer (some ⟨gb, 0, none⟩) = v10
            exact step_end ⟨v10, K5, hE5, s5, rfl, gb, hgv.symm, hkb, hgb, none_of_ext hE3 hgn⟩
          · intro v; rfl
          intro v6
          intro K8 W10 hE8 hI8 hF8
          obtain ⟨⟨_, sv2, rfl, hS2, hFl2⟩, g10, rfl, hk10, hg10, hg10n⟩ := hF8
          obtain ⟨a2, l2, c2, rfl⟩ : ∃ a l c, sv2 = .slice a l c := by obtain ⟨_, _, e, _⟩ := hS2; exact ⟨_, _, _, e⟩
          obtain ⟨s8, o10⟩ := hI8.thaw hk10 hg10
          have hEd : Ext K7 (K8.del g10) := hE8.del hg10n
          replace hS2 : SlK (K8.del g10) 2 encE (.slice a2 l2 c2) (rdo L ⟨fm, true, blk, ch⟩) := hS2.del1 hk10
          replace hk3 := hEd _ _ hk3
          replace hkl := hEd _ _ hkl
          replace hkw := hEd _ _ hkw
          replace hk9 := hEd _ _ hk9
          replace hTx := hTx.ext hEd
          replace hTy := hTy.ext hEd
          replace HS0 := Lib.hid (HS0.out.keep hEd)
          replace HE := Lib.hid (HE.out.trans hEd)
          have HS2 := Lib.hid hS2
          clear hk10 hEd hE8 hI8 hg10n hS2
          generalize K8.del g10 = K9 at *
          change wpList _ _ _ (List.cons _ _) _ _
          go_wp2_with (first
            | ((with_reducible refine gate_store (T := 35) ?_); refine wpList_storeAll rfl rfl rfl rfl (cs := #[.slice a2 l2 c2]) rfl o10.at_ rfl (by rw [size_RTree]; rfl) (by simp [Value.oneCell']) ?_; intro W11 hu; replace s8 := s8.upd o10 hu; replace o10 := o10.upd hu; clear hu)
            | fail)
          obtain ⟨K10, hE10, s10, hk10⟩ := s8.shut o10
          replace hTy := hTy.ext hE10
          replace hTx := hTx.ext hE10
          replace hk3 := hE10 _ _ hk3
          replace hkl := hE10 _ _ hkl
          replace hkw := hE10 _ _ hkw
          replace hk9 := hE10 _ _ hk9
          replace HS0 := Lib.hid (HS0.out.keep hE10)
          replace HS2 := Lib.hid (HS2.out.keep hE10)
          replace HE := Lib.hid (HE.out.trans hE10)
          have hle3 : moreN L ⟨fm, true, blk, ch⟩ ≤ 3 := moreN_le HR.out Huy.out Hsy.out
          have hc1 : (gathAll [x] []).length = cntTo L L.length := HR.out.nodes1
          have hc2 : (gathAll [x, y'] []).length = cntTo L L.length + moreN L ⟨fm, true, blk, ch⟩ := (HR.out.share Huy.out Hsy.out).trans (by rw [HR.out.nodes1])
          have hcl : cntTo L L.length ≤ 180 := by have := cntTo_le L L.length; omega
          obtain ⟨c, hc0⟩ : ∃ c, cntTo L L.length = c := ⟨_, rfl⟩
          obtain ⟨mo, hmo⟩ : ∃ mo, moreN L ⟨fm, true, blk, ch⟩ = mo := ⟨_, rfl⟩
          rw [hmo] at hle3 hc2
          rw [hc0] at hc1 hc2 hcl
          have Hmo := Lib.hid hmo
          have Hc1 := Lib.hid hc1
          have Hc2 := Lib.hid hc2
          clear hc0 hmo hc1 hc2 s8 o10 hE10
          obtain ⟨eq, heq⟩ : ∃ eq, (rdiff L (rdo L ⟨fm, true, blk, ch⟩)).isEmpty = eq := ⟨_, rfl⟩
          have Heq := Lib.hid heq
          clear heq
          go_wp2
          refine wp_region_run (m := 6) (n := 87) (I := fun K2 W => St K w K2 W) (K0 := K10)
            (ws := [.is (.slice (some ⟨bw, ofw, none⟩) (os.length + 1) cw), .is (.int .i64 (i : Nat)), .is (.pointer (some ⟨bw, ofw + i, none⟩)), .is (.agg #[sv0]), .is (.agg #[.slice a2 l2 c2]), .is (.bool eq)])
            mixed_ok (by kernel_rfl) rfl rfl ?monobt14 s10.drew ?_
          case monobt14 =>
            simp only [List.forall_mem_cons]
            exact ⟨trivial, trivial, trivial, trivial, trivial, trivial, fun _ h => by cases h⟩
          apply RunAll.is_
          · intro K3 W3 hE3 hI3 hF3
            go_wp2
            exact step_end ⟨⟨K3, Ext.refl _, hI3⟩, rfl⟩
          · rfl
          apply RunAll.is_
          · intro K3 W3 hE3 hI3 hF3
            go_wp2
            exact step_end ⟨⟨K3, Ext.refl _, hI3⟩, rfl⟩
          · rfl
          apply RunAll.is_
          · intro K3 W3 hE3 hI3 hF3
            go_wp2
            exact step_end ⟨⟨K3, Ext.refl _, hI3⟩, rfl⟩
          · rfl
          apply RunAll.is_
          · intro K3 W3 hE3 hI3 hF3
            go_wp2_with (first | ((with_reducible refine gate_load (T := 35) ?_); refine wpList_loadAggW (vs := [sv0]) (off := ofw + i) rfl rfl rfl Tryd.underlying35 rfl (hI3.inn.get (hE3 _ _ hkw)) (by kernel_rfl) (fun j u hu => by have := Hjw.out j u hu; rwa [Nat.mul_one] at this) ?_) | fail)
            exact step_end ⟨⟨K3, Ext.refl _, hI3⟩, rfl⟩
          · rfl
          apply RunAll.is_
          · intro K3 W3 hE3 hI3 hF3
            go_wp2_with (first | ((with_reducible refine gate_load (T := 35) ?_); refine wpList_loadAggW (vs := [.slice a2 l2 c2]) (off := 0) rfl rfl rfl Tryd.underlying35 rfl (hI3.inn.get (hE3 _ _ hk10)) (by kernel_rfl) (fun j u hu => by rw [Nat.zero_add]; simpa using hu) ?_) | fail)
            exact step_end ⟨⟨K3, Ext.refl _, hI3⟩, rfl⟩
          · rfl
          apply RunAll.is_
          · intro K3 W3 hE3 hI3 hF3
            go_wp2_with (first | (go_at_call 17; refine (rEqual_ok K3 _ _ L (rdo L ⟨fm, true, blk, ch⟩) _ hI3.inn (HS0.out.keep hE3) (HS2.out.keep hE3) (by omega) (by omega)).mono ?_; rintro e W4 ⟨rfl, hb⟩; rw [Heq.out]) | fail)
            exact step_end ⟨⟨K3, Ext.refl _, hI3.quiet hb⟩, rfl⟩
          · rfl
          intro K11 W12 hE11 hI11 hF11
          change wpList _ _ _ (List.cons _ _) _ _
          replace hTy := hTy.ext hE11
          replace hTx := hTx.ext hE11
          replace hk3 := hE11 _ _ hk3
          replace hkl := hE11 _ _ hkl
          replace hk9 := hE11 _ _ hk9
          replace hk10 := hE11 _ _ hk10
          replace HS2 := Lib.hid (HS2.out.keep hE11)
          replace HE := Lib.hid (HE.out.trans hE11)
          clear hE11 hF11 s10
          cases eq with
          | true =>
            have hm0 : mo = 0 := by have := Hmo.out; unfold moreN at this; rw [Heq.out, if_pos rfl] at this; exact this.symm
            subst hm0
            go_wp2
            refine wp_region_run (m := 19) (n := 87) (I := fun K2 W => St K w K2 W) (K0 := K11)
              (ws := [.is (.int .i64 0), .is (.bool false), .is (.bool false), .is (.slice (some ⟨bl, ofl, none⟩) (os.length + 1) cl), .is (.int .i64 (i : Nat)), .is (.pointer (some ⟨bl, ofl + i * 2, none⟩)), .is (.agg (encT x).toArray), .is (.agg (encT y').toArray), .sat (fun K v => SlK K 2 encT v [x, y']), .is (.int .i64 (c : Nat)), .is (.slice (some ⟨bl, ofl, none⟩) (os.length + 1) cl), .is (.int .i64 (i : Nat)), .is (.pointer (some ⟨bl, ofl + i * 2, none⟩)), .is (.agg (encT x).toArray), .sat (fun K v => SlK K 2 encT v [x]), .is (.int .i64 (c : Nat)), .is (.int .i64 0), .is (.int .i64 (c : Nat)), .is (.bool false)])
              mixed_ok (by kernel_rfl) rfl rfl ?monobt16t hI11.drew ?_
            case monobt16t =>
              simp only [List.forall_mem_cons]
              exact ⟨trivial, trivial, trivial, trivial, trivial, trivial, trivial, trivial, fun _ _ _ hE h => h.keep hE, trivial, trivial, trivial, trivial, trivial, fun _ _ _ hE h => h.keep hE, trivial, trivial, trivial, trivial, fun _ h => by cases h⟩
            apply RunAll.is_
            · intro K3 W3 hE3 hI3 hF3
              go_wp2
              exact step_end ⟨⟨K3, Ext.refl _, hI3⟩, rfl⟩
            · rfl
            apply RunAll.is_
            · intro K3 W3 hE3 hI3 hF3
              go_wp2
              exact step_end ⟨⟨K3, Ext.refl _, hI3⟩, rfl⟩
            · rfl
            apply RunAll.is_
            · intro K3 W3 hE3 hI3 hF3
              go_wp2
              exact step_end ⟨⟨K3, Ext.refl _, hI3⟩, rfl⟩
            · rfl
            apply RunAll.is_
            · intro K3 W3 hE3 hI3 hF3
              go_wp2
              exact step_end ⟨⟨K3, Ext.refl _, hI3⟩, rfl⟩
            · rfl
            apply RunAll.is_
            · intro K3 W3 hE3 hI3 hF3
              go_wp2
              exact step_end ⟨⟨K3, Ext.refl _, hI3⟩, rfl⟩
            · rfl
            apply RunAll.is_
            · intro K3 W3 hE3 hI3 hF3
              go_wp2
              exact step_end ⟨⟨K3, Ext.refl _, hI3⟩, rfl⟩
            · rfl
            apply RunAll.is_
            · intro K3 W3 hE3 hI3 hF3
              go_wp2_with (first | ((with_reducible refine gate_load (T := 31) ?_); refine wpList_loadAggW (vs := encT x) (off := ofl + i * 2) rfl rfl rfl Tryd.underlying31 rfl (hI3.inn.get (hE3 _ _ hkl)) (by kernel_rfl) (fun j u hu => Hjl.out j u hu) ?_) | fail)
              exact step_end ⟨⟨K3, Ext.refl _, hI3⟩, rfl⟩
            · rfl
            apply RunAll.is_
            · intro K3 W3 hE3 hI3 hF3
              go_wp2_with (first | ((with_reducible refine gate_load (T := 31) ?_); refine wpList_loadAggW (vs := encT y') (off := 0) rfl rfl rfl Tryd.underlying31 rfl (hI3.inn.get (hE3 _ _ hk9)) (by kernel_rfl) (fun j u hu => by rw [Nat.zero_add]; simpa [encT] using hu) ?_) | fail)
              exact step_end ⟨⟨K3, Ext.refl _, hI3⟩, rfl⟩
            · rfl
            apply RunAll.sat_
            · intro K3 W3 hE3 hI3 hF3
              go_wp2_with (first | ((with_reducible refine gate_buildSlice (T := 24) ?_); refine wpList_build2W rfl rfl rfl rfl (cs := (encT x ++ encT y').toArray) Tryd.underlying24 info_tree (by decide) (by decide) (by kernel_rfl) ?_; intro gn W5 eg hn; obtain ⟨K4, hE4, s4, hS4⟩ := fresh_trees hI3 eg hn (zs := [x, y']) rfl rfl; clear eg hn) | fail)
              generalize hgv : Value.slice (some ⟨gn, 0, none⟩) 2 2 = v10 at hS4 ⊢
              exact step_end ⟨v10, K4, hE4, s4, rfl, hS4⟩
            · intro v; rfl
            intro v8
            apply RunAll.is_
            · intro K3 W3 hE3 hI3 hF3
              go_wp2_with (first | (go_at_call 12; refine (Nodes_ok K3 [x, y'] _ _ hI3.inn (hF3.2 rfl) (all_two (hTx.ext hE3) (hTy.ext hE3)) (by simp)).mono ?_; rintro e W4 ⟨rfl, hb⟩; rw [Hc2.out, Nat.add_zero]) | fail)
              exact step_end ⟨⟨K3, Ext.refl _, hI3.quiet hb⟩, rfl⟩
            · rfl
            apply RunAll.is_
            · intro K3 W3 hE3 hI3 hF3
              go_wp2
              exact step_end ⟨⟨K3, Ext.refl _, hI3⟩, rfl⟩
            · rfl
            apply RunAll.is_
            · intro K3 W3 hE3 hI3 hF3
              go_wp2
              exact step_end ⟨⟨K3, Ext.refl _, hI3⟩, rfl⟩
            · rfl
            apply RunAll.is_
            · intro K3 W3 hE3 hI3 hF3
              go_wp2
              exact step_end ⟨⟨K3, Ext.refl _, hI3⟩, rfl⟩
            · rfl
            apply RunAll.is_
            · intro K3 W3 hE3 hI3 hF3
              go_wp2_with (first | ((with_reducible refine gate_load (T := 31) ?_); refine wpList_loadAggW (vs := encT x) (off := ofl + i * 2) rfl rfl rfl Tryd.underlying31 rfl (hI3.inn.get (hE3 _ _ hkl)) (by kernel_rfl) (fun j u hu => Hjl.out j u hu) ?_) | fail)
              exact step_end ⟨⟨K3, Ext.refl _, hI3⟩, rfl⟩
            · rfl
            apply RunAll.sat_
            · intro K3 W3 hE3 hI3 hF3
              go_wp2_with (first | ((with_reducible refine gate_buildSlice (T := 24) ?_); refine wpList_build1W rfl rfl rfl (cs := (encT x).toArray) Tryd.underlying24 info_tree (by decide) (by decide) (by kernel_rfl) ?_; intro gn W5 eg hn; obtain ⟨K4, hE4, s4, hS4⟩ := fresh_trees hI3 eg hn (zs := [x]) rfl rfl; clear eg hn) | fail)
              generalize hgv : Value.slice (some ⟨gn, 0, none⟩) 1 1 = v10 at hS4 ⊢
              exact step_end ⟨v10, K4, hE4, s4, rfl, hS4⟩
            · intro v; rfl
            intro v14
            apply RunAll.is_
            · intro K3 W3 hE3 hI3 hF3
              go_wp2_with (first | (go_at_call 12; refine (Nodes_ok K3 [x] _ _ hI3.inn (hF3.2 rfl) (all_one (hTx.ext hE3)) (by simp)).mono ?_; rintro e W4 ⟨rfl, hb⟩; rw [Hc1.out]) | fail)
              exact step_end ⟨⟨K3, Ext.refl _, hI3.quiet hb⟩, rfl⟩
            · rfl
            apply RunAll.is_
            · intro K3 W3 hE3 hI3 hF3
              go_wp2
              exact step_end ⟨⟨K3, Ext.refl _, hI3⟩, rfl⟩
            · rfl
            apply RunAll.is_
            · intro K3 W3 hE3 hI3 hF3
              go_wp2
              exact step_end ⟨⟨K3, Ext.refl _, hI3⟩, rfl⟩
            · rfl
            apply RunAll.is_
            · intro K3 W3 hE3 hI3 hF3
              go_wp2
              exact step_end ⟨⟨K3, Ext.refl _, hI3⟩, rfl⟩
            · rfl
            intro K12 W13 hE12 hI12 hF12
            change wpList _ _ _ (List.cons _ _) _ _
            go_wp2
            go_roundw
            case rel => exact ⟨i + 1, K12, by omega, by go_num, hI12, Lib.hid (HE.out.trans hE12)⟩
            case measure => simp [intOf]; omega
          | false =>
            have hne : L ≠ rdo L ⟨fm, true, blk, ch⟩ := fun e => by have h := Heq.out; rw [← e, (rdiff_nil HR.out.srt HR.out.srt).2 rfl] at h; cases h
            obtain ⟨hb0, hb1⟩ : 0 ≤ blk ∧ blk < 4096 := rdo_out HR.out.inb hne
            have hpm : rpath (rdo L ⟨fm, true, blk, ch⟩) blk = mo := by have := Hmo.out; unfold moreN at this; rw [Heq.out] at this; exact this
            have Hpm := Lib.hid hpm
            clear hne hpm
            go_wp2_with (first
              | ((with_reducible refine gate_load (T := 35) ?_); refine wpList_loadAggW (vs := [.slice a2 l2 c2]) (off := 0) rfl rfl rfl Tryd.underlying35 rfl (hI11.inn.get hk10) (by kernel_rfl) (fun j u hu => by rw [Nat.zero_add]; simpa using hu) ?_)
              | ((with_reducible refine gate_load (T := 3) ?_); refine wpList_loadCell rfl rfl rfl Tryd.underlying3 rfl (hI11.inn.get hk3) rfl ?_)
              | (go_at_call 18; refine (rPath_ok K11 _ (rdo L ⟨fm, true, blk, ch⟩) blk _ hI11.inn HS2.out (by omega) hb0 hb1).mono ?_; rintro e W14 ⟨rfl, hb⟩; rw [Hpm.out]; replace hI11 := hI11.quiet hb; clear hb)
              | fail)
            have hd3 : decide ((3 : Int) < (mo : Nat)) = false := by simp; omega
            refine wp_region_run (m := 19) (n := 87) (I := fun K2 W => St K w K2 W) (K0 := K11)
              (ws := [.is (.int .i64 (mo : Nat)), .is (.bool false), .is (.bool false), .is (.slice (some ⟨bl, ofl, none⟩) (os.length + 1) cl), .is (.int .i64 (i : Nat)), .is (.pointer (some ⟨bl, ofl + i * 2, none⟩)), .is (.agg (encT x).toArray), .is (.agg (encT y').toArray), .sat (fun K v => SlK K 2 encT v [x, y']), .is (.int .i64 ((c : Nat) + (mo : Nat))), .is (.slice (some ⟨bl, ofl, none⟩) (os.length + 1) cl), .is (.int .i64 (i : Nat)), .is (.pointer (some ⟨bl, ofl + i * 2, none⟩)), .is (.agg (encT x).toArray), .sat (fun K v => SlK K 2 encT v [x]), .is (.int .i64 (c : Nat)), .is (.int .i64 (mo : Nat)), .is (.int .i64 ((c : Nat) + (mo : Nat))), .is (.bool false)])
              mixed_ok (by kernel_rfl) rfl rfl ?monobt16f hI11.drew ?_
            case monobt16f =>
              simp only [List.forall_mem_cons]
              exact ⟨trivial, trivial, trivial, trivial, trivial, trivial, trivial, trivial, fun _ _ _ hE h => h.keep hE, trivial, trivial, trivial, trivial, trivial, fun _ _ _ hE h => h.keep hE, trivial, trivial, trivial, trivial, fun _ h => by cases h⟩
            apply RunAll.is_
            · intro K3 W3 hE3 hI3 hF3
              go_wp2
              exact step_end ⟨⟨K3, Ext.refl _, hI3⟩, rfl⟩
            · rfl
            apply RunAll.is_
            · intro K3 W3 hE3 hI3 hF3
              go_wp2
              exact step_end ⟨⟨K3, Ext.refl _, hI3⟩, rfl⟩
            · rfl
            apply RunAll.is_
            · intro K3 W3 hE3 hI3 hF3
              go_wp2
              exact step_end ⟨⟨K3, Ext.refl _, hI3⟩, rfl⟩
            · rfl
            apply RunAll.is_
            · intro K3 W3 hE3 hI3 hF3
              go_wp2
              exact step_end ⟨⟨K3, Ext.refl _, hI3⟩, rfl⟩
            · rfl
            apply RunAll.is_
            · intro K3 W3 hE3 hI3 hF3
              go_wp2
              exact step_end ⟨⟨K3, Ext.refl _, hI3⟩, rfl⟩
            · rfl
            apply RunAll.is_
            · intro K3 W3 hE3 hI3 hF3
              go_wp2
              exact step_end ⟨⟨K3, Ext.refl _, hI3⟩, rfl⟩
            · rfl
            apply RunAll.is_
            · intro K3 W3 hE3 hI3 hF3
              go_wp2_with (first | ((with_reducible refine gate_load (T := 31) ?_); refine wpList_loadAggW (vs := encT x) (off := ofl + i * 2) rfl rfl rfl Tryd.underlying31 rfl (hI3.inn.get (hE3 _ _ hkl)) (by kernel_rfl) (fun j u hu => Hjl.out j u hu) ?_) | fail)
              exact step_end ⟨⟨K3, Ext.refl _, hI3⟩, rfl⟩
            · rfl
            apply RunAll.is_
            · intro K3 W3 hE3 hI3 hF3
              go_wp2_with (first | ((with_reducible refine gate_load (T := 31) ?_); refine wpList_loadAggW (vs := encT y') (off := 0) rfl rfl rfl Tryd.underlying31 rfl (hI3.inn.get (hE3 _ _ hk9)) (by kernel_rfl) (fun j u hu => by rw [Nat.zero_add]; simpa [encT] using hu) ?_) | fail)
              exact step_end ⟨⟨K3, Ext.refl _, hI3⟩, rfl⟩
            · rfl
            apply RunAll.sat_
            · intro K3 W3 hE3 hI3 hF3
              go_wp2_with (first | ((with_reducible refine gate_buildSlice (T := 24) ?_); refine wpList_build2W rfl rfl rfl rfl (cs := (encT x ++ encT y').toArray) Tryd.underlying24 info_tree (by decide) (by decide) (by kernel_rfl) ?_; intro gn W5 eg hn; obtain ⟨K4, hE4, s4, hS4⟩ := fresh_trees hI3 eg hn (zs := [x, y']) rfl rfl; clear eg hn) | fail)
              generalize hgv : Value.slice (some ⟨gn, 0, none⟩) 2 2 = v10 at hS4 ⊢
              exact step_end ⟨v10, K4, hE4, s4, rfl, hS4⟩
            · intro v; rfl
            intro v8
            apply RunAll.is_
            · intro K3 W3 hE3 hI3 hF3
              go_wp2_with (first | (go_at_call 12; refine (Nodes_ok K3 [x, y'] _ _ hI3.inn (hF3.2 rfl) (all_two (hTx.ext hE3) (hTy.ext hE3)) (by simp)).mono ?_; rintro e W4 ⟨rfl, hb⟩; rw [Hc2.out, Int.natCast_add]) | fail)
              exact step_end ⟨⟨K3, Ext.refl _, hI3.quiet hb⟩, rfl⟩
            · rfl
            apply RunAll.is_
            · intro K3 W3 hE3 hI3 hF3
              go_wp2
              exact step_end ⟨⟨K3, Ext.refl _, hI3⟩, rfl⟩
            · rfl
            apply RunAll.is_
            · intro K3 W3 hE3 hI3 hF3
              go_wp2
              exact step_end ⟨⟨K3, Ext.refl _, hI3⟩, rfl⟩
            · rfl
            apply RunAll.is_
            · intro K3 W3 hE3 hI3 hF3
              go_wp2
              exact step_end ⟨⟨K3, Ext.refl _, hI3⟩, rfl⟩
            · rfl
            apply RunAll.is_
            · intro K3 W3 hE3 hI3 hF3
              go_wp2_with (first | ((with_reducible refine gate_load (T := 31) ?_); refine wpList_loadAggW (vs := encT x) (off := ofl + i * 2) rfl rfl rfl Tryd.underlying31 rfl (hI3.inn.get (hE3 _ _ hkl)) (by kernel_rfl) (fun j u hu => Hjl.out j u hu) ?_) | fail)
              exact step_end ⟨⟨K3, Ext.refl _, hI3⟩, rfl⟩
            · rfl
            apply RunAll.sat_
            · intro K3 W3 hE3 hI3 hF3
              go_wp2_with (first | ((with_reducible refine gate_buildSlice (T := 24) ?_); refine wpList_build1W rfl rfl rfl (cs := (encT x).toArray) Tryd.underlying24 info_tree (by decide) (by decide) (by kernel_rfl) ?_; intro gn W5 eg hn; obtain ⟨K4, hE4, s4, hS4⟩ := fresh_trees hI3 eg hn (zs := [x]) rfl rfl; clear eg hn) | fail)
              generalize hgv : Value.slice (some ⟨gn, 0, none⟩) 1 1 = v10 at hS4 ⊢
              exact step_end ⟨v10, K4, hE4, s4, rfl, hS4⟩
            · intro v; rfl
            intro v14
            apply RunAll.is_
            · intro K3 W3 hE3 hI3 hF3
              go_wp2_with (first | (go_at_call 12; refine (Nodes_ok K3 [x] _ _ hI3.inn (hF3.2 rfl) (all_one (hTx.ext hE3)) (by simp)).mono ?_; rintro e W4 ⟨rfl, hb⟩; rw [Hc1.out]) | fail)
              exact step_end ⟨⟨K3, Ext.refl _, hI3.quiet hb⟩, rfl⟩
            · rfl
            apply RunAll.is_
            · intro K3 W3 hE3 hI3 hF3
              go_wp2
              exact step_end ⟨⟨K3, Ext.refl _, hI3⟩, rfl⟩
            · rfl
            apply RunAll.is_
            · intro K3 W3 hE3 hI3 hF3
              go_wp2
              exact step_end ⟨⟨K3, Ext.refl _, hI3⟩, rfl⟩
            · rfl
            apply RunAll.is_
            · intro K3 W3 hE3 hI3 hF3
              go_wp2
              exact step_end ⟨⟨K3, Ext.refl _, hI3⟩, rfl⟩
            · rfl
            intro K12 W13 hE12 hI12 hF12
            change wpList _ _ _ (List.cons _ _) _ _
            go_wp2
            go_roundw
            case rel => exact ⟨i + 1, K12, by omega, by go_num, hI12, Lib.hid (HE.out.trans hE12)⟩
            case measure => simp [intOf]; omega
      · obtain rfl : i = os.length + 1 := by omega
        go_wp2
        go_ret
        exact ⟨rfl, s.below⟩
  · have hB : decide ((60 : Int) < (os.length : Nat)) = true := by simp; omega
    go_enter Tryd.func4, Tryd.ntmps4
    go_wp2_with (first
      | ((with_reducible refine gate_box (T := 38) ?_); refine wpList_boxG rfl rfl rfl (cs := (encO ⟨fm, cl', blk, ch⟩).toArray) rfl ?_; intro g3 W0 e hn; obtain ⟨K0, hE0, s0, hk3, _, _⟩ := s.box e hn; replace s := s0; clear hn e s0)
      | (go_at_call 9; refine (sanity_ok K0 _ s.inn (ht.ext hE0)).mono ?_; rintro e W1 ⟨rfl, hb⟩; replace s := s.quiet hb; clear hb)
      | fail)
    go_ret
    exact ⟨rfl, s.below⟩
end Go.Proofs.YtpfdlpniijgakaaDoor
