/- What the law TreeDiffMatchesSpec answers. -/
import Derived.Test.YtpfdlpniijgakaaDoorLawA
namespace Go.Proofs.YtpfdlpniijgakaaDoor
open Go Go.RowKit
set_option maxHeartbeats 400000

theorem SlK.ofNat {K : Fz} {v : Value} {xs : List Nat} (h : SlK K 1 encI v xs) : SlK K 1 encZ v (xs.map fun (x : Nat) => (x : Int)) := by
  obtain ⟨a, cap, rfl, hc, hx⟩ := h
  refine ⟨a, cap, by rw [List.length_map], by rw [List.length_map]; exact hc, fun i x hi => ?_⟩
  rw [List.getElem?_map] at hi
  cases hq : xs[i]? with
  | none => rw [hq] at hi; cases hi
  | some y =>
    rw [hq] at hi
    cases hi
    exact hx i y hq

set_option maxRecDepth 100000 in
set_option maxHeartbeats 8000000 in
theorem DiffMatches_ok (K : Fz) (sv : Value) (os : List Chg) (w : World) (hK : K.In w) (ht : Tab K) (hS : SlK K 4 encO sv os) :
    Calls Tryd.prog 5 #[sv] w fun e w' => e = .returned (.bool true) ∧ Below w.heap.size w w' := by
  have HS := Lib.hid hS
  obtain ⟨a, cap, rfl, hcap, _⟩ := hS
  have s := St.start hK
  by_cases hlen : os.length ≤ 60
  · have hB : decide ((60 : Int) < (os.length : Nat)) = false := by simp; omega
    go_enter Tryd.func5, Tryd.ntmps5
    go_wp2_with (first
      | (go_at_call 9; refine (sanity_ok K _ s.inn ht).mono ?_; rintro e W1 ⟨rfl, hb⟩; replace s := s.quiet hb; clear hb)
      | (go_at_call 10; refine (play_ok K _ os _ s.inn HS.out (by omega)).mono ?_; rintro e W2 ⟨v1, K1, rfl, hi, hl, hb, ts, hSl, hTs, hV, hE1⟩; replace s := s.call hi hl hb; clear hi hl hb)
      | (go_at_call 11; refine (rPlay_ok K1 _ os _ s.inn (HS.out.keep hE1) (by omega)).mono ?_; rintro e W3 ⟨v2, K2, rfl, hi, hl, hb, svs, hSw, hA2, hE2⟩; replace s := s.call hi hl hb; clear hi hl hb)
      | fail)
    obtain ⟨al, cl, rfl, hcl, hxl⟩ := hSl
    obtain ⟨aw, cw, rfl, hcw, hxw⟩ := hSw
    have hlts : ts.length = os.length + 1 := hV.1
    have hlsv : svs.length = os.length + 1 := by rw [hA2.1, rplay_len]
    have Hxl := Lib.hid hxl
    have Hxw := Lib.hid hxw
    have HV := Lib.hid hV
    have HA := Lib.hid hA2
    have HTs := Lib.hid hTs
    have HE2 := Lib.hid hE2
    have Hlts := Lib.hid hlts
    have HTab : Hid (Tab K2) := Lib.hid (ht.ext (hE1.trans hE2))
    rw [hlts] at hcl ⊢
    rw [hlsv] at hcw ⊢
    clear hxl hxw hV hA2 hTs hE2 hE1 hlts hlsv
    go_loopw [6] (fun vi wr => ∃ (i : Nat) (K3 : Fz), i ≤ os.length + 1 ∧ vi = .int .i64 i ∧ St K w K3 wr ∧ Hid (Ext K2 K3)) (fun vi _ => os.length + 1 - (intOf vi).toNat)
    case atStart => exact ⟨0, K2, by omega, rfl, s, Lib.hid (Ext.refl _)⟩
    case round =>
      clear s
      obtain ⟨i, K4, hi, rfl, s, HE⟩ := hrel
      by_cases hlt : i < os.length + 1
      · obtain ⟨x, L, hx, hL, hR, hLl⟩ := at_version HV.out (i := i) (by rw [Hlts.out]; exact hlt)
        obtain ⟨sv0, hs0, hS0, hF0⟩ := HA.out.at hL
        obtain ⟨bl, ofl, csl, tyl, frl, rfl, hkl, hjl⟩ := Hxl.out i x hx
        obtain ⟨bw, ofw, csw, tyw, frw, rfl, hkw, hjw⟩ := Hxw.out i sv0 hs0
        have hTx := (HTs.out x (List.mem_of_getElem? hx)).ext HE2.out
        replace hkl := HE2.out _ _ hkl
        have HS0 := Lib.hid hS0
        have Hjl := Lib.hid hjl
        have Hjw := Lib.hid hjw
        have HR := Lib.hid hR
        have HTx := Lib.hid hTx
        have Hkl := Lib.hid hkl
        have Hkw := Lib.hid hkw
        clear hx hL hs0 hS0 hF0 hjl hjw hR hTx hkl hkw
        go_wp2
        go_loopw [7] (fun vk wr => ∃ (k : Nat) (K3 : Fz), k ≤ os.length + 1 ∧ vk = .int .i64 k ∧ St K w K3 wr ∧ Hid (Ext K2 K3)) (fun vk _ => os.length + 1 - (intOf vk).toNat)
        case atStart => exact ⟨0, K4, by omega, rfl, s, HE⟩
        case round =>
          clear s HE
          obtain ⟨k, K5, hk, rfl, s, HE⟩ := hrel
          by_cases hlk : k < os.length + 1
          · obtain ⟨y, M, hy, hM, hRy, hMl⟩ := at_version HV.out (i := k) (by rw [Hlts.out]; exact hlk)
            obtain ⟨sv1, hs1, hS1, hF1⟩ := HA.out.at hM
            obtain ⟨b2, of2, cs2, ty2, fr2, e2, hk2, hj2⟩ := Hxl.out k y hy
            obtain ⟨b3, of3, cs3, ty3, fr3, e3, hk3, hj3⟩ := Hxw.out k sv1 hs1
            cases e2
            cases e3
            have hTy := ((HTs.out y (List.mem_of_getElem? hy)).ext HE2.out).ext HE.out
            have hTx := HTx.out.ext HE.out
            replace hk2 := HE.out _ _ (HE2.out _ _ hk2)
            replace hk3 := HE.out _ _ hk3
            have hkl := HE.out _ _ Hkl.out
            have hkw := HE.out _ _ Hkw.out
            have hS0 := HS0.out.keep HE.out
            have hS1' := hS1.keep HE.out
            have hT := HTab.out.ext HE.out
            have hD := HR.out.diffs hRy hTx hTy
            have hDl : (diffs 2 x.1 y.1 0).length ≤ 100000 := by have := diffs_le HR.out hRy hTx hTy; omega
            have hQ := HR.out.equal hRy hTx hTy
            have hRl : (rdiff L M).length ≤ 2000000 := by have := rdiff_len L M; omega
            have Hj2 := Lib.hid hj2
            have Hj3 := Lib.hid hj3
            have HD := Lib.hid hD
            have HQ := Lib.hid hQ
            have HS0' := Lib.hid hS0
            have HS1' := Lib.hid hS1'
            clear hy hM hs1 hS1 hF1 hj2 hj3 hRy hD hQ hS0 hS1'
            have hkB : decide ((k : Int) < (os.length : Nat) + 1) = true := by simp; omega
            go_wp2
            clear hkB
            refine wp_region_run (m := 19) (n := 77) (I := fun K2 W => St K w K2 W) (K0 := K5)
              (ws := [.is (.slice (some ⟨bl, ofl, none⟩) (os.length + 1) cl), .is (.int .i64 (i : Nat)), .is (.pointer (some ⟨bl, ofl + i * 2, none⟩)), .is (.agg (encT x).toArray), .is (.slice (some ⟨bl, ofl, none⟩) (os.length + 1) cl), .is (.int .i64 (k : Nat)), .is (.pointer (some ⟨bl, ofl + k * 2, none⟩)), .is (.agg (encT y).toArray), .sat (fun K v => SlK K 1 encZ v (rdiff L M)), .is (.slice (some ⟨bw, ofw, none⟩) (os.length + 1) cw), .is (.int .i64 (i : Nat)), .is (.pointer (some ⟨bw, ofw + i, none⟩)), .is (.agg #[sv0]), .is (.slice (some ⟨bw, ofw, none⟩) (os.length + 1) cw), .is (.int .i64 (k : Nat)), .is (.pointer (some ⟨bw, ofw + k, none⟩)), .is (.agg #[sv1]), .sat (fun K v => SlK K 1 encZ v (rdiff L M)), .is (.bool true)])
              mixed_ok (by kernel_rfl) rfl rfl ?monoc s.drew ?_
            case monoc =>
              simp only [List.forall_mem_cons]
              exact ⟨trivial, trivial, trivial, trivial, trivial, trivial, trivial, trivial, fun _ _ _ hE h => h.keep hE, trivial, trivial, trivial, trivial, trivial, trivial, trivial, trivial, fun _ _ _ hE h => h.keep hE, trivial, fun _ h => by cases h⟩
            apply RunAll.is_
            · intro K3 W3 hE3 hI3 hF3
              go_wp2
              exact step_end ⟨⟨K3, Ext.refl _, hI3⟩, rfl⟩
            · rfl
            apply RunAll.is_
            · intro K3 W3 hE3 hI3 hF3
              go_wp2
              exact step_end ⟨⟨K3, Ext.refl _, hI3⟩, rfl⟩
            · rfl
            apply RunAll.is_
            · intro K3 W3 hE3 hI3 hF3
              go_wp2
              exact step_end ⟨⟨K3, Ext.refl _, hI3⟩, rfl⟩
            · rfl
            apply RunAll.is_
            · intro K3 W3 hE3 hI3 hF3
              go_wp2_with (first | ((with_reducible refine gate_load (T := 31) ?_); refine wpList_loadAggW (vs := encT x) (off := ofl + i * 2) rfl rfl rfl Tryd.underlying31 rfl (hI3.inn.get (hE3 _ _ hkl)) (by kernel_rfl) (fun j u hu => Hjl.out j u hu) ?_) | fail)
              exact step_end ⟨⟨K3, Ext.refl _, hI3⟩, rfl⟩
            · rfl
            apply RunAll.is_
            · intro K3 W3 hE3 hI3 hF3
              go_wp2
              exact step_end ⟨⟨K3, Ext.refl _, hI3⟩, rfl⟩
            · rfl
            apply RunAll.is_
            · intro K3 W3 hE3 hI3 hF3
              go_wp2
              exact step_end ⟨⟨K3, Ext.refl _, hI3⟩, rfl⟩
            · rfl
            apply RunAll.is_
            · intro K3 W3 hE3 hI3 hF3
              go_wp2
              exact step_end ⟨⟨K3, Ext.refl _, hI3⟩, rfl⟩
            · rfl
            apply RunAll.is_
            · intro K3 W3 hE3 hI3 hF3
              go_wp2_with (first | ((with_reducible refine gate_load (T := 31) ?_); refine wpList_loadAggW (vs := encT y) (off := ofl + k * 2) rfl rfl rfl Tryd.underlying31 rfl (hI3.inn.get (hE3 _ _ hk2)) (by kernel_rfl) (fun j u hu => Hj2.out j u hu) ?_) | fail)
              exact step_end ⟨⟨K3, Ext.refl _, hI3⟩, rfl⟩
            · rfl
            apply RunAll.sat_
            · intro K3 W3 hE3 hI3 hF3
              go_wp2_with (first | (go_at_call 20; refine (Diff_ok x.1 y.1 x.2 y.2 K3 _ hI3.inn (hTx.ext hE3) (hTy.ext hE3) (hT.ext hE3) hDl).mono ?_; rintro e W4 ⟨v, K4, rfl, hi4, hl4, hb4, hx4⟩) | fail)
              obtain ⟨hS4, hE4⟩ := hx4
              exact step_end ⟨v, K4, hE4, hI3.call hi4 hl4 hb4, rfl, HD.out ▸ hS4.ofNat⟩
            · intro v; rfl
            intro v8
            apply RunAll.is_
            · intro K3 W3 hE3 hI3 hF3
              go_wp2
              exact step_end ⟨⟨K3, Ext.refl _, hI3⟩, rfl⟩
            · rfl
            apply RunAll.is_
            · intro K3 W3 hE3 hI3 hF3
              go_wp2
              exact step_end ⟨⟨K3, Ext.refl _, hI3⟩, rfl⟩
            · rfl
            apply RunAll.is_
            · intro K3 W3 hE3 hI3 hF3
              go_wp2
              exact step_end ⟨⟨K3, Ext.refl _, hI3⟩, rfl⟩
            · rfl
            apply RunAll.is_
            · intro K3 W3 hE3 hI3 hF3
              go_wp2_with (first | ((with_reducible refine gate_load (T := 35) ?_); refine wpList_loadAggW (vs := [sv0]) (off := ofw + i) rfl rfl rfl Tryd.underlying35 rfl (hI3.inn.get (hE3 _ _ hkw)) (by kernel_rfl) (fun j u hu => by have := Hjw.out j u hu; rwa [Nat.mul_one] at this) ?_) | fail)
              exact step_end ⟨⟨K3, Ext.refl _, hI3⟩, rfl⟩
            · rfl
            apply RunAll.is_
            · intro K3 W3 hE3 hI3 hF3
              go_wp2
              exact step_end ⟨⟨K3, Ext.refl _, hI3⟩, rfl⟩
            · rfl
            apply RunAll.is_
            · intro K3 W3 hE3 hI3 hF3
              go_wp2
              exact step_end ⟨⟨K3, Ext.refl _, hI3⟩, rfl⟩
            · rfl
            apply RunAll.is_
            · intro K3 W3 hE3 hI3 hF3
              go_wp2
              exact step_end ⟨⟨K3, Ext.refl _, hI3⟩, rfl⟩
            · rfl
            apply RunAll.is_
            · intro K3 W3 hE3 hI3 hF3
              go_wp2_with (first | ((with_reducible refine gate_load (T := 35) ?_); refine wpList_loadAggW (vs := [sv1]) (off := ofw + k) rfl rfl rfl Tryd.underlying35 rfl (hI3.inn.get (hE3 _ _ hk3)) (by kernel_rfl) (fun j u hu => by have := Hj3.out j u hu; rwa [Nat.mul_one] at this) ?_) | fail)
              exact step_end ⟨⟨K3, Ext.refl _, hI3⟩, rfl⟩
            · rfl
            apply RunAll.sat_
            · intro K3 W3 hE3 hI3 hF3
              go_wp2_with (first | (go_at_call 21; refine (rDiff_ok K3 _ _ L M _ hI3.inn (HS0'.out.keep hE3) (HS1'.out.keep hE3) (by omega) (by omega)).mono ?_; rintro e W4 ⟨v, K4, rfl, hi4, hl4, hb4, hx4⟩) | fail)
              obtain ⟨hS4, hE4⟩ := hx4
              exact step_end ⟨v, K4, hE4, hI3.call hi4 hl4 hb4, rfl, hS4⟩
            · intro v; rfl
            intro v17
            apply RunAll.is_
            · intro K3 W3 hE3 hI3 hF3
              go_wp2_with (first | (go_at_call 19; refine (rSame_ok K3 _ _ (rdiff L M) (rdiff L M) _ hI3.inn (hF3.1.2 rfl) (hF3.2 rfl) hRl hRl).mono ?_; rintro e W4 ⟨rfl, hb⟩; rw [decide_eq_true rfl]) | fail)
              exact step_end ⟨⟨K3, Ext.refl _, hI3.quiet hb⟩, rfl⟩
            · rfl
            intro K6 W6 hE6 hI6 hF6
            change wpList _ _ _ (List.cons _ _) _ _
            go_wp2
            replace hTx := hTx.ext hE6
            replace hTy := hTy.ext hE6
            replace hk2 := hE6 _ _ hk2
            replace hk3 := hE6 _ _ hk3
            replace hkl := hE6 _ _ hkl
            replace hkw := hE6 _ _ hkw
            replace HS0' := Lib.hid (HS0'.out.keep hE6)
            replace HS1' := Lib.hid (HS1'.out.keep hE6)
            replace hT := hT.ext hE6
            obtain ⟨eq, heq⟩ : ∃ eq, (rdiff L M).isEmpty = eq := ⟨_, rfl⟩
            have HQ2 : Hid ((x.2 == y.2 && (diffs 2 x.1 y.1 0).isEmpty) = eq) := Lib.hid (HQ.out.trans heq)
            have Heq := Lib.hid heq
            clear heq hF6
            refine wp_region_run (m := 22) (n := 77) (I := fun K2 W => St K w K2 W) (K0 := K6)
              (ws := [.is (.bool true), .is (.bool false), .is (.bool false), .is (.slice (some ⟨bl, ofl, none⟩) (os.length + 1) cl), .is (.int .i64 (i : Nat)), .is (.pointer (some ⟨bl, ofl + i * 2, none⟩)), .is (.agg (encT x).toArray), .is (.slice (some ⟨bl, ofl, none⟩) (os.length + 1) cl), .is (.int .i64 (k : Nat)), .is (.pointer (some ⟨bl, ofl + k * 2, none⟩)), .is (.agg (encT y).toArray), .is (.bool eq), .is (.slice (some ⟨bw, ofw, none⟩) (os.length + 1) cw), .is (.int .i64 (i : Nat)), .is (.pointer (some ⟨bw, ofw + i, none⟩)), .is (.agg #[sv0]), .is (.slice (some ⟨bw, ofw, none⟩) (os.length + 1) cw), .is (.int .i64 (k : Nat)), .is (.pointer (some ⟨bw, ofw + k, none⟩)), .is (.agg #[sv1]), .is (.bool eq), .is (.bool false)])
              mixed_ok (by kernel_rfl) rfl rfl ?monod hI6.drew ?_
            case monod =>
              simp only [List.forall_mem_cons]
              exact ⟨trivial, trivial, trivial, trivial, trivial, trivial, trivial, trivial, trivial, trivial, trivial, trivial, trivial, trivial, trivial, trivial, trivial, trivial, trivial, trivial, trivial, trivial, fun _ h => by cases h⟩
            apply RunAll.is_
            · intro K3 W3 hE3 hI3 hF3
              go_wp2
              exact step_end ⟨⟨K3, Ext.refl _, hI3⟩, rfl⟩
            · rfl
            apply RunAll.is_
            · intro K3 W3 hE3 hI3 hF3
              go_wp2
              exact step_end ⟨⟨K3, Ext.refl _, hI3⟩, rfl⟩
            · rfl
            apply RunAll.is_
            · intro K3 W3 hE3 hI3 hF3
              go_wp2
              exact step_end ⟨⟨K3, Ext.refl _, hI3⟩, rfl⟩
            · rfl
            apply RunAll.is_
            · intro K3 W3 hE3 hI3 hF3
              go_wp2
              exact step_end ⟨⟨K3, Ext.refl _, hI3⟩, rfl⟩
            · rfl
            apply RunAll.is_
            · intro K3 W3 hE3 hI3 hF3
              go_wp2
              exact step_end ⟨⟨K3, Ext.refl _, hI3⟩, rfl⟩
            · rfl
            apply RunAll.is_
            · intro K3 W3 hE3 hI3 hF3
              go_wp2
              exact step_end ⟨⟨K3, Ext.refl _, hI3⟩, rfl⟩
            · rfl
            apply RunAll.is_
            · intro K3 W3 hE3 hI3 hF3
              go_wp2_with (first | ((with_reducible refine gate_load (T := 31) ?_); refine wpList_loadAggW (vs := encT x) (off := ofl + i * 2) rfl rfl rfl Tryd.underlying31 rfl (hI3.inn.get (hE3 _ _ hkl)) (by kernel_rfl) (fun j u hu => Hjl.out j u hu) ?_) | fail)
              exact step_end ⟨⟨K3, Ext.refl _, hI3⟩, rfl⟩
            · rfl
            apply RunAll.is_
            · intro K3 W3 hE3 hI3 hF3
              go_wp2
              exact step_end ⟨⟨K3, Ext.refl _, hI3⟩, rfl⟩
            · rfl
            apply RunAll.is_
            · intro K3 W3 hE3 hI3 hF3
              go_wp2
              exact step_end ⟨⟨K3, Ext.refl _, hI3⟩, rfl⟩
            · rfl
            apply RunAll.is_
            · intro K3 W3 hE3 hI3 hF3
              go_wp2
              exact step_end ⟨⟨K3, Ext.refl _, hI3⟩, rfl⟩
            · rfl
            apply RunAll.is_
            · intro K3 W3 hE3 hI3 hF3
              go_wp2_with (first | ((with_reducible refine gate_load (T := 31) ?_); refine wpList_loadAggW (vs := encT y) (off := ofl + k * 2) rfl rfl rfl Tryd.underlying31 rfl (hI3.inn.get (hE3 _ _ hk2)) (by kernel_rfl) (fun j u hu => Hj2.out j u hu) ?_) | fail)
              exact step_end ⟨⟨K3, Ext.refl _, hI3⟩, rfl⟩
            · rfl
            apply RunAll.is_
            · intro K3 W3 hE3 hI3 hF3
              go_wp2_with (first | (go_at_call 22; refine (Equal_ok x.1 y.1 x.2 y.2 K3 _ hI3.inn (hTx.ext hE3) (hTy.ext hE3) (hT.ext hE3) hDl).mono ?_; rintro e W4 ⟨rfl, hb⟩; rw [HQ2.out]) | fail)
              exact step_end ⟨⟨K3, Ext.refl _, hI3.quiet hb⟩, rfl⟩
            · rfl
            apply RunAll.is_
            · intro K3 W3 hE3 hI3 hF3
              go_wp2
              exact step_end ⟨⟨K3, Ext.refl _, hI3⟩, rfl⟩
            · rfl
            apply RunAll.is_
            · intro K3 W3 hE3 hI3 hF3
              go_wp2
              exact step_end ⟨⟨K3, Ext.refl _, hI3⟩, rfl⟩
            · rfl
            apply RunAll.is_
            · intro K3 W3 hE3 hI3 hF3
              go_wp2
              exact step_end ⟨⟨K3, Ext.refl _, hI3⟩, rfl⟩
            · rfl
            apply RunAll.is_
            · intro K3 W3 hE3 hI3 hF3
              go_wp2_with (first | ((with_reducible refine gate_load (T := 35) ?_); refine wpList_loadAggW (vs := [sv0]) (off := ofw + i) rfl rfl rfl Tryd.underlying35 rfl (hI3.inn.get (hE3 _ _ hkw)) (by kernel_rfl) (fun j u hu => by have := Hjw.out j u hu; rwa [Nat.mul_one] at this) ?_) | fail)
              exact step_end ⟨⟨K3, Ext.refl _, hI3⟩, rfl⟩
            · rfl
            apply RunAll.is_
            · intro K3 W3 hE3 hI3 hF3
              go_wp2
              exact step_end ⟨⟨K3, Ext.refl _, hI3⟩, rfl⟩
            · rfl
            apply RunAll.is_
            · intro K3 W3 hE3 hI3 hF3
              go_wp2
              exact step_end ⟨⟨K3, Ext.refl _, hI3⟩, rfl⟩
            · rfl
            apply RunAll.is_
            · intro K3 W3 hE3 hI3 hF3
              go_wp2
              exact step_end ⟨⟨K3, Ext.refl _, hI3⟩, rfl⟩
            · rfl
            apply RunAll.is_
            · intro K3 W3 hE3 hI3 hF3
              go_wp2_with (first | ((with_reducible refine gate_load (T := 35) ?_); refine wpList_loadAggW (vs := [sv1]) (off := ofw + k) rfl rfl rfl Tryd.underlying35 rfl (hI3.inn.get (hE3 _ _ hk3)) (by kernel_rfl) (fun j u hu => by have := Hj3.out j u hu; rwa [Nat.mul_one] at this) ?_) | fail)
              exact step_end ⟨⟨K3, Ext.refl _, hI3⟩, rfl⟩
            · rfl
            apply RunAll.is_
            · intro K3 W3 hE3 hI3 hF3
              go_wp2_with (first | (go_at_call 17; refine (rEqual_ok K3 _ _ L M _ hI3.inn (HS0'.out.keep hE3) (HS1'.out.keep hE3) (by omega) (by omega)).mono ?_; rintro e W4 ⟨rfl, hb⟩; rw [Heq.out]) | fail)
              exact step_end ⟨⟨K3, Ext.refl _, hI3.quiet hb⟩, rfl⟩
            · rfl
            apply RunAll.is_
            · intro K3 W3 hE3 hI3 hF3
              go_wp2
              exact step_end ⟨⟨K3, Ext.refl _, hI3⟩, rfl⟩
            · rfl
            intro K7 W7 hE7 hI7 hF7
            change wpList _ _ _ (List.cons _ _) _ _
            go_wp2
            go_roundw
            case rel => exact ⟨k + 1, K7, by omega, by go_num, hI7, Lib.hid ((HE.out.trans hE6).trans hE7)⟩
            case measure => simp [intOf]; omega
          · obtain rfl : k = os.length + 1 := by omega
            go_wp2
            go_roundw
            case rel => exact ⟨i + 1, K5, by omega, by go_num, s, HE⟩
            case measure => simp [intOf]; omega
      · obtain rfl : i = os.length + 1 := by omega
        go_wp2
        go_ret
        exact ⟨rfl, s.below⟩
  · have hB : decide ((60 : Int) < (os.length : Nat)) = true := by simp; omega
    go_enter Tryd.func5, Tryd.ntmps5
    go_wp2_with (first
      | (go_at_call 9; refine (sanity_ok K _ s.inn ht).mono ?_; rintro e W1 ⟨rfl, hb⟩; replace s := s.quiet hb; clear hb)
      | fail)
    go_ret
    exact ⟨rfl, s.below⟩
end Go.Proofs.YtpfdlpniijgakaaDoor
