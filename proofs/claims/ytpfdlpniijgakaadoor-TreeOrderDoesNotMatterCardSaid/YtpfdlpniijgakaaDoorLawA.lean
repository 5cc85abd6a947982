/- What the law TreeNodesCount answers. -/
import Derived.Test.YtpfdlpniijgakaaDoorSanity
namespace Go.Proofs.YtpfdlpniijgakaaDoor
open Go Go.RowKit
set_option maxHeartbeats 400000

theorem at_version {os : List Chg} {ts : List (PT × Int)} (hV : Vers os ts) {i : Nat} (hi : i < ts.length) : ∃ x L, ts[i]? = some x ∧ (rplay os)[i]? = some L ∧ Rep x.1 x.2 L ∧ L.length ≤ os.length := by
  have hl := hV.1
  obtain ⟨x, L, h1, h2, h3⟩ := vers_rep hV os.length (Nat.le_refl _) i (by omega)
  rw [List.take_length] at h2
  exact ⟨x, L, h1, h2, h3, (rplay_spec os).2 L (List.mem_of_getElem? h2)⟩
theorem All2.at {K : Fz} {svs : List Value} {Ls : List Ents} {i : Nat} {L : Ents} (h : All2 K svs Ls) (hL : Ls[i]? = some L) : ∃ sv, svs[i]? = some sv ∧ SlK K 2 encE sv L ∧ Flat sv := by
  have hi := (List.getElem?_eq_some_iff.1 hL).1
  obtain ⟨sv, hs⟩ : ∃ sv, svs[i]? = some sv := ⟨_, List.getElem?_eq_getElem (by rw [h.1]; exact hi)⟩
  obtain ⟨sv', e, hS, hF⟩ := h.2 i sv hs
  rw [List.getD_eq_getElem?_getD, hL] at hS
  cases e
  exact ⟨sv, hs, hS, hF⟩
theorem size_RTree : (Tryd.prog.info? 35).map (·.size) = some 1 := by kernel_rfl
theorem one_cell {csw : Array Value} {o : Nat} {sv : Value} (h : ∀ (j : Nat) (u : Value), [sv][j]? = some u → csw[o + j]? = some u) (j : Nat) (u : Value) (hu : [sv][j]? = some u) : csw[o + j]? = some u := h j u hu

set_option maxRecDepth 100000 in
set_option maxHeartbeats 4000000 in
theorem NodesCount_ok (K : Fz) (sv : Value) (os : List Chg) (w : World) (hK : K.In w) (ht : Tab K) (hS : SlK K 4 encO sv os) :
    Calls Tryd.prog 3 #[sv] w fun e w' => e = .returned (.bool true) ∧ Below w.heap.size w w' := by
  have HS := Lib.hid hS
  obtain ⟨a, cap, rfl, hcap, _⟩ := hS
  have s := St.start hK
  by_cases hlen : os.length ≤ 60
  · have hB : decide ((60 : Int) < (os.length : Nat)) = false := by simp; omega
    go_enter Tryd.func3, Tryd.ntmps3
    go_wp2_with (first
      | (go_at_call 9; refine (sanity_ok K _ s.inn ht).mono ?_; rintro e W1 ⟨rfl, hb⟩; replace s := s.quiet hb; clear hb)
      | (go_at_call 10; refine (play_ok K _ os _ s.inn HS.out (by omega)).mono ?_; rintro e W2 ⟨v1, K1, rfl, hi, hl, hb, ts, hSl, hTs, hV, hE1⟩; replace s := s.call hi hl hb; clear hi hl hb)
      | (go_at_call 11; refine (rPlay_ok K1 _ os _ s.inn (HS.out.keep hE1) (by omega)).mono ?_; rintro e W3 ⟨v2, K2, rfl, hi, hl, hb, svs, hSw, hA2, hE2⟩; replace s := s.call hi hl hb; clear hi hl hb)
      | fail)
    obtain ⟨al, cl, rfl, hcl, hxl⟩ := hSl
    obtain ⟨aw, cw, rfl, hcw, hxw⟩ := hSw
    have hlts : ts.length = os.length + 1 := hV.1
    have hlsv : svs.length = os.length + 1 := by rw [hA2.1, rplay_len]
    have Hxl := Lib.hid hxl
    have Hxw := Lib.hid hxw
    have HV := Lib.hid hV
    have HA := Lib.hid hA2
    have HTs := Lib.hid hTs
    have HE2 := Lib.hid hE2
    have Hlts := Lib.hid hlts
    rw [hlts] at hcl ⊢
    rw [hlsv] at hcw ⊢
    clear hxl hxw hV hA2 hTs hE2 hE1 hlts hlsv
    go_loopw [6] (fun vi wr => ∃ (i : Nat) (K3 : Fz), i ≤ os.length + 1 ∧ vi = .int .i64 i ∧ St K w K3 wr ∧ Hid (Ext K2 K3)) (fun vi _ => os.length + 1 - (intOf vi).toNat)
    case atStart => exact ⟨0, K2, by omega, rfl, s, Lib.hid (Ext.refl _)⟩
    case round =>
      clear s
      obtain ⟨i, K4, hi, rfl, s, HE⟩ := hrel
      by_cases hlt : i < os.length + 1
      · obtain ⟨x, L, hx, hL, hR, hLl⟩ := at_version HV.out (i := i) (by rw [Hlts.out]; exact hlt)
        obtain ⟨sv0, hs0, hS0, hF0⟩ := HA.out.at hL
        obtain ⟨bl, ofl, csl, tyl, frl, rfl, hkl, hjl⟩ := Hxl.out i x hx
        obtain ⟨bw, ofw, csw, tyw, frw, rfl, hkw, hjw⟩ := Hxw.out i sv0 hs0
        have hTx := (HTs.out x (List.mem_of_getElem? hx)).ext (HE2.out.trans HE.out)
        replace hkl := HE.out _ _ (HE2.out _ _ hkl)
        replace hkw := HE.out _ _ hkw
        replace hS0 := hS0.keep HE.out
        have hc1 : (gathAll [x] []).length = cntTo L L.length := hR.nodes1
        have hc2 : (gathAll [x, x] []).length = cntTo L L.length := hR.nodes2.trans hR.nodes1
        have HS0 := Lib.hid hS0
        have Hjl := Lib.hid hjl
        have Hjw := Lib.hid hjw
        have HinB := Lib.hid hR.inb
        clear hx hL hs0 hS0 hF0 hjl hjw hR
        obtain ⟨c, hc0⟩ : ∃ c, cntTo L L.length = c := ⟨_, rfl⟩
        rw [hc0] at hc1 hc2
        go_wp2
        refine wp_region_run (m := 30) (n := 62) (I := fun K2 W => St K w K2 W) (K0 := K4)
          (ws := [.is (.slice (some ⟨bl, ofl, none⟩) (os.length + 1) cl), .is (.int .i64 (i : Nat)), .is (.pointer (some ⟨bl, ofl + i * 2, none⟩)), .is (.agg (encT x).toArray), .sat (fun K v => SlK K 2 encT v [x]), .is (.int .i64 (c : Nat)), .is (.slice (some ⟨bw, ofw, none⟩) (os.length + 1) cw), .is (.int .i64 (i : Nat)), .is (.pointer (some ⟨bw, ofw + i, none⟩)), .is (.agg #[sv0]), .is (.int .i64 (c : Nat)), .is (.bool false), .is (.bool false), .is (.slice (some ⟨bl, ofl, none⟩) (os.length + 1) cl), .is (.int .i64 (i : Nat)), .is (.pointer (some ⟨bl, ofl + i * 2, none⟩)), .is (.agg (encT x).toArray), .is (.slice (some ⟨bl, ofl, none⟩) (os.length + 1) cl), .is (.int .i64 (i : Nat)), .is (.pointer (some ⟨bl, ofl + i * 2, none⟩)), .is (.agg (encT x).toArray), .sat (fun K v => SlK K 2 encT v [x, x]), .is (.int .i64 (c : Nat)), .is (.slice (some ⟨bl, ofl, none⟩) (os.length + 1) cl), .is (.int .i64 (i : Nat)), .is (.pointer (some ⟨bl, ofl + i * 2, none⟩)), .is (.agg (encT x).toArray), .sat (fun K v => SlK K 2 encT v [x]), .is (.int .i64 (c : Nat)), .is (.bool false)])
          mixed_ok (by kernel_rfl) rfl rfl ?monoa s.drew ?_
        case monoa =>
          simp only [List.forall_mem_cons]
          exact ⟨trivial, trivial, trivial, trivial, fun _ _ _ hE h => h.keep hE, trivial, trivial, trivial, trivial, trivial, trivial, trivial, trivial, trivial, trivial, trivial, trivial, trivial, trivial, trivial, trivial, fun _ _ _ hE h => h.keep hE, trivial, trivial, trivial, trivial, trivial, fun _ _ _ hE h => h.keep hE, trivial, trivial, fun _ h => by cases h⟩
        apply RunAll.is_
        · intro K3 W3 hE3 hI3 hF3
          go_wp2
          exact step_end ⟨⟨K3, Ext.refl _, hI3⟩, rfl⟩
        · rfl
        apply RunAll.is_
        · intro K3 W3 hE3 hI3 hF3
          go_wp2
          exact step_end ⟨⟨K3, Ext.refl _, hI3⟩, rfl⟩
        · rfl
        apply RunAll.is_
        · intro K3 W3 hE3 hI3 hF3
          go_wp2
          exact step_end ⟨⟨K3, Ext.refl _, hI3⟩, rfl⟩
        · rfl
        apply RunAll.is_
        · intro K3 W3 hE3 hI3 hF3
          go_wp2_with (first | ((with_reducible refine gate_load (T := 31) ?_); refine wpList_loadAggW (vs := encT x) (off := ofl + i * 2) rfl rfl rfl Tryd.underlying31 rfl (hI3.inn.get (hE3 _ _ hkl)) (by kernel_rfl) (fun j u hu => Hjl.out j u hu) ?_) | fail)
          exact step_end ⟨⟨K3, Ext.refl _, hI3⟩, rfl⟩
        · rfl
        apply RunAll.sat_
        · intro K3 W3 hE3 hI3 hF3
          go_wp2_with (first | ((with_reducible refine gate_buildSlice (T := 24) ?_); refine wpList_build1W rfl rfl rfl (cs := (encT x).toArray) Tryd.underlying24 info_tree (by decide) (by decide) (by kernel_rfl) ?_; intro gn W5 eg hn; obtain ⟨K4, hE4, s4, hS4⟩ := fresh_trees hI3 eg hn (zs := [x]) rfl rfl; clear eg hn) | fail)
          generalize hgv : Value.slice (some ⟨gn, 0, none⟩) 1 1 = v10 at hS4 ⊢
          exact step_end ⟨v10, K4, hE4, s4, rfl, hS4⟩
        · intro v; rfl
        intro v4
        apply RunAll.is_
        · intro K3 W3 hE3 hI3 hF3
          go_wp2_with (first | (go_at_call 12; refine (Nodes_ok K3 [x] _ _ hI3.inn (hF3.2 rfl) (all_one (hTx.ext hE3)) (by simp)).mono ?_; rintro e W4 ⟨rfl, hb⟩) | fail)
          exact step_end ⟨⟨K3, Ext.refl _, hI3.quiet hb⟩, rfl⟩
        · rfl
        apply RunAll.is_
        · intro K3 W3 hE3 hI3 hF3
          go_wp2
          exact step_end ⟨⟨K3, Ext.refl _, hI3⟩, rfl⟩
        · rfl
        apply RunAll.is_
        · intro K3 W3 hE3 hI3 hF3
          go_wp2
          exact step_end ⟨⟨K3, Ext.refl _, hI3⟩, rfl⟩
        · rfl
        apply RunAll.is_
        · intro K3 W3 hE3 hI3 hF3
          go_wp2
          exact step_end ⟨⟨K3, Ext.refl _, hI3⟩, rfl⟩
        · rfl
        apply RunAll.is_
        · intro K3 W3 hE3 hI3 hF3
          go_wp2_with (first | ((with_reducible refine gate_load (T := 35) ?_); refine wpList_loadAggW (vs := [sv0]) (off := ofw + i) rfl rfl rfl Tryd.underlying35 rfl (hI3.inn.get (hE3 _ _ hkw)) (by kernel_rfl) (fun j u hu => by have := Hjw.out j u hu; rwa [Nat.mul_one] at this) ?_) | fail)
          exact step_end ⟨⟨K3, Ext.refl _, hI3⟩, rfl⟩
        · rfl
        apply RunAll.is_
        · intro K3 W3 hE3 hI3 hF3
          go_wp2_with (first | (go_at_call 13; refine (rCount_ok K3 _ L _ hI3.inn (HS0.out.keep hE3) (by omega) HinB.out).mono ?_; rintro e W4 ⟨rfl, hb⟩) | fail)
          exact step_end ⟨⟨K3, Ext.refl _, hI3.quiet hb⟩, rfl⟩
        · rfl
        apply RunAll.is_
        · intro K3 W3 hE3 hI3 hF3
          go_wp2
          exact step_end ⟨⟨K3, Ext.refl _, hI3⟩, rfl⟩
        · rfl
        apply RunAll.is_
        · intro K3 W3 hE3 hI3 hF3
          go_wp2
          exact step_end ⟨⟨K3, Ext.refl _, hI3⟩, rfl⟩
        · rfl
        apply RunAll.is_
        · intro K3 W3 hE3 hI3 hF3
          go_wp2
          exact step_end ⟨⟨K3, Ext.refl _, hI3⟩, rfl⟩
        · rfl
        apply RunAll.is_
        · intro K3 W3 hE3 hI3 hF3
          go_wp2
          exact step_end ⟨⟨K3, Ext.refl _, hI3⟩, rfl⟩
        · rfl
        apply RunAll.is_
        · intro K3 W3 hE3 hI3 hF3
          go_wp2
          exact step_end ⟨⟨K3, Ext.refl _, hI3⟩, rfl⟩
        · rfl
        apply RunAll.is_
        · intro K3 W3 hE3 hI3 hF3
          go_wp2_with (first | ((with_reducible refine gate_load (T := 31) ?_); refine wpList_loadAggW (vs := encT x) (off := ofl + i * 2) rfl rfl rfl Tryd.underlying31 rfl (hI3.inn.get (hE3 _ _ hkl)) (by kernel_rfl) (fun j u hu => Hjl.out j u hu) ?_) | fail)
          exact step_end ⟨⟨K3, Ext.refl _, hI3⟩, rfl⟩
        · rfl
        apply RunAll.is_
        · intro K3 W3 hE3 hI3 hF3
          go_wp2
          exact step_end ⟨⟨K3, Ext.refl _, hI3⟩, rfl⟩
        · rfl
        apply RunAll.is_
        · intro K3 W3 hE3 hI3 hF3
          go_wp2
          exact step_end ⟨⟨K3, Ext.refl _, hI3⟩, rfl⟩
        · rfl
        apply RunAll.is_
        · intro K3 W3 hE3 hI3 hF3
          go_wp2
          exact step_end ⟨⟨K3, Ext.refl _, hI3⟩, rfl⟩
        · rfl
        apply RunAll.is_
        · intro K3 W3 hE3 hI3 hF3
          go_wp2_with (first | ((with_reducible refine gate_load (T := 31) ?_); refine wpList_loadAggW (vs := encT x) (off := ofl + i * 2) rfl rfl rfl Tryd.underlying31 rfl (hI3.inn.get (hE3 _ _ hkl)) (by kernel_rfl) (fun j u hu => Hjl.out j u hu) ?_) | fail)
          exact step_end ⟨⟨K3, Ext.refl _, hI3⟩, rfl⟩
        · rfl
        apply RunAll.sat_
        · intro K3 W3 hE3 hI3 hF3
          go_wp2_with (first | ((with_reducible refine gate_buildSlice (T := 24) ?_); refine wpList_build2W rfl rfl rfl rfl (cs := (encT x ++ encT x).toArray) Tryd.underlying24 info_tree (by decide) (by decide) (by kernel_rfl) ?_; intro gn W5 eg hn; obtain ⟨K4, hE4, s4, hS4⟩ := fresh_trees hI3 eg hn (zs := [x, x]) rfl rfl; clear eg hn) | fail)
          generalize hgv : Value.slice (some ⟨gn, 0, none⟩) 2 2 = v10 at hS4 ⊢
          exact step_end ⟨v10, K4, hE4, s4, rfl, hS4⟩
        · intro v; rfl
        intro v21
        apply RunAll.is_
        · intro K3 W3 hE3 hI3 hF3
          go_wp2_with (first | (go_at_call 12; refine (Nodes_ok K3 [x, x] _ _ hI3.inn (hF3.2 rfl) (all_two (hTx.ext hE3) (hTx.ext hE3)) (by simp)).mono ?_; rintro e W4 ⟨rfl, hb⟩) | fail)
          exact step_end ⟨⟨K3, Ext.refl _, hI3.quiet hb⟩, rfl⟩
        · rfl
        apply RunAll.is_
        · intro K3 W3 hE3 hI3 hF3
          go_wp2
          exact step_end ⟨⟨K3, Ext.refl _, hI3⟩, rfl⟩
        · rfl
        apply RunAll.is_
        · intro K3 W3 hE3 hI3 hF3
          go_wp2
          exact step_end ⟨⟨K3, Ext.refl _, hI3⟩, rfl⟩
        · rfl
        apply RunAll.is_
        · intro K3 W3 hE3 hI3 hF3
          go_wp2
          exact step_end ⟨⟨K3, Ext.refl _, hI3⟩, rfl⟩
        · rfl
        apply RunAll.is_
        · intro K3 W3 hE3 hI3 hF3
          go_wp2_with (first | ((with_reducible refine gate_load (T := 31) ?_); refine wpList_loadAggW (vs := encT x) (off := ofl + i * 2) rfl rfl rfl Tryd.underlying31 rfl (hI3.inn.get (hE3 _ _ hkl)) (by kernel_rfl) (fun j u hu => Hjl.out j u hu) ?_) | fail)
          exact step_end ⟨⟨K3, Ext.refl _, hI3⟩, rfl⟩
        · rfl
        apply RunAll.sat_
        · intro K3 W3 hE3 hI3 hF3
          go_wp2_with (first | ((with_reducible refine gate_buildSlice (T := 24) ?_); refine wpList_build1W rfl rfl rfl (cs := (encT x).toArray) Tryd.underlying24 info_tree (by decide) (by decide) (by kernel_rfl) ?_; intro gn W5 eg hn; obtain ⟨K4, hE4, s4, hS4⟩ := fresh_trees hI3 eg hn (zs := [x]) rfl rfl; clear eg hn) | fail)
          generalize hgv : Value.slice (some ⟨gn, 0, none⟩) 1 1 = v10 at hS4 ⊢
          exact step_end ⟨v10, K4, hE4, s4, rfl, hS4⟩
        · intro v; rfl
        intro v4
        apply RunAll.is_
        · intro K3 W3 hE3 hI3 hF3
          go_wp2_with (first | (go_at_call 12; refine (Nodes_ok K3 [x] _ _ hI3.inn (hF3.2 rfl) (all_one (hTx.ext hE3)) (by simp)).mono ?_; rintro e W4 ⟨rfl, hb⟩) | fail)
          exact step_end ⟨⟨K3, Ext.refl _, hI3.quiet hb⟩, rfl⟩
        · rfl
        apply RunAll.is_
        · intro K3 W3 hE3 hI3 hF3
          go_wp2
          exact step_end ⟨⟨K3, Ext.refl _, hI3⟩, rfl⟩
        · rfl
        intro K5 W5 hE5 hI5 hF5
        change wpList _ _ _ (List.cons _ _) _ _
        go_wp2
        go_roundw
        case rel => exact ⟨i + 1, K5, by omega, by go_num, hI5, Lib.hid (HE.out.trans hE5)⟩
        case measure => simp [intOf]; omega
      · obtain rfl : i = os.length + 1 := by omega
        have h0 : (gathAll [] []).length = 0 := rfl
        go_wp2_with (first
          | (go_at_call 12; refine (Nodes_ok K4 [] _ _ s.inn (SlK.nil _ _ _ _ _) (fun t h => by cases h) (by decide)).mono ?_; rintro e W6 ⟨rfl, hb⟩; replace s := s.quiet hb; clear hb)
          | fail)
        go_ret
        exact ⟨rfl, s.below⟩
  · have hB : decide ((60 : Int) < (os.length : Nat)) = true := by simp; omega
    go_enter Tryd.func3, Tryd.ntmps3
    go_wp2_with (first
      | (go_at_call 9; refine (sanity_ok K _ s.inn ht).mono ?_; rintro e W1 ⟨rfl, hb⟩; replace s := s.quiet hb; clear hb)
      | fail)
    go_ret
    exact ⟨rfl, s.below⟩
end Go.Proofs.YtpfdlpniijgakaaDoor
