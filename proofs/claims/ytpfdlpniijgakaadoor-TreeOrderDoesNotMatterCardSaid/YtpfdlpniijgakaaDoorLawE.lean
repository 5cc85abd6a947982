/- What the law TreePlays answers. -/
import Derived.Test.YtpfdlpniijgakaaDoorYieldsW
namespace Go.Proofs.YtpfdlpniijgakaaDoor
open Go Go.RowKit
set_option maxHeartbeats 400000

theorem rGet_at (K : Fz) (sv : Value) (L : Ents) (blk c : Int) (is : Bool) (w : World) (hr : rget L blk = (c, is)) (hK : K.In w) (hS : SlK K 2 encE sv L) (hlen : L.length ≤ 1000000) :
    Calls Tryd.prog 29 #[.agg #[sv], .int .i64 blk] w fun e w' => e = .returned (.tuple #[.int .i64 c, .bool is]) ∧ Below w.heap.size w w' := by
  have := rGet_ok K sv L blk w hK hS hlen
  rw [hr] at this
  exact this
theorem all_walk {t : PT} {n : Int} {L : Ents} (h : Rep t n L) (f u : Int) : L.filter (inR f u) = walkTo 2 t 0 f u 16 := by
  rw [walkPart_walks, h.walks]

set_option maxRecDepth 100000 in
set_option maxHeartbeats 16000000 in
theorem Plays_ok (K : Fz) (sv : Value) (os : List Chg) (fr tu : Int) (w : World) (hK : K.In w) (ht : Tab K) (hS : SlK K 4 encO sv os) :
    Calls Tryd.prog 7 #[sv, .int .i64 fr, .int .i64 tu] w fun e w' => e = .returned (.bool true) ∧ Below w.heap.size w w' := by
  have HS := Lib.hid hS
  obtain ⟨a, cap, rfl, hcap, hxs⟩ := hS
  have Hxs := Lib.hid hxs
  clear hxs
  have s := St.start hK
  by_cases hlen : os.length ≤ 80
  · have hB : decide ((80 : Int) < (os.length : Nat)) = false := by simp; omega
    go_enter Tryd.func7, Tryd.ntmps7
    go_wp2_with (first
      | (go_at_call 9; refine (sanity_ok K _ s.inn ht).mono ?_; rintro e W1 ⟨rfl, hb⟩; replace s := s.quiet hb; clear hb)
      | (go_at_call 10; refine (play_ok K _ os _ s.inn HS.out (by omega)).mono ?_; rintro e W2 ⟨v1, K1, rfl, hi, hl, hb, ts, hSl, hTs, hV, hE1⟩; replace s := s.call hi hl hb; clear hi hl hb)
      | (go_at_call 11; refine (rPlay_ok K1 _ os _ s.inn (HS.out.keep hE1) (by omega)).mono ?_; rintro e W3 ⟨v2, K2, rfl, hi, hl, hb, svs, hSw, hA2, hE2⟩; replace s := s.call hi hl hb; clear hi hl hb)
      | fail)
    obtain ⟨al, cl, rfl, hcl, hxl⟩ := hSl
    obtain ⟨aw, cw, rfl, hcw, hxw⟩ := hSw
    have hlts : ts.length = os.length + 1 := hV.1
    have hlsv : svs.length = os.length + 1 := by rw [hA2.1, rplay_len]
    have Hxl := Lib.hid hxl
    have Hxw := Lib.hid hxw
    have HV := Lib.hid hV
    have HA := Lib.hid hA2
    have HTs := Lib.hid hTs
    have HE2 := Lib.hid hE2
    have HE12 := Lib.hid (hE1.trans hE2)
    have Hlts := Lib.hid hlts
    rw [hlts] at hcl ⊢
    rw [hlsv] at hcw ⊢
    clear hxl hxw hV hA2 hTs hE2 hE1 hlts hlsv
    go_loopw [10] (fun vi wr => ∃ (i : Nat) (K3 : Fz), i ≤ os.length + 1 ∧ vi = .int .i64 i ∧ St K w K3 wr ∧ Hid (Ext K2 K3)) (fun vi _ => os.length + 1 - (intOf vi).toNat)
    case atStart => exact ⟨0, K2, by omega, rfl, s, Lib.hid (Ext.refl _)⟩
    case round =>
      clear s
      obtain ⟨i, K4, hi, rfl, s, HE⟩ := hrel
      by_cases hlt : i < os.length + 1
      · obtain ⟨x, L, hx, hL, hR, hLl⟩ := at_version HV.out (i := i) (by rw [Hlts.out]; exact hlt)
        obtain ⟨sv0, hs0, hS0, hF0⟩ := HA.out.at hL
        obtain ⟨bl, ofl, csl, tyl, frl, rfl, hkl, hjl⟩ := Hxl.out i x hx
        obtain ⟨bw, ofw, csw, tyw, frw, rfl, hkw, hjw⟩ := Hxw.out i sv0 hs0
        have hTx := (HTs.out x (List.mem_of_getElem? hx)).ext (HE2.out.trans HE.out)
        replace hkl := HE.out _ _ (HE2.out _ _ hkl)
        replace hkw := HE.out _ _ hkw
        have HS0 := Lib.hid (hS0.keep HE.out)
        have Hjl := Lib.hid hjl
        have Hjw := Lib.hid hjw
        have HR := Lib.hid hR
        have Hn := Lib.hid hR.len
        have hiB : decide ((i : Int) < (os.length : Nat) + 1) = true := by simp; omega
        have hfl : ∀ (p : Int × Int → Bool), (L.filter p).length ≤ 1000000 := fun p => Nat.le_trans (List.length_filter_le _ _) (by omega)
        have Hfl := Lib.hid hfl
        clear hx hL hs0 hS0 hF0 hjl hjw hR hfl
        go_wp2
        clear hiB
        refine wp_region_run (m := 10) (n := 130) (I := fun K2 W => St K w K2 W) (K0 := K4)
          (ws := [.is (.slice (some ⟨bl, ofl, none⟩) (os.length + 1) cl), .is (.int .i64 (i : Nat)), .is (.pointer (some ⟨bl, ofl + i * 2, none⟩)), .is (.agg (encT x).toArray), .is (.slice (some ⟨bw, ofw, none⟩) (os.length + 1) cw), .is (.int .i64 (i : Nat)), .is (.pointer (some ⟨bw, ofw + i, none⟩)), .is (.agg #[sv0]), .sat (fun K v => SlK K 2 encE v (L.filter (inR 0 4096))), .is (.bool true)])
          mixed_ok (by kernel_rfl) rfl rfl ?monoe9 s.drew ?_
        case monoe9 =>
          simp only [List.forall_mem_cons]
          exact ⟨trivial, trivial, trivial, trivial, trivial, trivial, trivial, trivial, fun _ _ _ hE h => h.keep hE, trivial, fun _ h => by cases h⟩
        apply RunAll.is_
        · intro K3 W3 hE3 hI3 hF3
          go_wp2
          exact step_end ⟨⟨K3, Ext.refl _, hI3⟩, rfl⟩
        · rfl
        apply RunAll.is_
        · intro K3 W3 hE3 hI3 hF3
          go_wp2
          exact step_end ⟨⟨K3, Ext.refl _, hI3⟩, rfl⟩
        · rfl
        apply RunAll.is_
        · intro K3 W3 hE3 hI3 hF3
          go_wp2
          exact step_end ⟨⟨K3, Ext.refl _, hI3⟩, rfl⟩
        · rfl
        apply RunAll.is_
        · intro K3 W3 hE3 hI3 hF3
          go_wp2_with (first | ((with_reducible refine gate_load (T := 31) ?_); refine wpList_loadAggW (vs := encT x) (off := ofl + i * 2) rfl rfl rfl Tryd.underlying31 rfl (hI3.inn.get (hE3 _ _ hkl)) (by kernel_rfl) (fun j u hu => Hjl.out j u hu) ?_) | fail)
          exact step_end ⟨⟨K3, Ext.refl _, hI3⟩, rfl⟩
        · rfl
        apply RunAll.is_
        · intro K3 W3 hE3 hI3 hF3
          go_wp2
          exact step_end ⟨⟨K3, Ext.refl _, hI3⟩, rfl⟩
        · rfl
        apply RunAll.is_
        · intro K3 W3 hE3 hI3 hF3
          go_wp2
          exact step_end ⟨⟨K3, Ext.refl _, hI3⟩, rfl⟩
        · rfl
        apply RunAll.is_
        · intro K3 W3 hE3 hI3 hF3
          go_wp2
          exact step_end ⟨⟨K3, Ext.refl _, hI3⟩, rfl⟩
        · rfl
        apply RunAll.is_
        · intro K3 W3 hE3 hI3 hF3
          go_wp2_with (first | ((with_reducible refine gate_load (T := 35) ?_); refine wpList_loadAggW (vs := [sv0]) (off := ofw + i) rfl rfl rfl Tryd.underlying35 rfl (hI3.inn.get (hE3 _ _ hkw)) (by kernel_rfl) (fun j u hu => by have := Hjw.out j u hu; rwa [Nat.mul_one] at this) ?_) | fail)
          exact step_end ⟨⟨K3, Ext.refl _, hI3⟩, rfl⟩
        · rfl
        apply RunAll.sat_
        · intro K3 W3 hE3 hI3 hF3
          go_wp2_with (first | (go_at_call 25; refine (rAll_ok K3 _ L _ hI3.inn (HS0.out.keep hE3) (by omega)).mono ?_; rintro e W4 ⟨v, K4', rfl, hi4, hl4, hb4, hx4⟩) | fail)
          obtain ⟨hS4, hE4⟩ := hx4
          exact step_end ⟨v, K4', hE4, hI3.call hi4 hl4 hb4, rfl, hS4⟩
        · intro v; rfl
        intro v8
        apply RunAll.is_
        · intro K3 W3 hE3 hI3 hF3
          go_wp2_with (first | (go_at_call 24; refine (yields_true_ok x.1 x.2 0 0 _ (L.filter (inR 0 4096)) 2 K3 _ hI3.inn (hTx.ext hE3) (hF3.2 rfl) (Hfl.out _) (all_walk HR.out 0 4096)).mono ?_; rintro e W4 ⟨rfl, hb⟩) | fail)
          exact step_end ⟨⟨K3, Ext.refl _, hI3.quiet hb⟩, rfl⟩
        · rfl
        intro K5 W5 hE5 hI5 hF5
        change wpList _ _ _ (List.cons _ _) _ _
        replace hTx := hTx.ext hE5
        replace hkl := hE5 _ _ hkl
        replace hkw := hE5 _ _ hkw
        replace HS0 := Lib.hid (HS0.out.keep hE5)
        replace HE := Lib.hid (HE.out.trans hE5)
        clear hE5 hF5
        go_wp2
        refine wp_region_run (m := 14) (n := 130) (I := fun K2 W => St K w K2 W) (K0 := K5)
          (ws := [.is (.slice (some ⟨bl, ofl, none⟩) (os.length + 1) cl), .is (.int .i64 (i : Nat)), .is (.pointer (some ⟨bl, ofl + i * 2, none⟩)), .is (.agg (encT x).toArray), .is (.int .i64 fr), .is (.int .i64 tu), .is (.slice (some ⟨bw, ofw, none⟩) (os.length + 1) cw), .is (.int .i64 (i : Nat)), .is (.pointer (some ⟨bw, ofw + i, none⟩)), .is (.agg #[sv0]), .is (.int .i64 fr), .is (.int .i64 tu), .sat (fun K v => SlK K 2 encE v (L.filter (inR fr tu))), .is (.bool true)])
          mixed_ok (by kernel_rfl) rfl rfl ?monoe10 hI5.drew ?_
        case monoe10 =>
          simp only [List.forall_mem_cons]
          exact ⟨trivial, trivial, trivial, trivial, trivial, trivial, trivial, trivial, trivial, trivial, trivial, trivial, fun _ _ _ hE h => h.keep hE, trivial, fun _ h => by cases h⟩
        apply RunAll.is_
        · intro K3 W3 hE3 hI3 hF3
          go_wp2
          exact step_end ⟨⟨K3, Ext.refl _, hI3⟩, rfl⟩
        · rfl
        apply RunAll.is_
        · intro K3 W3 hE3 hI3 hF3
          go_wp2
          exact step_end ⟨⟨K3, Ext.refl _, hI3⟩, rfl⟩
        · rfl
        apply RunAll.is_
        · intro K3 W3 hE3 hI3 hF3
          go_wp2
          exact step_end ⟨⟨K3, Ext.refl _, hI3⟩, rfl⟩
        · rfl
        apply RunAll.is_
        · intro K3 W3 hE3 hI3 hF3
          go_wp2_with (first | ((with_reducible refine gate_load (T := 31) ?_); refine wpList_loadAggW (vs := encT x) (off := ofl + i * 2) rfl rfl rfl Tryd.underlying31 rfl (hI3.inn.get (hE3 _ _ hkl)) (by kernel_rfl) (fun j u hu => Hjl.out j u hu) ?_) | fail)
          exact step_end ⟨⟨K3, Ext.refl _, hI3⟩, rfl⟩
        · rfl
        apply RunAll.is_
        · intro K3 W3 hE3 hI3 hF3
          go_wp2
          exact step_end ⟨⟨K3, Ext.refl _, hI3⟩, rfl⟩
        · rfl
        apply RunAll.is_
        · intro K3 W3 hE3 hI3 hF3
          go_wp2
          exact step_end ⟨⟨K3, Ext.refl _, hI3⟩, rfl⟩
        · rfl
        apply RunAll.is_
        · intro K3 W3 hE3 hI3 hF3
          go_wp2
          exact step_end ⟨⟨K3, Ext.refl _, hI3⟩, rfl⟩
        · rfl
        apply RunAll.is_
        · intro K3 W3 hE3 hI3 hF3
          go_wp2
          exact step_end ⟨⟨K3, Ext.refl _, hI3⟩, rfl⟩
        · rfl
        apply RunAll.is_
        · intro K3 W3 hE3 hI3 hF3
          go_wp2
          exact step_end ⟨⟨K3, Ext.refl _, hI3⟩, rfl⟩
        · rfl
        apply RunAll.is_
        · intro K3 W3 hE3 hI3 hF3
          go_wp2_with (first | ((with_reducible refine gate_load (T := 35) ?_); refine wpList_loadAggW (vs := [sv0]) (off := ofw + i) rfl rfl rfl Tryd.underlying35 rfl (hI3.inn.get (hE3 _ _ hkw)) (by kernel_rfl) (fun j u hu => by have := Hjw.out j u hu; rwa [Nat.mul_one] at this) ?_) | fail)
          exact step_end ⟨⟨K3, Ext.refl _, hI3⟩, rfl⟩
        · rfl
        apply RunAll.is_
        · intro K3 W3 hE3 hI3 hF3
          go_wp2
          exact step_end ⟨⟨K3, Ext.refl _, hI3⟩, rfl⟩
        · rfl
        apply RunAll.is_
        · intro K3 W3 hE3 hI3 hF3
          go_wp2
          exact step_end ⟨⟨K3, Ext.refl _, hI3⟩, rfl⟩
        · rfl
        apply RunAll.sat_
        · intro K3 W3 hE3 hI3 hF3
          go_wp2_with (first | (go_at_call 26; refine (rRange_ok K3 _ L fr tu _ hI3.inn (HS0.out.keep hE3) (by omega)).mono ?_; rintro e W4 ⟨v, K4', rfl, hi4, hl4, hb4, hx4⟩) | fail)
          obtain ⟨hS4, hE4⟩ := hx4
          exact step_end ⟨v, K4', hE4, hI3.call hi4 hl4 hb4, rfl, hS4⟩
        · intro v; rfl
        intro v12
        apply RunAll.is_
        · intro K3 W3 hE3 hI3 hF3
          go_wp2_with (first | (go_at_call 24; refine (yields_false_ok x.1 x.2 fr tu _ (L.filter (inR fr tu)) 1 K3 _ hI3.inn (hTx.ext hE3) (hF3.2 rfl) (Hfl.out _) (all_walk HR.out fr tu)).mono ?_; rintro e W4 ⟨rfl, hb⟩) | fail)
          exact step_end ⟨⟨K3, Ext.refl _, hI3.quiet hb⟩, rfl⟩
        · rfl
        intro K6 W6 hE6 hI6 hF6
        change wpList _ _ _ (List.cons _ _) _ _
        replace hTx := hTx.ext hE6
        replace hkl := hE6 _ _ hkl
        replace hkw := hE6 _ _ hkw
        replace HS0 := Lib.hid (HS0.out.keep hE6)
        replace HE := Lib.hid (HE.out.trans hE6)
        clear hE6 hF6
        go_wp2
        refine wp_region_run (m := 18) (n := 130) (I := fun K2 W => St K w K2 W) (K0 := K6)
          (ws := [.is (.bool true), .is (.bool false), .is (.bool false), .is (.bool true), .is (.bool false), .is (.bool false), .is (.bool false), .is (.slice (some ⟨bl, ofl, none⟩) (os.length + 1) cl), .is (.int .i64 (i : Nat)), .is (.pointer (some ⟨bl, ofl + i * 2, none⟩)), .is (.agg (encT x).toArray), .is (.int .i64 (L.length : Nat)), .is (.slice (some ⟨bw, ofw, none⟩) (os.length + 1) cw), .is (.int .i64 (i : Nat)), .is (.pointer (some ⟨bw, ofw + i, none⟩)), .is (.agg #[sv0]), .is (.int .i64 (L.length : Nat)), .is (.bool false)])
          mixed_ok (by kernel_rfl) rfl rfl ?monoe11 hI6.drew ?_
        case monoe11 =>
          simp only [List.forall_mem_cons]
          exact ⟨trivial, trivial, trivial, trivial, trivial, trivial, trivial, trivial, trivial, trivial, trivial, trivial, trivial, trivial, trivial, trivial, trivial, trivial, fun _ h => by cases h⟩
        apply RunAll.is_
        · intro K3 W3 hE3 hI3 hF3
          go_wp2
          exact step_end ⟨⟨K3, Ext.refl _, hI3⟩, rfl⟩
        · rfl
        apply RunAll.is_
        · intro K3 W3 hE3 hI3 hF3
          go_wp2
          exact step_end ⟨⟨K3, Ext.refl _, hI3⟩, rfl⟩
        · rfl
        apply RunAll.is_
        · intro K3 W3 hE3 hI3 hF3
          go_wp2
          exact step_end ⟨⟨K3, Ext.refl _, hI3⟩, rfl⟩
        · rfl
        apply RunAll.is_
        · intro K3 W3 hE3 hI3 hF3
          go_wp2
          exact step_end ⟨⟨K3, Ext.refl _, hI3⟩, rfl⟩
        · rfl
        apply RunAll.is_
        · intro K3 W3 hE3 hI3 hF3
          go_wp2
          exact step_end ⟨⟨K3, Ext.refl _, hI3⟩, rfl⟩
        · rfl
        apply RunAll.is_
        · intro K3 W3 hE3 hI3 hF3
          go_wp2
          exact step_end ⟨⟨K3, Ext.refl _, hI3⟩, rfl⟩
        · rfl
        apply RunAll.is_
        · intro K3 W3 hE3 hI3 hF3
          go_wp2
          exact step_end ⟨⟨K3, Ext.refl _, hI3⟩, rfl⟩
        · rfl
        apply RunAll.is_
        · intro K3 W3 hE3 hI3 hF3
          go_wp2
          exact step_end ⟨⟨K3, Ext.refl _, hI3⟩, rfl⟩
        · rfl
        apply RunAll.is_
        · intro K3 W3 hE3 hI3 hF3
          go_wp2
          exact step_end ⟨⟨K3, Ext.refl _, hI3⟩, rfl⟩
        · rfl
        apply RunAll.is_
        · intro K3 W3 hE3 hI3 hF3
          go_wp2
          exact step_end ⟨⟨K3, Ext.refl _, hI3⟩, rfl⟩
        · rfl
        apply RunAll.is_
        · intro K3 W3 hE3 hI3 hF3
          go_wp2_with (first | ((with_reducible refine gate_load (T := 31) ?_); refine wpList_loadAggW (vs := encT x) (off := ofl + i * 2) rfl rfl rfl Tryd.underlying31 rfl (hI3.inn.get (hE3 _ _ hkl)) (by kernel_rfl) (fun j u hu => Hjl.out j u hu) ?_) | fail)
          exact step_end ⟨⟨K3, Ext.refl _, hI3⟩, rfl⟩
        · rfl
        apply RunAll.is_
        · intro K3 W3 hE3 hI3 hF3
          go_wp2_with (first | (go_at_call 27; refine (len_ok _ x.2 _).mono ?_; rintro e W4 ⟨rfl, hb⟩; rw [Hn.out]) | fail)
          exact step_end ⟨⟨K3, Ext.refl _, hI3.quiet hb⟩, rfl⟩
        · rfl
        apply RunAll.is_
        · intro K3 W3 hE3 hI3 hF3
          go_wp2
          exact step_end ⟨⟨K3, Ext.refl _, hI3⟩, rfl⟩
        · rfl
        apply RunAll.is_
        · intro K3 W3 hE3 hI3 hF3
          go_wp2
          exact step_end ⟨⟨K3, Ext.refl _, hI3⟩, rfl⟩
        · rfl
        apply RunAll.is_
        · intro K3 W3 hE3 hI3 hF3
          go_wp2
          exact step_end ⟨⟨K3, Ext.refl _, hI3⟩, rfl⟩
        · rfl
        apply RunAll.is_
        · intro K3 W3 hE3 hI3 hF3
          go_wp2_with (first | ((with_reducible refine gate_load (T := 35) ?_); refine wpList_loadAggW (vs := [sv0]) (off := ofw + i) rfl rfl rfl Tryd.underlying35 rfl (hI3.inn.get (hE3 _ _ hkw)) (by kernel_rfl) (fun j u hu => by have := Hjw.out j u hu; rwa [Nat.mul_one] at this) ?_) | fail)
          exact step_end ⟨⟨K3, Ext.refl _, hI3⟩, rfl⟩
        · rfl
        apply RunAll.is_
        · intro K3 W3 hE3 hI3 hF3
          go_wp2_with (first | (go_at_call 28; refine (rLen_ok K3 _ L _ hI3.inn (HS0.out.keep hE3)).mono ?_; rintro e W4 ⟨rfl, hb⟩) | fail)
          exact step_end ⟨⟨K3, Ext.refl _, hI3.quiet hb⟩, rfl⟩
        · rfl
        apply RunAll.is_
        · intro K3 W3 hE3 hI3 hF3
          go_wp2
          exact step_end ⟨⟨K3, Ext.refl _, hI3⟩, rfl⟩
        · rfl
        intro K7 W7 hE7 hI7 hF7
        change wpList _ _ _ (List.cons _ _) _ _
        replace hTx := hTx.ext hE7
        replace hkl := hE7 _ _ hkl
        replace hkw := hE7 _ _ hkw
        replace HS0 := Lib.hid (HS0.out.keep hE7)
        replace HE := Lib.hid (HE.out.trans hE7)
        clear hE7 hF7
        have Hkl := Lib.hid hkl
        have Hkw := Lib.hid hkw
        have HTx := Lib.hid hTx
        clear hkl hkw hTx
        go_wp2
        go_loopw [13] (fun vk wr => ∃ (k : Nat) (K3 : Fz), k ≤ os.length ∧ vk = .int .i64 k ∧ St K w K3 wr ∧ Hid (Ext K7 K3)) (fun vk _ => os.length - (intOf vk).toNat)
        case atStart => exact ⟨0, K7, by omega, rfl, hI7, Lib.hid (Ext.refl _)⟩
        case round =>
          clear hI7
          obtain ⟨k, K8, hk, rfl, s, HE8⟩ := hrel
          by_cases hlk : k < os.length
          · obtain ⟨o, ho⟩ : ∃ o, os[k]? = some o := ⟨_, List.getElem?_eq_getElem hlk⟩
            obtain ⟨bs, ofs, css, tys, frs, rfl, hks, hjs⟩ := Hxs.out k o ho
            replace hks := HE8.out _ _ (HE.out _ _ (HE12.out _ _ hks))
            obtain ⟨fm, cl', blk, ch⟩ := o
            have Hks := Lib.hid hks
            have Hjs := Lib.hid hjs
            have hkB : decide ((k : Int) < (os.length : Nat)) = true := by simp; omega
            clear ho hks hjs
            go_wp2
            clear hkB
            go_loopw [14] (fun vd wr => ∃ (d : Int) (K3 : Fz), -1 ≤ d ∧ d ≤ 2 ∧ vd = .int .i64 d ∧ St K w K3 wr ∧ Hid (Ext K8 K3)) (fun vd _ => (2 - intOf vd).toNat)
            case atStart => exact ⟨-1, K8, by omega, by omega, rfl, s, Lib.hid (Ext.refl _)⟩
            case round =>
              clear s
              obtain ⟨d, K9, hd0, hd1, rfl, s, HE9⟩ := hrel
              by_cases hld : d < 2
              · have HE79 := HE8.out.trans HE9.out
                have hkl := HE79 _ _ Hkl.out
                have hkw := HE79 _ _ Hkw.out
                have hTx := HTx.out.ext HE79
                have hks := HE9.out _ _ Hks.out
                have HS9 := Lib.hid (HS0.out.keep HE79)
                obtain ⟨⟨c, is⟩, hg⟩ : ∃ r, rget L (wrap64 (blk + d)) = r := ⟨_, rfl⟩
                have hlk' : x.1.look (wrap64 (blk + d)) = (c, is) := (HR.out.look _).trans hg
                have Hg := Lib.hid hg
                have Hlk := Lib.hid hlk'
                have hdB : decide (d < 2) = true := by simp; omega
                clear hg hlk' HE79
                go_wp2
                clear hdB
                refine wp_region_run (m := 17) (n := 130) (I := fun K2 W => St K w K2 W) (K0 := K9)
                  (ws := [.is (.slice (some ⟨bl, ofl, none⟩) (os.length + 1) cl), .is (.int .i64 (i : Nat)), .is (.pointer (some ⟨bl, ofl + i * 2, none⟩)), .is (.agg (encT x).toArray), .is (.slice (some ⟨bs, ofs, none⟩) os.length cap), .is (.int .i64 (k : Nat)), .is (.pointer (some ⟨bs, ofs + k * 4, none⟩)), .is (.pointer (some ⟨bs, ofs + k * 4 + 2, none⟩)), .is (.int .i64 blk), .is (.int .i64 d), .is (.int .i64 (wrap64 (blk + d))), .is (.tuple #[.int .i64 c, .bool is]), .is (.tuple #[.int .i64 c, .bool is]), .is (.int .i64 c), .is (.bool is), .is (.int .i64 c), .is (.bool is)])
                  mixed_ok (by kernel_rfl) rfl rfl ?monoe19 s.drew ?_
                case monoe19 =>
                  simp only [List.forall_mem_cons]
                  exact ⟨trivial, trivial, trivial, trivial, trivial, trivial, trivial, trivial, trivial, trivial, trivial, trivial, trivial, trivial, trivial, trivial, trivial, fun _ h => by cases h⟩
                apply RunAll.is_
                · intro K3 W3 hE3 hI3 hF3
                  go_wp2
                  exact step_end ⟨⟨K3, Ext.refl _, hI3⟩, rfl⟩
                · rfl
                apply RunAll.is_
                · intro K3 W3 hE3 hI3 hF3
                  go_wp2
                  exact step_end ⟨⟨K3, Ext.refl _, hI3⟩, rfl⟩
                · rfl
                apply RunAll.is_
                · intro K3 W3 hE3 hI3 hF3
                  go_wp2
                  exact step_end ⟨⟨K3, Ext.refl _, hI3⟩, rfl⟩
                · rfl
                apply RunAll.is_
                · intro K3 W3 hE3 hI3 hF3
                  go_wp2_with (first | ((with_reducible refine gate_load (T := 31) ?_); refine wpList_loadAggW (vs := encT x) (off := ofl + i * 2) rfl rfl rfl Tryd.underlying31 rfl (hI3.inn.get (hE3 _ _ hkl)) (by kernel_rfl) (fun j u hu => Hjl.out j u hu) ?_) | fail)
                  exact step_end ⟨⟨K3, Ext.refl _, hI3⟩, rfl⟩
                · rfl
                apply RunAll.is_
                · intro K3 W3 hE3 hI3 hF3
                  go_wp2
                  exact step_end ⟨⟨K3, Ext.refl _, hI3⟩, rfl⟩
                · rfl
                apply RunAll.is_
                · intro K3 W3 hE3 hI3 hF3
                  go_wp2
                  exact step_end ⟨⟨K3, Ext.refl _, hI3⟩, rfl⟩
                · rfl
                apply RunAll.is_
                · intro K3 W3 hE3 hI3 hF3
                  go_wp2
                  exact step_end ⟨⟨K3, Ext.refl _, hI3⟩, rfl⟩
                · rfl
                apply RunAll.is_
                · intro K3 W3 hE3 hI3 hF3
                  go_wp2
                  exact step_end ⟨⟨K3, Ext.refl _, hI3⟩, rfl⟩
                · rfl
                apply RunAll.is_
                · intro K3 W3 hE3 hI3 hF3
                  go_wp2_with (first | ((with_reducible refine gate_load (T := 3) ?_); refine wpList_loadCell rfl rfl rfl Tryd.underlying3 rfl (hI3.inn.get (hE3 _ _ hks)) (Hjs.out 2 _ rfl) ?_) | fail)
                  exact step_end ⟨⟨K3, Ext.refl _, hI3⟩, rfl⟩
                · rfl
                apply RunAll.is_
                · intro K3 W3 hE3 hI3 hF3
                  go_wp2
                  exact step_end ⟨⟨K3, Ext.refl _, hI3⟩, rfl⟩
                · rfl
                apply RunAll.is_
                · intro K3 W3 hE3 hI3 hF3
                  go_wp2
                  exact step_end ⟨⟨K3, Ext.refl _, hI3⟩, rfl⟩
                · rfl
                apply RunAll.is_
                · intro K3 W3 hE3 hI3 hF3
                  go_wp2_with (first | (go_at_call 23; refine (get_at K3 x.1 x.2 (wrap64 (blk + d)) (c, is) _ Hlk.out hI3.inn (hTx.ext hE3)).mono ?_; rintro e W4 ⟨rfl, hb⟩) | fail)
                  exact step_end ⟨⟨K3, Ext.refl _, hI3.quiet hb⟩, rfl⟩
                · rfl
                apply RunAll.is_
                · intro K3 W3 hE3 hI3 hF3
                  go_wp2
                  exact step_end ⟨⟨K3, Ext.refl _, hI3⟩, rfl⟩
                · rfl
                apply RunAll.is_
                · intro K3 W3 hE3 hI3 hF3
                  go_wp2
                  exact step_end ⟨⟨K3, Ext.refl _, hI3⟩, rfl⟩
                · rfl
                apply RunAll.is_
                · intro K3 W3 hE3 hI3 hF3
                  go_wp2
                  exact step_end ⟨⟨K3, Ext.refl _, hI3⟩, rfl⟩
                · rfl
                apply RunAll.is_
                · intro K3 W3 hE3 hI3 hF3
                  go_wp2
                  exact step_end ⟨⟨K3, Ext.refl _, hI3⟩, rfl⟩
                · rfl
                apply RunAll.is_
                · intro K3 W3 hE3 hI3 hF3
                  go_wp2
                  exact step_end ⟨⟨K3, Ext.refl _, hI3⟩, rfl⟩
                · rfl
                intro K10 W10 hE10 hI10 hF10
                change wpList _ _ _ List.nil _ _
                replace hkw := hE10 _ _ hkw
                replace hks := hE10 _ _ hks
                replace HS9 := Lib.hid (HS9.out.keep hE10)
                go_wp2
                refine wp_region_run (m := 17) (n := 130) (I := fun K2 W => St K w K2 W) (K0 := K10)
                  (ws := [.is (.slice (some ⟨bw, ofw, none⟩) (os.length + 1) cw), .is (.int .i64 (i : Nat)), .is (.pointer (some ⟨bw, ofw + i, none⟩)), .is (.agg #[sv0]), .is (.slice (some ⟨bs, ofs, none⟩) os.length cap), .is (.int .i64 (k : Nat)), .is (.pointer (some ⟨bs, ofs + k * 4, none⟩)), .is (.pointer (some ⟨bs, ofs + k * 4 + 2, none⟩)), .is (.int .i64 blk), .is (.int .i64 d), .is (.int .i64 (wrap64 (blk + d))), .is (.tuple #[.int .i64 c, .bool is]), .is (.tuple #[.int .i64 c, .bool is]), .is (.int .i64 c), .is (.bool is), .is (.int .i64 c), .is (.bool is)])
                  mixed_ok (by kernel_rfl) rfl rfl ?monoe20 hI10.drew ?_
                case monoe20 =>
                  simp only [List.forall_mem_cons]
                  exact ⟨trivial, trivial, trivial, trivial, trivial, trivial, trivial, trivial, trivial, trivial, trivial, trivial, trivial, trivial, trivial, trivial, trivial, fun _ h => by cases h⟩
                apply RunAll.is_
                · intro K3 W3 hE3 hI3 hF3
                  go_wp2
                  exact step_end ⟨⟨K3, Ext.refl _, hI3⟩, rfl⟩
                · rfl
                apply RunAll.is_
                · intro K3 W3 hE3 hI3 hF3
                  go_wp2
                  exact step_end ⟨⟨K3, Ext.refl _, hI3⟩, rfl⟩
                · rfl
                apply RunAll.is_
                · intro K3 W3 hE3 hI3 hF3
                  go_wp2
                  exact step_end ⟨⟨K3, Ext.refl _, hI3⟩, rfl⟩
                · rfl
                apply RunAll.is_
                · intro K3 W3 hE3 hI3 hF3
                  go_wp2_with (first | ((with_reducible refine gate_load (T := 35) ?_); refine wpList_loadAggW (vs := [sv0]) (off := ofw + i) rfl rfl rfl Tryd.underlying35 rfl (hI3.inn.get (hE3 _ _ hkw)) (by kernel_rfl) (fun j u hu => by have := Hjw.out j u hu; rwa [Nat.mul_one] at this) ?_) | fail)
                  exact step_end ⟨⟨K3, Ext.refl _, hI3⟩, rfl⟩
                · rfl
                apply RunAll.is_
                · intro K3 W3 hE3 hI3 hF3
                  go_wp2
                  exact step_end ⟨⟨K3, Ext.refl _, hI3⟩, rfl⟩
                · rfl
                apply RunAll.is_
                · intro K3 W3 hE3 hI3 hF3
                  go_wp2
                  exact step_end ⟨⟨K3, Ext.refl _, hI3⟩, rfl⟩
                · rfl
                apply RunAll.is_
                · intro K3 W3 hE3 hI3 hF3
                  go_wp2
                  exact step_end ⟨⟨K3, Ext.refl _, hI3⟩, rfl⟩
                · rfl
                apply RunAll.is_
                · intro K3 W3 hE3 hI3 hF3
                  go_wp2
                  exact step_end ⟨⟨K3, Ext.refl _, hI3⟩, rfl⟩
                · rfl
                apply RunAll.is_
                · intro K3 W3 hE3 hI3 hF3
                  go_wp2_with (first | ((with_reducible refine gate_load (T := 3) ?_); refine wpList_loadCell rfl rfl rfl Tryd.underlying3 rfl (hI3.inn.get (hE3 _ _ hks)) (Hjs.out 2 _ rfl) ?_) | fail)
                  exact step_end ⟨⟨K3, Ext.refl _, hI3⟩, rfl⟩
                · rfl
                apply RunAll.is_
                · intro K3 W3 hE3 hI3 hF3
                  go_wp2
                  exact step_end ⟨⟨K3, Ext.refl _, hI3⟩, rfl⟩
                · rfl
                apply RunAll.is_
                · intro K3 W3 hE3 hI3 hF3
                  go_wp2
                  exact step_end ⟨⟨K3, Ext.refl _, hI3⟩, rfl⟩
                · rfl
                apply RunAll.is_
                · intro K3 W3 hE3 hI3 hF3
                  go_wp2_with (first | (go_at_call 29; refine (rGet_at K3 _ L (wrap64 (blk + d)) c is _ Hg.out hI3.inn (HS9.out.keep hE3) (by omega)).mono ?_; rintro e W4 ⟨rfl, hb⟩) | fail)
                  exact step_end ⟨⟨K3, Ext.refl _, hI3.quiet hb⟩, rfl⟩
                · rfl
                apply RunAll.is_
                · intro K3 W3 hE3 hI3 hF3
                  go_wp2
                  exact step_end ⟨⟨K3, Ext.refl _, hI3⟩, rfl⟩
                · rfl
                apply RunAll.is_
                · intro K3 W3 hE3 hI3 hF3
                  go_wp2
                  exact step_end ⟨⟨K3, Ext.refl _, hI3⟩, rfl⟩
                · rfl
                apply RunAll.is_
                · intro K3 W3 hE3 hI3 hF3
                  go_wp2
                  exact step_end ⟨⟨K3, Ext.refl _, hI3⟩, rfl⟩
                · rfl
                apply RunAll.is_
                · intro K3 W3 hE3 hI3 hF3
                  go_wp2
                  exact step_end ⟨⟨K3, Ext.refl _, hI3⟩, rfl⟩
                · rfl
                apply RunAll.is_
                · intro K3 W3 hE3 hI3 hF3
                  go_wp2
                  exact step_end ⟨⟨K3, Ext.refl _, hI3⟩, rfl⟩
                · rfl
                intro K11 W11 hE11 hI11 hF11
                change wpList _ _ _ List.nil _ _
                cases is
                all_goals
                  go_wp2
                  go_roundw
                  case rel => exact ⟨d + 1, K11, by omega, by omega, by go_num, hI11, Lib.hid ((HE9.out.trans hE10).trans hE11)⟩
                  case measure => simp [intOf]; omega
              · obtain rfl : d = 2 := by omega
                go_wp2
                go_roundw
                case rel => exact ⟨k + 1, K9, by omega, by go_num, s, Lib.hid (HE8.out.trans HE9.out)⟩
                case measure => simp [intOf]; omega
          · obtain rfl : k = os.length := by omega
            go_wp2
            go_roundw
            case rel => exact ⟨i + 1, K8, by omega, by go_num, s, Lib.hid (HE.out.trans HE8.out)⟩
            case measure => simp [intOf]; omega
      · obtain rfl : i = os.length + 1 := by omega
        go_wp2
        go_ret
        exact ⟨rfl, s.below⟩
  · have hB : decide ((80 : Int) < (os.length : Nat)) = true := by simp; omega
    go_enter Tryd.func7, Tryd.ntmps7
    go_wp2_with (first
      | (go_at_call 9; refine (sanity_ok K _ s.inn ht).mono ?_; rintro e W1 ⟨rfl, hb⟩; replace s := s.quiet hb; clear hb)
      | fail)
    go_ret
    exact ⟨rfl, s.below⟩
end Go.Proofs.YtpfdlpniijgakaaDoor
