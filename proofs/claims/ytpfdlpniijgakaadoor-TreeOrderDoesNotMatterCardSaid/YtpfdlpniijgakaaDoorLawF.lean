/- What the law TreeOrderDoesNotMatter answers. -/
import Derived.Test.YtpfdlpniijgakaaDoorLawFp
namespace Go.Proofs.YtpfdlpniijgakaaDoor
open Go Go.RowKit
set_option maxHeartbeats 400000

/-- The boxes of the three trees. -/
structure Bx (K0 : Fz) (w : World) (g6 g7 g8 : Nat) (ta tb tc : PT × Int) (K : Fz) (W : World) : Prop where
  st : St K0 w K W
  a : Own w K W g6 (.cells (encT ta).toArray 31 (0, 0))
  b : Own w K W g7 (.cells (encT tb).toArray 31 (0, 0))
  c : Own w K W g8 (.cells (encT tc).toArray 31 (0, 0))
/-- And of the reference's tree. -/
structure By (K0 : Fz) (w : World) (g6 g7 g8 g10 : Nat) (ta tb tc : PT × Int) (sf : Value) (K : Fz) (W : World) : Prop where
  st : St K0 w K W
  a : Own w K W g6 (.cells (encT ta).toArray 31 (0, 0))
  b : Own w K W g7 (.cells (encT tb).toArray 31 (0, 0))
  c : Own w K W g8 (.cells (encT tc).toArray 31 (0, 0))
  f : Own w K W g10 (.cells #[sf] 35 (0, 0))
section
variable {K0 K K' : Fz} {w W W' : World} {g6 g7 g8 g10 : Nat} {ta tb tc t : PT × Int} {sf s2 : Value}
theorem Bx.drew (h : Bx K0 w g6 g7 g8 ta tb tc K W) : Bx K0 w g6 g7 g8 ta tb tc K W.drew := ⟨h.st.drew, h.a.drew, h.b.drew, h.c.drew⟩
theorem By.drew (h : By K0 w g6 g7 g8 g10 ta tb tc sf K W) : By K0 w g6 g7 g8 g10 ta tb tc sf K W.drew := ⟨h.st.drew, h.a.drew, h.b.drew, h.c.drew, h.f.drew⟩
theorem Bx.call (h : Bx K0 w g6 g7 g8 ta tb tc K W) (h1 : K'.In W') (h2 : K.Le W.heap.size K') (h3 : Below W.heap.size W W') : Bx K0 w g6 g7 g8 ta tb tc K' W' := ⟨h.st.call h1 h2 h3, h.a.call h2 h3, h.b.call h2 h3, h.c.call h2 h3⟩
theorem By.call (h : By K0 w g6 g7 g8 g10 ta tb tc sf K W) (h1 : K'.In W') (h2 : K.Le W.heap.size K') (h3 : Below W.heap.size W W') : By K0 w g6 g7 g8 g10 ta tb tc sf K' W' := ⟨h.st.call h1 h2 h3, h.a.call h2 h3, h.b.call h2 h3, h.c.call h2 h3, h.f.call h2 h3⟩
theorem By.quiet (h : By K0 w g6 g7 g8 g10 ta tb tc sf K W) (h3 : Below W.heap.size W W') : By K0 w g6 g7 g8 g10 ta tb tc sf K W' := h.call (h.st.inn.below h3) (Fz.Le.refl _ _) h3
theorem Bx.setC (h : Bx K0 w g6 g7 g8 ta tb tc K W) (n68 : g6 ≠ g8) (n78 : g7 ≠ g8) (hu : Upd W g8 (.cells (encT t).toArray 31 (0, 0)) W') : Bx K0 w g6 g7 g8 ta tb t K W' := ⟨h.st.upd h.c hu, h.a.other hu n68, h.b.other hu n78, h.c.upd hu⟩
theorem By.setC (h : By K0 w g6 g7 g8 g10 ta tb tc sf K W) (n68 : g6 ≠ g8) (n78 : g7 ≠ g8) (n810 : g10 ≠ g8) (hu : Upd W g8 (.cells (encT t).toArray 31 (0, 0)) W') : By K0 w g6 g7 g8 g10 ta tb t sf K W' := ⟨h.st.upd h.c hu, h.a.other hu n68, h.b.other hu n78, h.c.upd hu, h.f.other hu n810⟩
theorem By.setA (h : By K0 w g6 g7 g8 g10 ta tb tc sf K W) (n67 : g7 ≠ g6) (n68 : g8 ≠ g6) (n610 : g10 ≠ g6) (hu : Upd W g6 (.cells (encT t).toArray 31 (0, 0)) W') : By K0 w g6 g7 g8 g10 t tb tc sf K W' := ⟨h.st.upd h.a hu, h.a.upd hu, h.b.other hu n67, h.c.other hu n68, h.f.other hu n610⟩
theorem By.setB (h : By K0 w g6 g7 g8 g10 ta tb tc sf K W) (n67 : g6 ≠ g7) (n78 : g8 ≠ g7) (n710 : g10 ≠ g7) (hu : Upd W g7 (.cells (encT t).toArray 31 (0, 0)) W') : By K0 w g6 g7 g8 g10 ta t tc sf K W' := ⟨h.st.upd h.b hu, h.a.other hu n67, h.b.upd hu, h.c.other hu n78, h.f.other hu n710⟩
theorem By.setF (h : By K0 w g6 g7 g8 g10 ta tb tc sf K W) (n610 : g6 ≠ g10) (n710 : g7 ≠ g10) (n810 : g8 ≠ g10) (hu : Upd W g10 (.cells #[s2] 35 (0, 0)) W') : By K0 w g6 g7 g8 g10 ta tb tc s2 K W' := ⟨h.st.upd h.f hu, h.a.other hu n610, h.b.other hu n710, h.c.other hu n810, h.f.upd hu⟩
end

set_option maxRecDepth 100000 in
set_option maxHeartbeats 16000000 in
theorem Orders_ok (K : Fz) (ev : Value) (E : Ents) (ov : Value) (O : List Int) (w : World) (hK : K.In w) (ht : Tab K) (hSe : SlK K 2 encE ev E) (hSo : SlK K 1 encZ ov O) :
    Calls Tryd.prog 8 #[ev, ov] w fun e w' => e = .returned (.bool true) ∧ Below w.heap.size w w' := by
  obtain ⟨ae, ce, rfl, hce, hxe⟩ := hSe
  obtain ⟨ao, co, rfl, hco, hxo⟩ := hSo
  have Hxe := Lib.hid hxe
  have Hxo := Lib.hid hxo
  clear hxe hxo
  have s := St.start hK
  by_cases hlen1 : E.length ≤ 60
  · have hB1 : decide ((60 : Int) < (E.length : Nat)) = false := by simp; omega
    by_cases hlen2 : O.length ≤ 60
    · have hB2 : decide ((60 : Int) < (O.length : Nat)) = false := by simp; omega
      go_enter Tryd.func8, Tryd.ntmps8
      go_wp2_with (first
        | (go_at_call 9; refine (sanity_ok K _ s.inn ht).mono ?_; rintro e W1 ⟨rfl, hb⟩; replace s := s.quiet hb; clear hb)
        | ((with_reducible refine gate_build (T := 31) (x := #[]) ?_); refine wpList_build0 rfl rfl build_Tree ?_)
        | ((with_reducible refine gate_alloc (T := 31) (dst := some 6) ?_); refine wpList_allocG rfl rfl zero_Tree (cs := #[.pointer none, .int .i64 0]) rfl ?_; intro g6 W2 e hn; have o6 := Own.made s e hn; replace s := s.new hn; clear e hn)
        | ((with_reducible refine gate_store (T := 31) (x := .tmp 6) ?_); refine wpList_storeAll rfl rfl rfl rfl (cs := #[.pointer none, .int .i64 0]) rfl o6.at_ rfl (by rw [size_Tree]; rfl) (by simp [Value.oneCell']) ?_; intro W3 hu; replace s := s.upd o6 hu; replace o6 := o6.upd hu; clear hu)
        | ((with_reducible refine gate_alloc (T := 31) (dst := some 7) ?_); refine wpList_allocG rfl rfl zero_Tree (cs := #[.pointer none, .int .i64 0]) rfl ?_; intro g7 W4 e hn; have n67 := Lib.hid (o6.ne e); have o7 := Own.made s e hn; replace s := s.new hn; replace o6 := o6.new hn; clear e hn)
        | ((with_reducible refine gate_store (T := 31) (x := .tmp 7) ?_); refine wpList_storeAll rfl rfl rfl rfl (cs := #[.pointer none, .int .i64 0]) rfl o7.at_ rfl (by rw [size_Tree]; rfl) (by simp [Value.oneCell']) ?_; intro W5 hu; replace s := s.upd o7 hu; replace o6 := o6.other hu n67.out; replace o7 := o7.upd hu; clear hu)
        | ((with_reducible refine gate_alloc (T := 31) (dst := some 8) ?_); refine wpList_allocG rfl rfl zero_Tree (cs := #[.pointer none, .int .i64 0]) rfl ?_; intro g8 W6 e hn; have n68 := Lib.hid (o6.ne e); have n78 := Lib.hid (o7.ne e); have o8 := Own.made s e hn; replace s := s.new hn; replace o6 := o6.new hn; replace o7 := o7.new hn; clear e hn)
        | ((with_reducible refine gate_store (T := 31) (x := .tmp 8) ?_); refine wpList_storeAll rfl rfl rfl rfl (cs := #[.pointer none, .int .i64 0]) rfl o8.at_ rfl (by rw [size_Tree]; rfl) (by simp [Value.oneCell']) ?_; intro W7 hu; replace s := s.upd o8 hu; replace o6 := o6.other hu n68.out; replace o7 := o7.other hu n78.out; replace o8 := o8.upd hu; clear hu)
        | fail)
      have bx : Bx K w g6 g7 g8 (.nil, 0) (.nil, 0) (.nil, 0) K W7 := ⟨s, o6, o7, o8⟩
      clear s o6 o7 o8
      go_loopw [9] (fun vi wr => ∃ (i : Nat) (K3 : Fz) (tc : PT × Int) (M : Ents), i ≤ O.length ∧ vi = .int .i64 i ∧ Bx K w g6 g7 g8 (.nil, 0) (.nil, 0) tc K3 wr ∧ Hid (Ext K K3) ∧ Hid (Tr 76 K3 tc.1) ∧ Hid (Rep tc.1 tc.2 M) ∧ Hid (∀ z, (rget M z).2 = true → z ∈ O))
        (fun vi _ => O.length - (intOf vi).toNat)
      case atStart => exact ⟨0, K, (.nil, 0), [], by omega, rfl, bx, Lib.hid (Ext.refl _), Lib.hid trivial, Lib.hid Rep.nil, Lib.hid (fun z h => by simp [rget_nil] at h)⟩
      case round =>
        clear bx
        obtain ⟨i, K4, tc, M, hi, rfl, bx, HE, HT, HR, HM⟩ := hrel
        by_cases hlt : i < O.length
        · obtain ⟨e, he⟩ : ∃ e, O[i]? = some e := ⟨_, List.getElem?_eq_getElem hlt⟩
          obtain ⟨bo, ofo, cso, tyo, fro, rfl, hko, hjo⟩ := Hxo.out i e he
          replace hko := HE.out _ _ hko
          obtain ⟨hn0, hn1⟩ := HR.out.n_le
          have hT := HT.out
          have Hjo := Lib.hid hjo
          have He := Lib.hid he
          have hlB : decide ((i : Int) < (O.length : Nat)) = true := by simp; omega
          clear hjo he
          go_wp2
          clear hlB
          refine wp_region_run (m := 7) (n := 182) (I := Bx K w g6 g7 g8 (.nil, 0) (.nil, 0) tc) (K0 := K4)
            (ws := [.is (.agg (encT tc).toArray), .is (.slice (some ⟨bo, ofo, none⟩) O.length co), .is (.int .i64 (i : Nat)), .is (.pointer (some ⟨bo, ofo + i, none⟩)), .is (.int .i64 e), .is (.int .i64 (i : Nat)), .sat (ChgV 0 ⟨0, false, e, (i : Nat)⟩ tc)])
            mixed_ok (by kernel_rfl) rfl rfl ?monof10 bx.drew ?_
          case monof10 =>
            simp only [List.forall_mem_cons]
            exact ⟨trivial, trivial, trivial, trivial, trivial, trivial, fun _ _ _ hE h => h.ext hE, fun _ h => by cases h⟩
          apply RunAll.is_
          · intro K3 W3 hE3 hI3 hF3
            go_wp2_with (first | ((with_reducible refine gate_load (T := 31) ?_); refine wpList_loadAggW (vs := encT tc) (off := 0) rfl rfl rfl Tryd.underlying31 rfl hI3.c.at_ (by rw [size_Tree]; rfl) (fun j u hu => by rw [Nat.zero_add]; simpa [encT] using hu) ?_) | fail)
            exact step_end ⟨⟨K3, Ext.refl _, hI3⟩, rfl⟩
          · rfl
          apply RunAll.is_
          · intro K3 W3 hE3 hI3 hF3
            go_wp2
            exact step_end ⟨⟨K3, Ext.refl _, hI3⟩, rfl⟩
          · rfl
          apply RunAll.is_
          · intro K3 W3 hE3 hI3 hF3
            go_wp2
            exact step_end ⟨⟨K3, Ext.refl _, hI3⟩, rfl⟩
          · rfl
          apply RunAll.is_
          · intro K3 W3 hE3 hI3 hF3
            go_wp2
            exact step_end ⟨⟨K3, Ext.refl _, hI3⟩, rfl⟩
          · rfl
          apply RunAll.is_
          · intro K3 W3 hE3 hI3 hF3
            go_wp2_with (first | ((with_reducible refine gate_load (T := 3) ?_); refine wpList_loadCell rfl rfl rfl Tryd.underlying3 rfl (hI3.st.inn.get (hE3 _ _ hko)) (by have := Hjo.out 0 _ rfl; rwa [Nat.mul_one, Nat.add_zero] at this) ?_) | fail)
            exact step_end ⟨⟨K3, Ext.refl _, hI3⟩, rfl⟩
          · rfl
          apply RunAll.is_
          · intro K3 W3 hE3 hI3 hF3
            go_wp2
            exact step_end ⟨⟨K3, Ext.refl _, hI3⟩, rfl⟩
          · rfl
          apply RunAll.sat_
          · intro K3 W3 hE3 hI3 hF3
            go_wp2_with (first | (go_at_call 14; refine (Set_ok K3 tc.1 tc.2 e (i : Nat) _ hI3.st.inn (hT.ext hE3) (by omega) (by omega)).mono ?_; rintro e' W4 ⟨v, K4', rfl, hi, hl, hb, hx4⟩) | fail)
            obtain ⟨t3, n3, hv3, ht3, hs3⟩ := hx4
            exact step_end ⟨v, K4', Ext.of_le hI3.st.inn hl, hI3.call hi hl hb, rfl, (t3, n3), W3.heap.size, hv3, ht3, Nat.zero_le _, (hT.ext hE3).under hI3.st.inn, hs3⟩
          · intro v; rfl
          intro v6
          intro K8 W12 hE8 bx8 hF8
          obtain ⟨_, y, m, rfl, hTy, _, huy, hsy⟩ := hF8
          have hRy : Rep y.1 y.2 (rset M e (i : Nat)) := HR.out.step (x := tc) (o := ⟨0, false, e, (i : Nat)⟩) huy hsy
          replace hRy := Lib.hid hRy
          clear huy hsy
          change wpList _ _ _ (List.cons _ _) _ _
          go_wp2_with (first
            | ((with_reducible refine gate_store (T := 31) ?_); refine wpList_storeAll rfl rfl rfl rfl (cs := (encT y).toArray) rfl bx8.c.at_ rfl (by rw [size_Tree]; rfl) (by simp [encT, Value.oneCell']) ?_; intro W13 hu; replace bx8 := bx8.setC n68.out n78.out hu; clear hu)
            | fail)
          go_roundw
          case rel =>
            refine ⟨i + 1, K8, y, rset M e (i : Nat), by omega, by go_num, bx8, Lib.hid (HE.out.trans hE8), Lib.hid hTy, hRy, Lib.hid (fun z hz => ?_)⟩
            rw [rset_get2 HR.out.srt] at hz
            by_cases hc : (0 ≤ e ∧ e < 4096) ∧ z = e
            · rw [hc.2]; exact List.mem_of_getElem? He.out
            · rw [if_neg hc] at hz; exact HM.out z hz
          case measure => simp [intOf]; omega
        · obtain rfl : i = O.length := by omega
          have bs := bx.st
          have b6 := bx.a
          have b7 := bx.b
          have b8 := bx.c
          have HM0 : Hid (CInv [] M O) := Lib.hid (fun z => ⟨fun h => by simp [rget_nil] at h, fun _ h => HM.out z h⟩)
          clear bx HM hlt hi
          go_wp2_with (first
            | ((with_reducible refine gate_build (T := 35) (x := #[]) ?_); refine wpList_build0 rfl rfl build_RTree ?_)
            | ((with_reducible refine gate_alloc (T := 35) ?_); refine wpList_allocG rfl rfl zero_RTree (cs := #[.slice none 0 0]) rfl ?_; intro g10 W8 e hn; have n610 := Lib.hid (b6.ne e); have n710 := Lib.hid (b7.ne e); have n810 := Lib.hid (b8.ne e); have b10 := Own.made bs e hn; replace bs := bs.new hn; replace b6 := b6.new hn; replace b7 := b7.new hn; replace b8 := b8.new hn; clear e hn)
            | ((with_reducible refine gate_store (T := 35) ?_); refine wpList_storeAll rfl rfl rfl rfl (cs := #[.slice none 0 0]) rfl b10.at_ rfl (by rw [size_RTree]; rfl) (by simp [Value.oneCell']) ?_; intro W9 hu; replace bs := bs.upd b10 hu; replace b6 := b6.other hu n610.out; replace b7 := b7.other hu n710.out; replace b8 := b8.other hu n810.out; replace b10 := b10.upd hu; clear hu)
            | fail)
          have bY : By K w g6 g7 g8 g10 (.nil, 0) (.nil, 0) tc (.slice none 0 0) K4 W9 := ⟨bs, b6, b7, b8, b10⟩
          clear bs b6 b7 b8 b10
          go_loopw [11] (fun vi wr => ∃ (i : Nat) (K3 : Fz) (ta tc : PT × Int) (M : Ents) (sa : Option Addr) (sl sc : Nat), i ≤ E.length ∧ vi = .int .i64 i ∧ By K w g6 g7 g8 g10 ta (.nil, 0) tc (.slice sa sl sc) K3 wr ∧ Hid (Ext K K3) ∧ Hid (Tr 76 K3 ta.1) ∧ Hid (Rep ta.1 ta.2 (setAll [] (E.take i))) ∧ Hid (Tr 76 K3 tc.1) ∧ Hid (Rep tc.1 tc.2 M) ∧ Hid (CInv (setAll [] (E.take i)) M O) ∧ Hid (SlK K3 2 encE (.slice sa sl sc) (setAll [] (E.take i)) ∧ Flat (.slice sa sl sc)))
            (fun vi _ => E.length - (intOf vi).toNat)
          case atStart => exact ⟨0, K4, (.nil, 0), tc, M, none, 0, 0, by omega, rfl, bY, HE, Lib.hid trivial, Lib.hid Rep.nil, HT, HR, HM0, Lib.hid ⟨SlK.nil _ _ _ _ _, by rintro a n c ⟨⟩; exact .inl rfl⟩⟩
          case round =>
            clear bY HE HT HR HM0 M
            obtain ⟨i, K5, ta, tc, M, sa, sl, sc, hi, rfl, bY, HE, HTa, HRa, HTc, HRc, HC, HF⟩ := hrel
            by_cases hlt : i < E.length
            · obtain ⟨x, hx⟩ : ∃ x, E[i]? = some x := ⟨_, List.getElem?_eq_getElem hlt⟩
              obtain ⟨be, ofe, cse, tye, fre, rfl, hke, hje⟩ := Hxe.out i x hx
              replace hke := HE.out _ _ hke
              obtain ⟨hn0, hn1⟩ := HRa.out.n_le
              obtain ⟨hm0, hm1⟩ := HRc.out.n_le
              have hTa := HTa.out
              have hTc := HTc.out
              have HSf := Lib.hid HF.out.1
              have HFf := Lib.hid HF.out.2
              have Hje := Lib.hid hje
              have Hx := Lib.hid hx
              have hFl : (setAll [] (E.take i)).length ≤ 60 := by have := setAll_len (E.take i) []; simp at this; omega
              have hlB : decide ((i : Int) < (E.length : Nat)) = true := by simp; omega
              obtain ⟨xb, xc⟩ := x
              clear hje hx
              go_wp2
              clear hlB
              refine wp_region_run (m := 12) (n := 182) (I := By K w g6 g7 g8 g10 ta (.nil, 0) tc (.slice sa sl sc)) (K0 := K5)
                (ws := [.is (.agg (encT ta).toArray), .is (.slice (some ⟨be, ofe, none⟩) E.length ce), .is (.int .i64 (i : Nat)), .is (.pointer (some ⟨be, ofe + i * 2, none⟩)), .is (.pointer (some ⟨be, ofe + i * 2, none⟩)), .is (.int .i64 xb), .is (.slice (some ⟨be, ofe, none⟩) E.length ce), .is (.int .i64 (i : Nat)), .is (.pointer (some ⟨be, ofe + i * 2, none⟩)), .is (.pointer (some ⟨be, ofe + i * 2 + 1, none⟩)), .is (.int .i64 xc), .sat (ChgV 0 ⟨0, false, xb, xc⟩ ta)])
                mixed_ok (by kernel_rfl) rfl rfl ?monof15 bY.drew ?_
              case monof15 =>
                simp only [List.forall_mem_cons]
                exact ⟨trivial, trivial, trivial, trivial, trivial, trivial, trivial, trivial, trivial, trivial, trivial, fun _ _ _ hE h => h.ext hE, fun _ h => by cases h⟩
              apply RunAll.is_
              · intro K3 W3 hE3 hI3 hF3
                go_wp2_with (first | ((with_reducible refine gate_load (T := 31) ?_); refine wpList_loadAggW (vs := encT ta) (off := 0) rfl rfl rfl Tryd.underlying31 rfl hI3.a.at_ (by rw [size_Tree]; rfl) (fun j u hu => by rw [Nat.zero_add]; simpa [encT] using hu) ?_) | fail)
                exact step_end ⟨⟨K3, Ext.refl _, hI3⟩, rfl⟩
              · rfl
              apply RunAll.is_
              · intro K3 W3 hE3 hI3 hF3
                go_wp2
                exact step_end ⟨⟨K3, Ext.refl _, hI3⟩, rfl⟩
              · rfl
              apply RunAll.is_
              · intro K3 W3 hE3 hI3 hF3
                go_wp2
                exact step_end ⟨⟨K3, Ext.refl _, hI3⟩, rfl⟩
              · rfl
              apply RunAll.is_
              · intro K3 W3 hE3 hI3 hF3
                go_wp2
                exact step_end ⟨⟨K3, Ext.refl _, hI3⟩, rfl⟩
              · rfl
              apply RunAll.is_
              · intro K3 W3 hE3 hI3 hF3
                go_wp2
                exact step_end ⟨⟨K3, Ext.refl _, hI3⟩, rfl⟩
              · rfl
              apply RunAll.is_
              · intro K3 W3 hE3 hI3 hF3
                go_wp2_with (first | ((with_reducible refine gate_load (T := 3) ?_); refine wpList_loadCell rfl rfl rfl Tryd.underlying3 rfl (hI3.st.inn.get (hE3 _ _ hke)) (Hje.out 0 _ rfl) ?_) | fail)
                exact step_end ⟨⟨K3, Ext.refl _, hI3⟩, rfl⟩
              · rfl
              apply RunAll.is_
              · intro K3 W3 hE3 hI3 hF3
                go_wp2
                exact step_end ⟨⟨K3, Ext.refl _, hI3⟩, rfl⟩
              · rfl
              apply RunAll.is_
              · intro K3 W3 hE3 hI3 hF3
                go_wp2
                exact step_end ⟨⟨K3, Ext.refl _, hI3⟩, rfl⟩
              · rfl
              apply RunAll.is_
              · intro K3 W3 hE3 hI3 hF3
                go_wp2
                exact step_end ⟨⟨K3, Ext.refl _, hI3⟩, rfl⟩
              · rfl
              apply RunAll.is_
              · intro K3 W3 hE3 hI3 hF3
                go_wp2
                exact step_end ⟨⟨K3, Ext.refl _, hI3⟩, rfl⟩
              · rfl
              apply RunAll.is_
              · intro K3 W3 hE3 hI3 hF3
                go_wp2_with (first | ((with_reducible refine gate_load (T := 3) ?_); refine wpList_loadCell rfl rfl rfl Tryd.underlying3 rfl (hI3.st.inn.get (hE3 _ _ hke)) (Hje.out 1 _ rfl) ?_) | fail)
                exact step_end ⟨⟨K3, Ext.refl _, hI3⟩, rfl⟩
              · rfl
              apply RunAll.sat_
              · intro K3 W3 hE3 hI3 hF3
                go_wp2_with (first | (go_at_call 14; refine (Set_ok K3 ta.1 ta.2 xb xc _ hI3.st.inn (hTa.ext hE3) (by omega) (by omega)).mono ?_; rintro e' W4 ⟨v, K4', rfl, hi, hl, hb, hx4⟩) | fail)
                obtain ⟨t3, n3, hv3, ht3, hs3⟩ := hx4
                exact step_end ⟨v, K4', Ext.of_le hI3.st.inn hl, hI3.call hi hl hb, rfl, (t3, n3), W3.heap.size, hv3, ht3, Nat.zero_le _, (hTa.ext hE3).under hI3.st.inn, hs3⟩
              · intro v; rfl
              intro v11
              intro K8 W12 hE8 bY8 hF8
              obtain ⟨_, y, m, rfl, hTy, _, huy, hsy⟩ := hF8
              have hRy : Rep y.1 y.2 (setAll [] (E.take (i + 1))) := by rw [setAll_snoc E i _ Hx.out]; exact HRa.out.step (x := ta) (o := ⟨0, false, xb, xc⟩) huy hsy
              replace hRy := Lib.hid hRy
              replace hTc := hTc.ext hE8
              replace hke := hE8 _ _ hke
              replace HSf := Lib.hid (HSf.out.keep hE8)
              replace HE := Lib.hid (HE.out.trans hE8)
              clear huy hsy hE8
              change wpList _ _ _ (List.cons _ _) _ _
              go_wp2_with (first
                | ((with_reducible refine gate_store (T := 31) ?_); refine wpList_storeAll rfl rfl rfl rfl (cs := (encT y).toArray) rfl bY8.a.at_ rfl (by rw [size_Tree]; rfl) (by simp [encT, Value.oneCell']) ?_; intro W13 hu; replace bY8 := bY8.setA n67.out.symm n68.out.symm n610.out.symm hu; clear hu)
                | fail)
              refine wp_region_run (m := 12) (n := 182) (I := By K w g6 g7 g8 g10 y (.nil, 0) tc (.slice sa sl sc)) (K0 := K8)
                (ws := [.is (.agg (encT tc).toArray), .is (.slice (some ⟨be, ofe, none⟩) E.length ce), .is (.int .i64 (i : Nat)), .is (.pointer (some ⟨be, ofe + i * 2, none⟩)), .is (.pointer (some ⟨be, ofe + i * 2, none⟩)), .is (.int .i64 xb), .is (.slice (some ⟨be, ofe, none⟩) E.length ce), .is (.int .i64 (i : Nat)), .is (.pointer (some ⟨be, ofe + i * 2, none⟩)), .is (.pointer (some ⟨be, ofe + i * 2 + 1, none⟩)), .is (.int .i64 xc), .sat (ChgV 0 ⟨0, false, xb, xc⟩ tc)])
                mixed_ok (by kernel_rfl) rfl rfl ?monof16 bY8.drew ?_
              case monof16 =>
                simp only [List.forall_mem_cons]
                exact ⟨trivial, trivial, trivial, trivial, trivial, trivial, trivial, trivial, trivial, trivial, trivial, fun _ _ _ hE h => h.ext hE, fun _ h => by cases h⟩
              apply RunAll.is_
              · intro K3 W3 hE3 hI3 hF3
                go_wp2_with (first | ((with_reducible refine gate_load (T := 31) ?_); refine wpList_loadAggW (vs := encT tc) (off := 0) rfl rfl rfl Tryd.underlying31 rfl hI3.c.at_ (by rw [size_Tree]; rfl) (fun j u hu => by rw [Nat.zero_add]; simpa [encT] using hu) ?_) | fail)
                exact step_end ⟨⟨K3, Ext.refl _, hI3⟩, rfl⟩
              · rfl
              apply RunAll.is_
              · intro K3 W3 hE3 hI3 hF3
                go_wp2
                exact step_end ⟨⟨K3, Ext.refl _, hI3⟩, rfl⟩
              · rfl
              apply RunAll.is_
              · intro K3 W3 hE3 hI3 hF3
                go_wp2
                exact step_end ⟨⟨K3, Ext.refl _, hI3⟩, rfl⟩
              · rfl
              apply RunAll.is_
              · intro K3 W3 hE3 hI3 hF3
                go_wp2
                exact step_end ⟨⟨K3, Ext.refl _, hI3⟩, rfl⟩
              · rfl
              apply RunAll.is_
              · intro K3 W3 hE3 hI3 hF3
                go_wp2
                exact step_end ⟨⟨K3, Ext.refl _, hI3⟩, rfl⟩
              · rfl
              apply RunAll.is_
              · intro K3 W3 hE3 hI3 hF3
                go_wp2_with (first | ((with_reducible refine gate_load (T := 3) ?_); refine wpList_loadCell rfl rfl rfl Tryd.underlying3 rfl (hI3.st.inn.get (hE3 _ _ hke)) (Hje.out 0 _ rfl) ?_) | fail)
                exact step_end ⟨⟨K3, Ext.refl _, hI3⟩, rfl⟩
              · rfl
              apply RunAll.is_
              · intro K3 W3 hE3 hI3 hF3
                go_wp2
                exact step_end ⟨⟨K3, Ext.refl _, hI3⟩, rfl⟩
              · rfl
              apply RunAll.is_
              · intro K3 W3 hE3 hI3 hF3
                go_wp2
                exact step_end ⟨⟨K3, Ext.refl _, hI3⟩, rfl⟩
              · rfl
              apply RunAll.is_
              · intro K3 W3 hE3 hI3 hF3
                go_wp2
                exact step_end ⟨⟨K3, Ext.refl _, hI3⟩, rfl⟩
              · rfl
              apply RunAll.is_
              · intro K3 W3 hE3 hI3 hF3
                go_wp2
                exact step_end ⟨⟨K3, Ext.refl _, hI3⟩, rfl⟩
              · rfl
              apply RunAll.is_
              · intro K3 W3 hE3 hI3 hF3
                go_wp2_with (first | ((with_reducible refine gate_load (T := 3) ?_); refine wpList_loadCell rfl rfl rfl Tryd.underlying3 rfl (hI3.st.inn.get (hE3 _ _ hke)) (Hje.out 1 _ rfl) ?_) | fail)
                exact step_end ⟨⟨K3, Ext.refl _, hI3⟩, rfl⟩
              · rfl
              apply RunAll.sat_
              · intro K3 W3 hE3 hI3 hF3
                go_wp2_with (first | (go_at_call 14; refine (Set_ok K3 tc.1 tc.2 xb xc _ hI3.st.inn (hTc.ext hE3) (by omega) (by omega)).mono ?_; rintro e' W4 ⟨v, K4', rfl, hi, hl, hb, hx4⟩) | fail)
                obtain ⟨t3, n3, hv3, ht3, hs3⟩ := hx4
                exact step_end ⟨v, K4', Ext.of_le hI3.st.inn hl, hI3.call hi hl hb, rfl, (t3, n3), W3.heap.size, hv3, ht3, Nat.zero_le _, (hTc.ext hE3).under hI3.st.inn, hs3⟩
              · intro v; rfl
              intro v11
              intro K9 W14 hE9 bY9 hF9
              obtain ⟨_, y2, m2, rfl, hTy2, _, huy2, hsy2⟩ := hF9
              have hRy2 : Rep y2.1 y2.2 (rset M xb xc) := HRc.out.step (x := tc) (o := ⟨0, false, xb, xc⟩) huy2 hsy2
              replace hRy2 := Lib.hid hRy2
              replace hTy := hTy.ext hE9
              replace hke := hE9 _ _ hke
              replace HSf := Lib.hid (HSf.out.keep hE9)
              replace HE := Lib.hid (HE.out.trans hE9)
              clear huy2 hsy2 hE9
              change wpList _ _ _ (List.cons _ _) _ _
              go_wp2_with (first
                | ((with_reducible refine gate_store (T := 31) ?_); refine wpList_storeAll rfl rfl rfl rfl (cs := (encT y2).toArray) rfl bY9.c.at_ rfl (by rw [size_Tree]; rfl) (by simp [encT, Value.oneCell']) ?_; intro W15 hu; replace bY9 := bY9.setC n68.out n78.out n810.out.symm hu; clear hu)
                | fail)
              refine wp_region_run (m := 12) (n := 182) (I := By K w g6 g7 g8 g10 y (.nil, 0) y2 (.slice sa sl sc)) (K0 := K9)
                (ws := [.is (.agg #[.slice sa sl sc]), .is (.slice (some ⟨be, ofe, none⟩) E.length ce), .is (.int .i64 (i : Nat)), .is (.pointer (some ⟨be, ofe + i * 2, none⟩)), .is (.pointer (some ⟨be, ofe + i * 2, none⟩)), .is (.int .i64 xb), .is (.slice (some ⟨be, ofe, none⟩) E.length ce), .is (.int .i64 (i : Nat)), .is (.pointer (some ⟨be, ofe + i * 2, none⟩)), .is (.pointer (some ⟨be, ofe + i * 2 + 1, none⟩)), .is (.int .i64 xc), .sat (fun K v => RT K v (rset (setAll [] (E.take i)) xb xc))])
                mixed_ok (by kernel_rfl) rfl rfl ?monof17 bY9.drew ?_
              case monof17 =>
                simp only [List.forall_mem_cons]
                exact ⟨trivial, trivial, trivial, trivial, trivial, trivial, trivial, trivial, trivial, trivial, trivial, fun _ _ _ hE h => h.ext hE, fun _ h => by cases h⟩
              apply RunAll.is_
              · intro K3 W3 hE3 hI3 hF3
                go_wp2_with (first | ((with_reducible refine gate_load (T := 35) ?_); refine wpList_loadAggW (vs := [.slice sa sl sc]) (off := 0) rfl rfl rfl Tryd.underlying35 rfl hI3.f.at_ (by rw [size_RTree]; rfl) (fun j u hu => by rw [Nat.zero_add]; simpa using hu) ?_) | fail)
                exact step_end ⟨⟨K3, Ext.refl _, hI3⟩, rfl⟩
              · rfl
              apply RunAll.is_
              · intro K3 W3 hE3 hI3 hF3
                go_wp2
                exact step_end ⟨⟨K3, Ext.refl _, hI3⟩, rfl⟩
              · rfl
              apply RunAll.is_
              · intro K3 W3 hE3 hI3 hF3
                go_wp2
                exact step_end ⟨⟨K3, Ext.refl _, hI3⟩, rfl⟩
              · rfl
              apply RunAll.is_
              · intro K3 W3 hE3 hI3 hF3
                go_wp2
                exact step_end ⟨⟨K3, Ext.refl _, hI3⟩, rfl⟩
              · rfl
              apply RunAll.is_
              · intro K3 W3 hE3 hI3 hF3
                go_wp2
                exact step_end ⟨⟨K3, Ext.refl _, hI3⟩, rfl⟩
              · rfl
              apply RunAll.is_
              · intro K3 W3 hE3 hI3 hF3
                go_wp2_with (first | ((with_reducible refine gate_load (T := 3) ?_); refine wpList_loadCell rfl rfl rfl Tryd.underlying3 rfl (hI3.st.inn.get (hE3 _ _ hke)) (Hje.out 0 _ rfl) ?_) | fail)
                exact step_end ⟨⟨K3, Ext.refl _, hI3⟩, rfl⟩
              · rfl
              apply RunAll.is_
              · intro K3 W3 hE3 hI3 hF3
                go_wp2
                exact step_end ⟨⟨K3, Ext.refl _, hI3⟩, rfl⟩
              · rfl
              apply RunAll.is_
              · intro K3 W3 hE3 hI3 hF3
                go_wp2
                exact step_end ⟨⟨K3, Ext.refl _, hI3⟩, rfl⟩
              · rfl
              apply RunAll.is_
              · intro K3 W3 hE3 hI3 hF3
                go_wp2
                exact step_end ⟨⟨K3, Ext.refl _, hI3⟩, rfl⟩
              · rfl
              apply RunAll.is_
              · intro K3 W3 hE3 hI3 hF3
                go_wp2
                exact step_end ⟨⟨K3, Ext.refl _, hI3⟩, rfl⟩
              · rfl
              apply RunAll.is_
              · intro K3 W3 hE3 hI3 hF3
                go_wp2_with (first | ((with_reducible refine gate_load (T := 3) ?_); refine wpList_loadCell rfl rfl rfl Tryd.underlying3 rfl (hI3.st.inn.get (hE3 _ _ hke)) (Hje.out 1 _ rfl) ?_) | fail)
                exact step_end ⟨⟨K3, Ext.refl _, hI3⟩, rfl⟩
              · rfl
              apply RunAll.sat_
              · intro K3 W3 hE3 hI3 hF3
                go_wp2_with (first | (go_at_call 30; refine (rSet_ok K3 _ (setAll [] (E.take i)) xb xc _ hI3.st.inn (HSf.out.keep hE3) HFf.out (by omega)).mono ?_; rintro e' W4 ⟨v, K4', rfl, hi, hl, hb, hx4⟩) | fail)
                obtain ⟨hR4, hE4⟩ := hx4
                exact step_end ⟨v, K4', hE4, hI3.call hi hl hb, rfl, hR4⟩
              · intro v; rfl
              intro v11
              intro K10 W16 hE10 bY10 hF10
              obtain ⟨_, sv2, rfl, hS2, hFl2⟩ := hF10
              obtain ⟨a2, l2, c2, rfl⟩ : ∃ a l c, sv2 = .slice a l c := by obtain ⟨_, _, e, _⟩ := hS2; exact ⟨_, _, _, e⟩
              have HS2 := Lib.hid hS2
              have HFl2 := Lib.hid hFl2
              clear hS2 hFl2
              change wpList _ _ _ (List.cons _ _) _ _
              go_wp2_with (first
                | ((with_reducible refine gate_store (T := 35) ?_); refine wpList_storeAll rfl rfl rfl rfl (cs := #[.slice a2 l2 c2]) rfl bY10.f.at_ rfl (by rw [size_RTree]; rfl) (by simp [Value.oneCell']) ?_; intro W17 hu; replace bY10 := bY10.setF n610.out n710.out n810.out hu; clear hu)
                | fail)
              go_roundw
              case rel =>
                refine ⟨i + 1, K10, y, y2, rset M xb xc, a2, l2, c2, by omega, by go_num, bY10, Lib.hid (HE.out.trans hE10), Lib.hid (hTy.ext hE10), hRy, Lib.hid (hTy2.ext hE10), hRy2, Lib.hid ?_, Lib.hid ⟨?_, HFl2.out⟩⟩
                · rw [setAll_snoc E i _ Hx.out]; exact HC.out.set HRa.out.srt HRc.out.srt xb xc
                · rw [setAll_snoc E i _ Hx.out]; exact HS2.out
              case measure => simp [intOf]; omega
            · obtain rfl : i = E.length := by omega
              rw [List.take_length] at HRa HC HF
              have HSf := Lib.hid HF.out.1
              clear HF hlt hi
              have hFl : (setAll [] E).length ≤ 60 := by have := setAll_len E []; simp at this; omega
              go_wp2
              go_loopw [12] (fun vi wr => ∃ (v : Int) (K3 : Fz) (tb : PT × Int) (N : Ents), -1 ≤ v ∧ v < (E.length : Nat) ∧ vi = .int .i64 v ∧ By K w g6 g7 g8 g10 ta tb tc (.slice sa sl sc) K3 wr ∧ Hid (Ext K5 K3) ∧ Hid (Tr 76 K3 tb.1) ∧ Hid (Rep tb.1 tb.2 N) ∧ Hid (∀ z, rget N z = rget (setAll [] (E.drop (v + 1).toNat)) z))
                (fun vi _ => (intOf vi + 1).toNat)
              case atStart => exact ⟨(E.length : Nat) - 1, K5, (.nil, 0), [], by omega, by omega, by go_num, bY, Lib.hid (Ext.refl _), Lib.hid trivial, Lib.hid Rep.nil, Lib.hid (fun z => by rw [show ((E.length : Int) - 1 + 1).toNat = E.length by omega, List.drop_length]; rfl)⟩
              case round =>
                clear bY
                obtain ⟨v, K6, tb, N, hv0, hv1, rfl, bY, HE6, HTb, HRb, HN⟩ := hrel
                by_cases hvn : 0 ≤ v
                · obtain ⟨m, rfl⟩ := Int.eq_ofNat_of_zero_le hvn
                  have hm : m < E.length := by omega
                  obtain ⟨x, hx⟩ : ∃ x, E[m]? = some x := ⟨_, List.getElem?_eq_getElem hm⟩
                  obtain ⟨be, ofe, cse, tye, fre, rfl, hke, hje⟩ := Hxe.out m x hx
                  replace hke := HE6.out _ _ (HE.out _ _ hke)
                  obtain ⟨hn0, hn1⟩ := HRb.out.n_le
                  have hTb := HTb.out
                  have Hje := Lib.hid hje
                  have Hx := Lib.hid hx
                  have hgB : decide (0 ≤ (m : Int)) = true := by simp
                  obtain ⟨xb, xc⟩ := x
                  obtain ⟨⟨gc, had⟩, hg⟩ : ∃ r, rget N xb = r := ⟨_, rfl⟩
                  have hlk : tb.1.look xb = (gc, had) := (HRb.out.look _).trans hg
                  have Hg := Lib.hid hg
                  have Hlk := Lib.hid hlk
                  have hb := back_step HRb.out.srt hx (fun z => by have := HN.out z; rwa [show ((m : Int) + 1).toNat = m + 1 by omega] at this)
                  have Hb := Lib.hid hb
                  clear hje hx hg hlk hb
                  go_wp2
                  clear hgB
                  refine wp_region_run (m := 12) (n := 182) (I := By K w g6 g7 g8 g10 ta tb tc (.slice sa sl sc)) (K0 := K6)
                    (ws := [.is (.agg (encT tb).toArray), .is (.slice (some ⟨be, ofe, none⟩) E.length ce), .is (.int .i64 (m : Nat)), .is (.pointer (some ⟨be, ofe + m * 2, none⟩)), .is (.pointer (some ⟨be, ofe + m * 2, none⟩)), .is (.int .i64 xb), .is (.tuple #[.int .i64 gc, .bool had]), .is (.tuple #[.int .i64 gc, .bool had]), .is (.int .i64 gc), .is (.bool had), .is (.int .i64 gc), .is (.bool had)])
                    mixed_ok (by kernel_rfl) rfl rfl ?monof21 bY.drew ?_
                  case monof21 =>
                    simp only [List.forall_mem_cons]
                    exact ⟨trivial, trivial, trivial, trivial, trivial, trivial, trivial, trivial, trivial, trivial, trivial, trivial, fun _ h => by cases h⟩
                  apply RunAll.is_
                  · intro K3 W3 hE3 hI3 hF3
                    go_wp2_with (first | ((with_reducible refine gate_load (T := 31) ?_); refine wpList_loadAggW (vs := encT tb) (off := 0) rfl rfl rfl Tryd.underlying31 rfl hI3.b.at_ (by rw [size_Tree]; rfl) (fun j u hu => by rw [Nat.zero_add]; simpa [encT] using hu) ?_) | fail)
                    exact step_end ⟨⟨K3, Ext.refl _, hI3⟩, rfl⟩
                  · rfl
                  apply RunAll.is_
                  · intro K3 W3 hE3 hI3 hF3
                    go_wp2
                    exact step_end ⟨⟨K3, Ext.refl _, hI3⟩, rfl⟩
                  · rfl
                  apply RunAll.is_
                  · intro K3 W3 hE3 hI3 hF3
                    go_wp2
                    exact step_end ⟨⟨K3, Ext.refl _, hI3⟩, rfl⟩
                  · rfl
                  apply RunAll.is_
                  · intro K3 W3 hE3 hI3 hF3
                    go_wp2
                    exact step_end ⟨⟨K3, Ext.refl _, hI3⟩, rfl⟩
                  · rfl
                  apply RunAll.is_
                  · intro K3 W3 hE3 hI3 hF3
                    go_wp2
                    exact step_end ⟨⟨K3, Ext.refl _, hI3⟩, rfl⟩
                  · rfl
                  apply RunAll.is_
                  · intro K3 W3 hE3 hI3 hF3
                    go_wp2_with (first | ((with_reducible refine gate_load (T := 3) ?_); refine wpList_loadCell rfl rfl rfl Tryd.underlying3 rfl (hI3.st.inn.get (hE3 _ _ hke)) (Hje.out 0 _ rfl) ?_) | fail)
                    exact step_end ⟨⟨K3, Ext.refl _, hI3⟩, rfl⟩
                  · rfl
                  apply RunAll.is_
                  · intro K3 W3 hE3 hI3 hF3
                    go_wp2_with (first | (go_at_call 23; refine (get_at K3 tb.1 tb.2 xb (gc, had) _ Hlk.out hI3.st.inn (hTb.ext hE3)).mono ?_; rintro e' W4 ⟨rfl, hb⟩) | fail)
                    exact step_end ⟨⟨K3, Ext.refl _, hI3.quiet hb⟩, rfl⟩
                  · rfl
                  apply RunAll.is_
                  · intro K3 W3 hE3 hI3 hF3
                    go_wp2
                    exact step_end ⟨⟨K3, Ext.refl _, hI3⟩, rfl⟩
                  · rfl
                  apply RunAll.is_
                  · intro K3 W3 hE3 hI3 hF3
                    go_wp2
                    exact step_end ⟨⟨K3, Ext.refl _, hI3⟩, rfl⟩
                  · rfl
                  apply RunAll.is_
                  · intro K3 W3 hE3 hI3 hF3
                    go_wp2
                    exact step_end ⟨⟨K3, Ext.refl _, hI3⟩, rfl⟩
                  · rfl
                  apply RunAll.is_
                  · intro K3 W3 hE3 hI3 hF3
                    go_wp2
                    exact step_end ⟨⟨K3, Ext.refl _, hI3⟩, rfl⟩
                  · rfl
                  apply RunAll.is_
                  · intro K3 W3 hE3 hI3 hF3
                    go_wp2
                    exact step_end ⟨⟨K3, Ext.refl _, hI3⟩, rfl⟩
                  · rfl
                  intro K7 W18 hE7 bY7 hF7
                  change wpList _ _ _ List.nil _ _
                  replace hTb := hTb.ext hE7
                  replace hke := hE7 _ _ hke
                  replace HE6 := Lib.hid (HE6.out.trans hE7)
                  clear hE7 hF7
                  cases had with
                  | true =>
                    go_wp2
                    go_roundw
                    case rel =>
                      refine ⟨(m : Int) - 1, K7, tb, N, by omega, by omega, by go_num, bY7, HE6, Lib.hid hTb, HRb, Lib.hid (fun z => ?_)⟩
                      have h := Hb.out z
                      rw [Hg.out] at h
                      simp only [if_true] at h
                      rw [show ((m : Int) - 1 + 1).toNat = m by omega]
                      exact h
                    case measure => simp [intOf]
                  | false =>
                    go_wp2
                    refine wp_region_run (m := 12) (n := 182) (I := By K w g6 g7 g8 g10 ta tb tc (.slice sa sl sc)) (K0 := K7)
                      (ws := [.is (.agg (encT tb).toArray), .is (.slice (some ⟨be, ofe, none⟩) E.length ce), .is (.int .i64 (m : Nat)), .is (.pointer (some ⟨be, ofe + m * 2, none⟩)), .is (.pointer (some ⟨be, ofe + m * 2, none⟩)), .is (.int .i64 xb), .is (.slice (some ⟨be, ofe, none⟩) E.length ce), .is (.int .i64 (m : Nat)), .is (.pointer (some ⟨be, ofe + m * 2, none⟩)), .is (.pointer (some ⟨be, ofe + m * 2 + 1, none⟩)), .is (.int .i64 xc), .sat (ChgV 0 ⟨0, false, xb, xc⟩ tb)])
                      mixed_ok (by kernel_rfl) rfl rfl ?monof23 bY7.drew ?_
                    case monof23 =>
                      simp only [List.forall_mem_cons]
                      exact ⟨trivial, trivial, trivial, trivial, trivial, trivial, trivial, trivial, trivial, trivial, trivial, fun _ _ _ hE h => h.ext hE, fun _ h => by cases h⟩
                    apply RunAll.is_
                    · intro K3 W3 hE3 hI3 hF3
                      go_wp2_with (first | ((with_reducible refine gate_load (T := 31) ?_); refine wpList_loadAggW (vs := encT tb) (off := 0) rfl rfl rfl Tryd.underlying31 rfl hI3.b.at_ (by rw [size_Tree]; rfl) (fun j u hu => by rw [Nat.zero_add]; simpa [encT] using hu) ?_) | fail)
                      exact step_end ⟨⟨K3, Ext.refl _, hI3⟩, rfl⟩
                    · rfl
                    apply RunAll.is_
                    · intro K3 W3 hE3 hI3 hF3
                      go_wp2
                      exact step_end ⟨⟨K3, Ext.refl _, hI3⟩, rfl⟩
                    · rfl
                    apply RunAll.is_
                    · intro K3 W3 hE3 hI3 hF3
                      go_wp2
                      exact step_end ⟨⟨K3, Ext.refl _, hI3⟩, rfl⟩
                    · rfl
                    apply RunAll.is_
                    · intro K3 W3 hE3 hI3 hF3
                      go_wp2
                      exact step_end ⟨⟨K3, Ext.refl _, hI3⟩, rfl⟩
                    · rfl
                    apply RunAll.is_
                    · intro K3 W3 hE3 hI3 hF3
                      go_wp2
                      exact step_end ⟨⟨K3, Ext.refl _, hI3⟩, rfl⟩
                    · rfl
                    apply RunAll.is_
                    · intro K3 W3 hE3 hI3 hF3
                      go_wp2_with (first | ((with_reducible refine gate_load (T := 3) ?_); refine wpList_loadCell rfl rfl rfl Tryd.underlying3 rfl (hI3.st.inn.get (hE3 _ _ hke)) (Hje.out 0 _ rfl) ?_) | fail)
                      exact step_end ⟨⟨K3, Ext.refl _, hI3⟩, rfl⟩
                    · rfl
                    apply RunAll.is_
                    · intro K3 W3 hE3 hI3 hF3
                      go_wp2
                      exact step_end ⟨⟨K3, Ext.refl _, hI3⟩, rfl⟩
                    · rfl
                    apply RunAll.is_
                    · intro K3 W3 hE3 hI3 hF3
                      go_wp2
                      exact step_end ⟨⟨K3, Ext.refl _, hI3⟩, rfl⟩
                    · rfl
                    apply RunAll.is_
                    · intro K3 W3 hE3 hI3 hF3
                      go_wp2
                      exact step_end ⟨⟨K3, Ext.refl _, hI3⟩, rfl⟩
                    · rfl
                    apply RunAll.is_
                    · intro K3 W3 hE3 hI3 hF3
                      go_wp2
                      exact step_end ⟨⟨K3, Ext.refl _, hI3⟩, rfl⟩
                    · rfl
                    apply RunAll.is_
                    · intro K3 W3 hE3 hI3 hF3
                      go_wp2_with (first | ((with_reducible refine gate_load (T := 3) ?_); refine wpList_loadCell rfl rfl rfl Tryd.underlying3 rfl (hI3.st.inn.get (hE3 _ _ hke)) (Hje.out 1 _ rfl) ?_) | fail)
                      exact step_end ⟨⟨K3, Ext.refl _, hI3⟩, rfl⟩
                    · rfl
                    apply RunAll.sat_
                    · intro K3 W3 hE3 hI3 hF3
                      go_wp2_with (first | (go_at_call 14; refine (Set_ok K3 tb.1 tb.2 xb xc _ hI3.st.inn (hTb.ext hE3) (by omega) (by omega)).mono ?_; rintro e' W4 ⟨v, K4', rfl, hi, hl, hb, hx4⟩) | fail)
                      obtain ⟨t3, n3, hv3, ht3, hs3⟩ := hx4
                      exact step_end ⟨v, K4', Ext.of_le hI3.st.inn hl, hI3.call hi hl hb, rfl, (t3, n3), W3.heap.size, hv3, ht3, Nat.zero_le _, (hTb.ext hE3).under hI3.st.inn, hs3⟩
                    · intro v; rfl
                    intro v11
                    intro K8 W20 hE8 bY8 hF8
                    obtain ⟨_, y, m', rfl, hTy, _, huy, hsy⟩ := hF8
                    have hRy : Rep y.1 y.2 (rset N xb xc) := HRb.out.step (x := tb) (o := ⟨0, false, xb, xc⟩) huy hsy
                    replace hRy := Lib.hid hRy
                    clear huy hsy
                    change wpList _ _ _ (List.cons _ _) _ _
                    go_wp2_with (first
                      | ((with_reducible refine gate_store (T := 31) ?_); refine wpList_storeAll rfl rfl rfl rfl (cs := (encT y).toArray) rfl bY8.b.at_ rfl (by rw [size_Tree]; rfl) (by simp [encT, Value.oneCell']) ?_; intro W21 hu; replace bY8 := bY8.setB n67.out n78.out.symm n710.out.symm hu; clear hu)
                      | fail)
                    go_roundw
                    case rel =>
                      refine ⟨(m : Int) - 1, K8, y, rset N xb xc, by omega, by omega, by go_num, bY8, Lib.hid (HE6.out.trans hE8), Lib.hid hTy, hRy, Lib.hid (fun z => ?_)⟩
                      have h := Hb.out z
                      rw [Hg.out] at h
                      simp only [Bool.false_eq_true, if_false] at h
                      rw [show ((m : Int) - 1 + 1).toNat = m by omega]
                      exact h
                    case measure => simp [intOf]
                · obtain rfl : v = -1 := by omega
                  obtain rfl : N = setAll [] E := ents_ext HRb.out.srt HRa.out.srt (fun z => by have := HN.out z; simpa using this)
                  have HEb := Lib.hid (HE.out.trans HE6.out)
                  have HTa6 := Lib.hid (HTa.out.ext HE6.out)
                  have HTc6 := Lib.hid (HTc.out.ext HE6.out)
                  have HSf6 := Lib.hid (HSf.out.keep HE6.out)
                  clear HN hvn hv0 hv1
                  go_wp2
                  go_loopw [15] (fun vi wr => ∃ (i : Nat) (K3 : Fz) (tc : PT × Int) (M : Ents), i ≤ O.length ∧ vi = .int .i64 i ∧ By K w g6 g7 g8 g10 ta tb tc (.slice sa sl sc) K3 wr ∧ Hid (Ext K6 K3) ∧ Hid (Tr 76 K3 tc.1) ∧ Hid (Rep tc.1 tc.2 M) ∧ Hid (CInv (setAll [] E) M (O.drop i)))
                    (fun vi _ => O.length - (intOf vi).toNat)
                  case atStart => exact ⟨0, K6, tc, M, by omega, rfl, bY, Lib.hid (Ext.refl _), HTc6, HRc, Lib.hid (by simpa using HC.out)⟩
                  case round =>
                    clear bY HTc6 HRc HC HTc
                    obtain ⟨i, K7, tc, M, hi, rfl, bY, HE7, HTc, HRc, HC⟩ := hrel
                    by_cases hlt : i < O.length
                    · obtain ⟨e, he⟩ : ∃ e, O[i]? = some e := ⟨_, List.getElem?_eq_getElem hlt⟩
                      obtain ⟨bo, ofo, cso, tyo, fro, rfl, hko, hjo⟩ := Hxo.out i e he
                      replace hko := HE7.out _ _ (HEb.out _ _ hko)
                      obtain ⟨hn0, hn1⟩ := HRc.out.n_le
                      have hTc := HTc.out
                      have HS7 := Lib.hid (HSf6.out.keep HE7.out)
                      have Hjo := Lib.hid hjo
                      have hlB : decide ((i : Int) < (O.length : Nat)) = true := by simp; omega
                      obtain ⟨⟨gc, is⟩, hg⟩ : ∃ r, rget (setAll [] E) e = r := ⟨_, rfl⟩
                      have Hg := Lib.hid hg
                      have hc := HC.out.clear HRc.out.srt he
                      have Hc := Lib.hid hc
                      clear hjo he hg hc
                      go_wp2
                      clear hlB
                      refine wp_region_run (m := 11) (n := 182) (I := By K w g6 g7 g8 g10 ta tb tc (.slice sa sl sc)) (K0 := K7)
                        (ws := [.is (.agg #[.slice sa sl sc]), .is (.slice (some ⟨bo, ofo, none⟩) O.length co), .is (.int .i64 (i : Nat)), .is (.pointer (some ⟨bo, ofo + i, none⟩)), .is (.int .i64 e), .is (.tuple #[.int .i64 gc, .bool is]), .is (.tuple #[.int .i64 gc, .bool is]), .is (.int .i64 gc), .is (.bool is), .is (.int .i64 gc), .is (.bool is)])
                        mixed_ok (by kernel_rfl) rfl rfl ?monof27 bY.drew ?_
                      case monof27 =>
                        simp only [List.forall_mem_cons]
                        exact ⟨trivial, trivial, trivial, trivial, trivial, trivial, trivial, trivial, trivial, trivial, trivial, fun _ h => by cases h⟩
                      apply RunAll.is_
                      · intro K3 W3 hE3 hI3 hF3
                        go_wp2_with (first | ((with_reducible refine gate_load (T := 35) ?_); refine wpList_loadAggW (vs := [.slice sa sl sc]) (off := 0) rfl rfl rfl Tryd.underlying35 rfl hI3.f.at_ (by rw [size_RTree]; rfl) (fun j u hu => by rw [Nat.zero_add]; simpa using hu) ?_) | fail)
                        exact step_end ⟨⟨K3, Ext.refl _, hI3⟩, rfl⟩
                      · rfl
                      apply RunAll.is_
                      · intro K3 W3 hE3 hI3 hF3
                        go_wp2
                        exact step_end ⟨⟨K3, Ext.refl _, hI3⟩, rfl⟩
                      · rfl
                      apply RunAll.is_
                      · intro K3 W3 hE3 hI3 hF3
                        go_wp2
                        exact step_end ⟨⟨K3, Ext.refl _, hI3⟩, rfl⟩
                      · rfl
                      apply RunAll.is_
                      · intro K3 W3 hE3 hI3 hF3
                        go_wp2
                        exact step_end ⟨⟨K3, Ext.refl _, hI3⟩, rfl⟩
                      · rfl
                      apply RunAll.is_
                      · intro K3 W3 hE3 hI3 hF3
                        go_wp2_with (first | ((with_reducible refine gate_load (T := 3) ?_); refine wpList_loadCell rfl rfl rfl Tryd.underlying3 rfl (hI3.st.inn.get (hE3 _ _ hko)) (by have := Hjo.out 0 _ rfl; rwa [Nat.mul_one, Nat.add_zero] at this) ?_) | fail)
                        exact step_end ⟨⟨K3, Ext.refl _, hI3⟩, rfl⟩
                      · rfl
                      apply RunAll.is_
                      · intro K3 W3 hE3 hI3 hF3
                        go_wp2_with (first | (go_at_call 29; refine (rGet_at K3 _ (setAll [] E) e gc is _ Hg.out hI3.st.inn (HS7.out.keep hE3) (by omega)).mono ?_; rintro e' W4 ⟨rfl, hb⟩) | fail)
                        exact step_end ⟨⟨K3, Ext.refl _, hI3.quiet hb⟩, rfl⟩
                      · rfl
                      apply RunAll.is_
                      · intro K3 W3 hE3 hI3 hF3
                        go_wp2
                        exact step_end ⟨⟨K3, Ext.refl _, hI3⟩, rfl⟩
                      · rfl
                      apply RunAll.is_
                      · intro K3 W3 hE3 hI3 hF3
                        go_wp2
                        exact step_end ⟨⟨K3, Ext.refl _, hI3⟩, rfl⟩
                      · rfl
                      apply RunAll.is_
                      · intro K3 W3 hE3 hI3 hF3
                        go_wp2
                        exact step_end ⟨⟨K3, Ext.refl _, hI3⟩, rfl⟩
                      · rfl
                      apply RunAll.is_
                      · intro K3 W3 hE3 hI3 hF3
                        go_wp2
                        exact step_end ⟨⟨K3, Ext.refl _, hI3⟩, rfl⟩
                      · rfl
                      apply RunAll.is_
                      · intro K3 W3 hE3 hI3 hF3
                        go_wp2
                        exact step_end ⟨⟨K3, Ext.refl _, hI3⟩, rfl⟩
                      · rfl
                      intro K8 W22 hE8 bY8 hF8
                      change wpList _ _ _ List.nil _ _
                      replace hTc := hTc.ext hE8
                      replace hko := hE8 _ _ hko
                      replace HE7 := Lib.hid (HE7.out.trans hE8)
                      clear hE8 hF8
                      cases is with
                      | true =>
                        go_wp2
                        go_roundw
                        case rel =>
                          refine ⟨i + 1, K8, tc, M, by omega, by go_num, bY8, HE7, Lib.hid hTc, HRc, Lib.hid ?_⟩
                          have h := Hc.out
                          rw [Hg.out] at h
                          exact h
                        case measure => simp [intOf]; omega
                      | false =>
                        go_wp2
                        refine wp_region_run (m := 6) (n := 182) (I := By K w g6 g7 g8 g10 ta tb tc (.slice sa sl sc)) (K0 := K8)
                          (ws := [.is (.agg (encT tc).toArray), .is (.slice (some ⟨bo, ofo, none⟩) O.length co), .is (.int .i64 (i : Nat)), .is (.pointer (some ⟨bo, ofo + i, none⟩)), .is (.int .i64 e), .sat (ChgV 0 ⟨0, true, e, 0⟩ tc)])
                          mixed_ok (by kernel_rfl) rfl rfl ?monof29 bY8.drew ?_
                        case monof29 =>
                          simp only [List.forall_mem_cons]
                          exact ⟨trivial, trivial, trivial, trivial, trivial, fun _ _ _ hE h => h.ext hE, fun _ h => by cases h⟩
                        apply RunAll.is_
                        · intro K3 W3 hE3 hI3 hF3
                          go_wp2_with (first | ((with_reducible refine gate_load (T := 31) ?_); refine wpList_loadAggW (vs := encT tc) (off := 0) rfl rfl rfl Tryd.underlying31 rfl hI3.c.at_ (by rw [size_Tree]; rfl) (fun j u hu => by rw [Nat.zero_add]; simpa [encT] using hu) ?_) | fail)
                          exact step_end ⟨⟨K3, Ext.refl _, hI3⟩, rfl⟩
                        · rfl
                        apply RunAll.is_
                        · intro K3 W3 hE3 hI3 hF3
                          go_wp2
                          exact step_end ⟨⟨K3, Ext.refl _, hI3⟩, rfl⟩
                        · rfl
                        apply RunAll.is_
                        · intro K3 W3 hE3 hI3 hF3
                          go_wp2
                          exact step_end ⟨⟨K3, Ext.refl _, hI3⟩, rfl⟩
                        · rfl
                        apply RunAll.is_
                        · intro K3 W3 hE3 hI3 hF3
                          go_wp2
                          exact step_end ⟨⟨K3, Ext.refl _, hI3⟩, rfl⟩
                        · rfl
                        apply RunAll.is_
                        · intro K3 W3 hE3 hI3 hF3
                          go_wp2_with (first | ((with_reducible refine gate_load (T := 3) ?_); refine wpList_loadCell rfl rfl rfl Tryd.underlying3 rfl (hI3.st.inn.get (hE3 _ _ hko)) (by have := Hjo.out 0 _ rfl; rwa [Nat.mul_one, Nat.add_zero] at this) ?_) | fail)
                          exact step_end ⟨⟨K3, Ext.refl _, hI3⟩, rfl⟩
                        · rfl
                        apply RunAll.sat_
                        · intro K3 W3 hE3 hI3 hF3
                          go_wp2_with (first | (go_at_call 15; refine (Clear_ok K3 tc.1 tc.2 e _ hI3.st.inn (hTc.ext hE3) (by omega) (by omega)).mono ?_; rintro e' W4 ⟨v, K4', rfl, hi, hl, hb, hx4⟩) | fail)
                          obtain ⟨t3, n3, hv3, ht3, hs3⟩ := hx4
                          exact step_end ⟨v, K4', Ext.of_le hI3.st.inn hl, hI3.call hi hl hb, rfl, (t3, n3), W3.heap.size, hv3, ht3, Nat.zero_le _, (hTc.ext hE3).under hI3.st.inn, hs3⟩
                        · intro v; rfl
                        intro v5
                        intro K9 W24 hE9 bY9 hF9
                        obtain ⟨_, y, m', rfl, hTy, _, huy, hsy⟩ := hF9
                        have hRy : Rep y.1 y.2 (rclr M e) := HRc.out.step (x := tc) (o := ⟨0, true, e, 0⟩) huy hsy
                        replace hRy := Lib.hid hRy
                        clear huy hsy
                        change wpList _ _ _ (List.cons _ _) _ _
                        go_wp2_with (first
                          | ((with_reducible refine gate_store (T := 31) ?_); refine wpList_storeAll rfl rfl rfl rfl (cs := (encT y).toArray) rfl bY9.c.at_ rfl (by rw [size_Tree]; rfl) (by simp [encT, Value.oneCell']) ?_; intro W25 hu; replace bY9 := bY9.setC n68.out n78.out n810.out.symm hu; clear hu)
                          | fail)
                        go_roundw
                        case rel =>
                          refine ⟨i + 1, K9, y, rclr M e, by omega, by go_num, bY9, Lib.hid (HE7.out.trans hE9), Lib.hid hTy, hRy, Lib.hid ?_⟩
                          have h := Hc.out
                          rw [Hg.out] at h
                          exact h
                        case measure => simp [intOf]; omega
                    · obtain rfl : i = O.length := by omega
                      have hC := HC.out
                      rw [List.drop_length] at hC
                      obtain rfl : M = setAll [] E := hC.done HRa.out.srt HRc.out.srt
                      obtain ⟨K8, hE8, s8, hk6, hf8⟩ := bY.st.shut' bY.a
                      have o7 := hf8 _ _ bY.b n67.out.symm
                      have o8 := hf8 _ _ bY.c n68.out.symm
                      have o10 := hf8 _ _ bY.f n610.out.symm
                      obtain ⟨K9, hE9, s9, hk7, hf9⟩ := s8.shut' o7
                      replace o8 := hf9 _ _ o8 n78.out.symm
                      replace o10 := hf9 _ _ o10 n710.out.symm
                      obtain ⟨K10, hE10, s10, hk8, hf10⟩ := s9.shut' o8
                      replace o10 := hf10 _ _ o10 n810.out.symm
                      obtain ⟨K11, hE11, s11, hk10, _⟩ := s10.shut' o10
                      replace hk6 := hE11 _ _ (hE10 _ _ (hE9 _ _ hk6))
                      replace hk7 := hE11 _ _ (hE10 _ _ hk7)
                      replace hk8 := hE11 _ _ hk8
                      have hE7b : Ext K7 K11 := ((hE8.trans hE9).trans hE10).trans hE11
                      have hTa := HTa6.out.ext (HE7.out.trans hE7b)
                      have hTb := HTb.out.ext (HE7.out.trans hE7b)
                      have hTc := HTc.out.ext hE7b
                      have HSz := Lib.hid (HSf6.out.keep (HE7.out.trans hE7b))
                      have hTab := ht.ext (HEb.out.trans (HE7.out.trans hE7b))
                      have hfl : ((setAll [] E).filter (inR 0 4096)).length ≤ 1000000 := Nat.le_trans (List.length_filter_le _ _) (by omega)
                      have hself : (rdiff (setAll [] E) (setAll [] E)).isEmpty = true := by rw [(rdiff_nil HRa.out.srt HRa.out.srt).2 rfl]; rfl
                      have hQ : ∀ (u : PT × Int), Rep u.1 u.2 (setAll [] E) → Tr 76 K11 u.1 → ∀ (K8 : Fz) W, Ext K11 K8 → K8.In W → Calls Tryd.prog 22 #[.agg (encT ta).toArray, .agg (encT u).toArray] W fun e w' => e = .returned (.bool true) ∧ Below W.heap.size W w' := fun u hRu hTu K8 W hE hW => by
                        refine (Equal_ok ta.1 u.1 ta.2 u.2 K8 W hW (hTa.ext hE) (hTu.ext hE) (hTab.ext hE) (by have := diffs_le HRa.out hRu hTa hTu; omega)).mono ?_
                        rintro e w' ⟨rfl, hb⟩
                        rw [HRa.out.equal hRu hTa hTu, hself]
                        exact ⟨rfl, hb⟩
                      have HQb := Lib.hid (hQ tb HRb.out hTb)
                      have HQc := Lib.hid (hQ tc HRc.out hTc)
                      obtain ⟨cn, hcn⟩ : ∃ cn, cntTo (setAll [] E) (setAll [] E).length = cn := ⟨_, rfl⟩
                      have Hca := Lib.hid (show (gathAll [ta] []).length = cn from HRa.out.nodes1.trans hcn)
                      have Hcb := Lib.hid (show (gathAll [tb] []).length = cn from HRb.out.nodes1.trans hcn)
                      have Hcc := Lib.hid (show (gathAll [tc] []).length = cn from HRc.out.nodes1.trans hcn)
                      have Hfl := Lib.hid hfl
                      clear hfl hcn hself hQ hC HC bY o7 o8 o10 hf8 hf9 hf10 s8 s9 s10 hlt hi
                      go_wp2
                      refine wp_region_run (m := 4) (n := 182) (I := fun K2 W => St K w K2 W) (K0 := K11)
                        (ws := [.is (.agg (encT ta).toArray), .is (.agg #[.slice sa sl sc]), .sat (fun K v => SlK K 2 encE v ((setAll [] E).filter (inR 0 4096))), .is (.bool true)])
                        mixed_ok (by kernel_rfl) rfl rfl ?monof30 s11.drew ?_
                      case monof30 =>
                        simp only [List.forall_mem_cons]
                        exact ⟨trivial, trivial, fun _ _ _ hE h => h.keep hE, trivial, fun _ h => by cases h⟩
                      apply RunAll.is_
                      · intro K3 W3 hE3 hI3 hF3
                        go_wp2_with (first | ((with_reducible refine gate_load (T := 31) ?_); refine wpList_loadAggW (vs := encT ta) (off := 0) rfl rfl rfl Tryd.underlying31 rfl (hI3.inn.get (hE3 _ _ hk6)) (by kernel_rfl) (fun j u hu => by rw [Nat.zero_add]; simpa [encT] using hu) ?_) | fail)
                        exact step_end ⟨⟨K3, Ext.refl _, hI3⟩, rfl⟩
                      · rfl
                      apply RunAll.is_
                      · intro K3 W3 hE3 hI3 hF3
                        go_wp2_with (first | ((with_reducible refine gate_load (T := 35) ?_); refine wpList_loadAggW (vs := [.slice sa sl sc]) (off := 0) rfl rfl rfl Tryd.underlying35 rfl (hI3.inn.get (hE3 _ _ hk10)) (by kernel_rfl) (fun j u hu => by rw [Nat.zero_add]; simpa using hu) ?_) | fail)
                        exact step_end ⟨⟨K3, Ext.refl _, hI3⟩, rfl⟩
                      · rfl
                      apply RunAll.sat_
                      · intro K3 W3 hE3 hI3 hF3
                        go_wp2_with (first | (go_at_call 25; refine (rAll_ok K3 _ (setAll [] E) _ hI3.inn (HSz.out.keep hE3) (by omega)).mono ?_; rintro e' W4 ⟨v, K4', rfl, hi4, hl4, hb4, hx4⟩) | fail)
                        obtain ⟨hS4, hE4⟩ := hx4
                        exact step_end ⟨v, K4', hE4, hI3.call hi4 hl4 hb4, rfl, hS4⟩
                      · intro v; rfl
                      intro v2
                      apply RunAll.is_
                      · intro K3 W3 hE3 hI3 hF3
                        go_wp2_with (first | (go_at_call 24; refine (yields_true_ok ta.1 ta.2 0 0 _ ((setAll [] E).filter (inR 0 4096)) 0 K3 _ hI3.inn (hTa.ext hE3) (hF3.2 rfl) Hfl.out (all_walk HRa.out 0 4096)).mono ?_; rintro e' W4 ⟨rfl, hb⟩) | fail)
                        exact step_end ⟨⟨K3, Ext.refl _, hI3.quiet hb⟩, rfl⟩
                      · rfl
                      intro K12 W26 hE12 hI12 hF12
                      change wpList _ _ _ (List.cons _ _) _ _
                      replace hTa := hTa.ext hE12
                      replace hTb := hTb.ext hE12
                      replace hTc := hTc.ext hE12
                      replace hk6 := hE12 _ _ hk6
                      replace hk7 := hE12 _ _ hk7
                      replace hk8 := hE12 _ _ hk8
                      go_wp2
                      refine wp_region_run (m := 32) (n := 182) (I := fun K2 W => St K w K2 W) (K0 := K12)
                        (ws := [.is (.bool true), .is (.bool true), .is (.bool true), .is (.bool true), .is (.bool true), .is (.agg (encT ta).toArray), .is (.agg (encT tb).toArray), .is (.bool true), .is (.bool true), .is (.bool true), .is (.agg (encT ta).toArray), .is (.agg (encT tc).toArray), .is (.bool true), .is (.bool true), .is (.bool true), .is (.agg (encT ta).toArray), .sat (fun K v => SlK K 2 encT v [ta]), .is (.int .i64 (cn : Nat)), .is (.agg (encT tb).toArray), .sat (fun K v => SlK K 2 encT v [tb]), .is (.int .i64 (cn : Nat)), .is (.bool true), .is (.bool true), .is (.bool true), .is (.agg (encT ta).toArray), .sat (fun K v => SlK K 2 encT v [ta]), .is (.int .i64 (cn : Nat)), .is (.agg (encT tc).toArray), .sat (fun K v => SlK K 2 encT v [tc]), .is (.int .i64 (cn : Nat)), .is (.bool true), .is (.bool true)])
                        mixed_ok (by kernel_rfl) rfl rfl ?monof31 hI12.drew ?_
                      case monof31 =>
                        simp only [List.forall_mem_cons]
                        exact ⟨trivial, trivial, trivial, trivial, trivial, trivial, trivial, trivial, trivial, trivial, trivial, trivial, trivial, trivial, trivial, trivial, fun _ _ _ hE h => h.keep hE, trivial, trivial, fun _ _ _ hE h => h.keep hE, trivial, trivial, trivial, trivial, trivial, fun _ _ _ hE h => h.keep hE, trivial, trivial, fun _ _ _ hE h => h.keep hE, trivial, trivial, trivial, fun _ h => by cases h⟩
                      apply RunAll.is_
                      · intro K3 W3 hE3 hI3 hF3
                        go_wp2
                        exact step_end ⟨⟨K3, Ext.refl _, hI3⟩, rfl⟩
                      · rfl
                      apply RunAll.is_
                      · intro K3 W3 hE3 hI3 hF3
                        go_wp2
                        exact step_end ⟨⟨K3, Ext.refl _, hI3⟩, rfl⟩
                      · rfl
                      apply RunAll.is_
                      · intro K3 W3 hE3 hI3 hF3
                        go_wp2
                        exact step_end ⟨⟨K3, Ext.refl _, hI3⟩, rfl⟩
                      · rfl
                      apply RunAll.is_
                      · intro K3 W3 hE3 hI3 hF3
                        go_wp2
                        exact step_end ⟨⟨K3, Ext.refl _, hI3⟩, rfl⟩
                      · rfl
                      apply RunAll.is_
                      · intro K3 W3 hE3 hI3 hF3
                        go_wp2
                        exact step_end ⟨⟨K3, Ext.refl _, hI3⟩, rfl⟩
                      · rfl
                      apply RunAll.is_
                      · intro K3 W3 hE3 hI3 hF3
                        go_wp2_with (first | ((with_reducible refine gate_load (T := 31) ?_); refine wpList_loadAggW (vs := encT ta) (off := 0) rfl rfl rfl Tryd.underlying31 rfl (hI3.inn.get (hE3 _ _ hk6)) (by kernel_rfl) (fun j u hu => by rw [Nat.zero_add]; simpa [encT] using hu) ?_) | fail)
                        exact step_end ⟨⟨K3, Ext.refl _, hI3⟩, rfl⟩
                      · rfl
                      apply RunAll.is_
                      · intro K3 W3 hE3 hI3 hF3
                        go_wp2_with (first | ((with_reducible refine gate_load (T := 31) ?_); refine wpList_loadAggW (vs := encT tb) (off := 0) rfl rfl rfl Tryd.underlying31 rfl (hI3.inn.get (hE3 _ _ hk7)) (by kernel_rfl) (fun j u hu => by rw [Nat.zero_add]; simpa [encT] using hu) ?_) | fail)
                        exact step_end ⟨⟨K3, Ext.refl _, hI3⟩, rfl⟩
                      · rfl
                      apply RunAll.is_
                      · intro K3 W3 hE3 hI3 hF3
                        go_wp2_with (first | (go_at_call 22; refine (HQb.out K3 _ (hE12.trans hE3) hI3.inn).mono ?_; rintro e' W4 ⟨rfl, hb⟩) | fail)
                        exact step_end ⟨⟨K3, Ext.refl _, hI3.quiet hb⟩, rfl⟩
                      · rfl
                      apply RunAll.is_
                      · intro K3 W3 hE3 hI3 hF3
                        go_wp2
                        exact step_end ⟨⟨K3, Ext.refl _, hI3⟩, rfl⟩
                      · rfl
                      apply RunAll.is_
                      · intro K3 W3 hE3 hI3 hF3
                        go_wp2
                        exact step_end ⟨⟨K3, Ext.refl _, hI3⟩, rfl⟩
                      · rfl
                      apply RunAll.is_
                      · intro K3 W3 hE3 hI3 hF3
                        go_wp2_with (first | ((with_reducible refine gate_load (T := 31) ?_); refine wpList_loadAggW (vs := encT ta) (off := 0) rfl rfl rfl Tryd.underlying31 rfl (hI3.inn.get (hE3 _ _ hk6)) (by kernel_rfl) (fun j u hu => by rw [Nat.zero_add]; simpa [encT] using hu) ?_) | fail)
                        exact step_end ⟨⟨K3, Ext.refl _, hI3⟩, rfl⟩
                      · rfl
                      apply RunAll.is_
                      · intro K3 W3 hE3 hI3 hF3
                        go_wp2_with (first | ((with_reducible refine gate_load (T := 31) ?_); refine wpList_loadAggW (vs := encT tc) (off := 0) rfl rfl rfl Tryd.underlying31 rfl (hI3.inn.get (hE3 _ _ hk8)) (by kernel_rfl) (fun j u hu => by rw [Nat.zero_add]; simpa [encT] using hu) ?_) | fail)
                        exact step_end ⟨⟨K3, Ext.refl _, hI3⟩, rfl⟩
                      · rfl
                      apply RunAll.is_
                      · intro K3 W3 hE3 hI3 hF3
                        go_wp2_with (first | (go_at_call 22; refine (HQc.out K3 _ (hE12.trans hE3) hI3.inn).mono ?_; rintro e' W4 ⟨rfl, hb⟩) | fail)
                        exact step_end ⟨⟨K3, Ext.refl _, hI3.quiet hb⟩, rfl⟩
                      · rfl
                      apply RunAll.is_
                      · intro K3 W3 hE3 hI3 hF3
                        go_wp2
                        exact step_end ⟨⟨K3, Ext.refl _, hI3⟩, rfl⟩
                      · rfl
                      apply RunAll.is_
                      · intro K3 W3 hE3 hI3 hF3
                        go_wp2
                        exact step_end ⟨⟨K3, Ext.refl _, hI3⟩, rfl⟩
                      · rfl
                      apply RunAll.is_
                      · intro K3 W3 hE3 hI3 hF3
                        go_wp2_with (first | ((with_reducible refine gate_load (T := 31) ?_); refine wpList_loadAggW (vs := encT ta) (off := 0) rfl rfl rfl Tryd.underlying31 rfl (hI3.inn.get (hE3 _ _ hk6)) (by kernel_rfl) (fun j u hu => by rw [Nat.zero_add]; simpa [encT] using hu) ?_) | fail)
                        exact step_end ⟨⟨K3, Ext.refl _, hI3⟩, rfl⟩
                      · rfl
                      apply RunAll.sat_
                      · intro K3 W3 hE3 hI3 hF3
                        go_wp2_with (first | ((with_reducible refine gate_buildSlice (T := 24) ?_); refine wpList_build1W rfl rfl rfl (cs := (encT ta).toArray) Tryd.underlying24 info_tree (by decide) (by decide) (by kernel_rfl) ?_; intro gn W5 eg hn; obtain ⟨K4, hE4, s4, hS4⟩ := fresh_trees hI3 eg hn (zs := [ta]) rfl rfl; clear eg hn) | fail)
                        generalize hgv : Value.slice (some ⟨gn, 0, none⟩) 1 1 = v10 at hS4 ⊢
                        exact step_end ⟨v10, K4, hE4, s4, rfl, hS4⟩
                      · intro v; rfl
                      intro v16
                      apply RunAll.is_
                      · intro K3 W3 hE3 hI3 hF3
                        go_wp2_with (first | (go_at_call 12; refine (Nodes_ok K3 [ta] _ _ hI3.inn (hF3.2 rfl) (all_one (hTa.ext hE3)) (by simp)).mono ?_; rintro e' W4 ⟨rfl, hb⟩; rw [Hca.out]) | fail)
                        exact step_end ⟨⟨K3, Ext.refl _, hI3.quiet hb⟩, rfl⟩
                      · rfl
                      apply RunAll.is_
                      · intro K3 W3 hE3 hI3 hF3
                        go_wp2_with (first | ((with_reducible refine gate_load (T := 31) ?_); refine wpList_loadAggW (vs := encT tb) (off := 0) rfl rfl rfl Tryd.underlying31 rfl (hI3.inn.get (hE3 _ _ hk7)) (by kernel_rfl) (fun j u hu => by rw [Nat.zero_add]; simpa [encT] using hu) ?_) | fail)
                        exact step_end ⟨⟨K3, Ext.refl _, hI3⟩, rfl⟩
                      · rfl
                      apply RunAll.sat_
                      · intro K3 W3 hE3 hI3 hF3
                        go_wp2_with (first | ((with_reducible refine gate_buildSlice (T := 24) ?_); refine wpList_build1W rfl rfl rfl (cs := (encT tb).toArray) Tryd.underlying24 info_tree (by decide) (by decide) (by kernel_rfl) ?_; intro gn W5 eg hn; obtain ⟨K4, hE4, s4, hS4⟩ := fresh_trees hI3 eg hn (zs := [tb]) rfl rfl; clear eg hn) | fail)
                        generalize hgv : Value.slice (some ⟨gn, 0, none⟩) 1 1 = v10 at hS4 ⊢
                        exact step_end ⟨v10, K4, hE4, s4, rfl, hS4⟩
                      · intro v; rfl
                      intro v19
                      apply RunAll.is_
                      · intro K3 W3 hE3 hI3 hF3
                        go_wp2_with (first | (go_at_call 12; refine (Nodes_ok K3 [tb] _ _ hI3.inn (hF3.2 rfl) (all_one (hTb.ext hE3)) (by simp)).mono ?_; rintro e' W4 ⟨rfl, hb⟩; rw [Hcb.out]) | fail)
                        exact step_end ⟨⟨K3, Ext.refl _, hI3.quiet hb⟩, rfl⟩
                      · rfl
                      apply RunAll.is_
                      · intro K3 W3 hE3 hI3 hF3
                        go_wp2
                        exact step_end ⟨⟨K3, Ext.refl _, hI3⟩, rfl⟩
                      · rfl
                      apply RunAll.is_
                      · intro K3 W3 hE3 hI3 hF3
                        go_wp2
                        exact step_end ⟨⟨K3, Ext.refl _, hI3⟩, rfl⟩
                      · rfl
                      apply RunAll.is_
                      · intro K3 W3 hE3 hI3 hF3
                        go_wp2
                        exact step_end ⟨⟨K3, Ext.refl _, hI3⟩, rfl⟩
                      · rfl
                      apply RunAll.is_
                      · intro K3 W3 hE3 hI3 hF3
                        go_wp2_with (first | ((with_reducible refine gate_load (T := 31) ?_); refine wpList_loadAggW (vs := encT ta) (off := 0) rfl rfl rfl Tryd.underlying31 rfl (hI3.inn.get (hE3 _ _ hk6)) (by kernel_rfl) (fun j u hu => by rw [Nat.zero_add]; simpa [encT] using hu) ?_) | fail)
                        exact step_end ⟨⟨K3, Ext.refl _, hI3⟩, rfl⟩
                      · rfl
                      apply RunAll.sat_
                      · intro K3 W3 hE3 hI3 hF3
                        go_wp2_with (first | ((with_reducible refine gate_buildSlice (T := 24) ?_); refine wpList_build1W rfl rfl rfl (cs := (encT ta).toArray) Tryd.underlying24 info_tree (by decide) (by decide) (by kernel_rfl) ?_; intro gn W5 eg hn; obtain ⟨K4, hE4, s4, hS4⟩ := fresh_trees hI3 eg hn (zs := [ta]) rfl rfl; clear eg hn) | fail)
                        generalize hgv : Value.slice (some ⟨gn, 0, none⟩) 1 1 = v10 at hS4 ⊢
                        exact step_end ⟨v10, K4, hE4, s4, rfl, hS4⟩
                      · intro v; rfl
                      intro v16
                      apply RunAll.is_
                      · intro K3 W3 hE3 hI3 hF3
                        go_wp2_with (first | (go_at_call 12; refine (Nodes_ok K3 [ta] _ _ hI3.inn (hF3.2 rfl) (all_one (hTa.ext hE3)) (by simp)).mono ?_; rintro e' W4 ⟨rfl, hb⟩; rw [Hca.out]) | fail)
                        exact step_end ⟨⟨K3, Ext.refl _, hI3.quiet hb⟩, rfl⟩
                      · rfl
                      apply RunAll.is_
                      · intro K3 W3 hE3 hI3 hF3
                        go_wp2_with (first | ((with_reducible refine gate_load (T := 31) ?_); refine wpList_loadAggW (vs := encT tc) (off := 0) rfl rfl rfl Tryd.underlying31 rfl (hI3.inn.get (hE3 _ _ hk8)) (by kernel_rfl) (fun j u hu => by rw [Nat.zero_add]; simpa [encT] using hu) ?_) | fail)
                        exact step_end ⟨⟨K3, Ext.refl _, hI3⟩, rfl⟩
                      · rfl
                      apply RunAll.sat_
                      · intro K3 W3 hE3 hI3 hF3
                        go_wp2_with (first | ((with_reducible refine gate_buildSlice (T := 24) ?_); refine wpList_build1W rfl rfl rfl (cs := (encT tc).toArray) Tryd.underlying24 info_tree (by decide) (by decide) (by kernel_rfl) ?_; intro gn W5 eg hn; obtain ⟨K4, hE4, s4, hS4⟩ := fresh_trees hI3 eg hn (zs := [tc]) rfl rfl; clear eg hn) | fail)
                        generalize hgv : Value.slice (some ⟨gn, 0, none⟩) 1 1 = v10 at hS4 ⊢
                        exact step_end ⟨v10, K4, hE4, s4, rfl, hS4⟩
                      · intro v; rfl
                      intro v28
                      apply RunAll.is_
                      · intro K3 W3 hE3 hI3 hF3
                        go_wp2_with (first | (go_at_call 12; refine (Nodes_ok K3 [tc] _ _ hI3.inn (hF3.2 rfl) (all_one (hTc.ext hE3)) (by simp)).mono ?_; rintro e' W4 ⟨rfl, hb⟩; rw [Hcc.out]) | fail)
                        exact step_end ⟨⟨K3, Ext.refl _, hI3.quiet hb⟩, rfl⟩
                      · rfl
                      apply RunAll.is_
                      · intro K3 W3 hE3 hI3 hF3
                        go_wp2
                        exact step_end ⟨⟨K3, Ext.refl _, hI3⟩, rfl⟩
                      · rfl
                      apply RunAll.is_
                      · intro K3 W3 hE3 hI3 hF3
                        go_wp2
                        exact step_end ⟨⟨K3, Ext.refl _, hI3⟩, rfl⟩
                      · rfl
                      intro K13 W27 hE13 hI13 hF13
                      change wpList _ _ _ (List.cons _ _) _ _
                      go_wp2
                      go_ret
                      exact ⟨rfl, hI13.below⟩
    · have hB2 : decide ((60 : Int) < (O.length : Nat)) = true := by simp; omega
      go_enter Tryd.func8, Tryd.ntmps8
      go_wp2_with (first
        | (go_at_call 9; refine (sanity_ok K _ s.inn ht).mono ?_; rintro e W1 ⟨rfl, hb⟩; replace s := s.quiet hb; clear hb)
        | fail)
      go_ret
      exact ⟨rfl, s.below⟩
  · have hB1 : decide ((60 : Int) < (E.length : Nat)) = true := by simp; omega
    go_enter Tryd.func8, Tryd.ntmps8
    go_wp2_with (first
      | (go_at_call 9; refine (sanity_ok K _ s.inn ht).mono ?_; rintro e W1 ⟨rfl, hb⟩; replace s := s.quiet hb; clear hb)
      | fail)
    go_ret
    exact ⟨rfl, s.below⟩
end Go.Proofs.YtpfdlpniijgakaaDoor
