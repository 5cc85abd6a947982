/- What the law TreeDiffLeads answers. -/
import Derived.Test.YtpfdlpniijgakaaDoorLawKit2
import Derived.Test.YtpfdlpniijgakaaDoorLawC
namespace Go.Proofs.YtpfdlpniijgakaaDoor
open Go Go.RowKit
set_option maxHeartbeats 400000

theorem rdiff_symm {A B : Ents} (hA : Srt A) (hB : Srt B) : rdiff A B = rdiff B A := by
  refine sorted_ext id _ _ (rdiff_srt A B hA hB) (rdiff_srt B A hB hA) fun z => ?_
  rw [rdiff_mem A B hA hB, rdiff_mem B A hB hA]
  exact ⟨Ne.symm, Ne.symm⟩
theorem srt_len2 {A B : Ents} (hA : Srt A) (ha : InB A) (hB : Srt B) (hb : InB B) : (rdiff A B).length ≤ 8192 := by
  have h1 := srt_len A 0 hA ha (by omega)
  have h2 := srt_len B 0 hB hb (by omega)
  have := rdiff_len A B
  omega
theorem in_rdiff {A B : Ents} (hA : Srt A) (ha : InB A) (hB : Srt B) (hb : InB B) {e : Int} (h : e ∈ rdiff A B) : 0 ≤ e ∧ e < 4096 := by
  apply Classical.byContradiction
  intro hn
  exact (rdiff_mem A B hA hB e).1 h (by rw [rget_out hA ha hn, rget_out hB hb hn])
/-- The tree on its way from A to B. -/
def OnWay (A B M : Ents) (i : Nat) : Prop := ∀ z, rget M z = if z ∈ (rdiff A B).take i then rget B z else rget A z
theorem OnWay.next {A B M M' : Ents} {i : Nat} {e : Int} (h : OnWay A B M i) (he : (rdiff A B)[i]? = some e) (hM : ∀ z, rget M' z = if z = e then rget B e else rget M z) : OnWay A B M' (i + 1) := by
  intro z
  rw [hM, h z, List.take_add_one, he]
  by_cases h1 : z = e
  · subst h1; simp
  · rw [if_neg h1]
    by_cases h2 : z ∈ (rdiff A B).take i
    · simp [h2]
    · simp [h1, h2]
theorem OnWay.done {A B M : Ents} (hA : Srt A) (hB : Srt B) (hM : Srt M) (h : OnWay A B M (rdiff A B).length) : M = B := by
  refine ents_ext hM hB fun z => ?_
  rw [h z, List.take_length]
  split
  · rfl
  · rename_i hn
    apply Classical.byContradiction
    intro hne
    exact hn ((rdiff_mem A B hA hB z).2 hne)
theorem rset_get {M : Ents} (hM : Srt M) {e c : Int} (he : 0 ≤ e ∧ e < 4096) (z : Int) : rget (rset M e c) z = if z = e then (c, true) else rget M z := by
  rw [rset_eq M e c (by omega), insE_get hM]
theorem rclr_get {M : Ents} (hM : Srt M) {e : Int} (z : Int) : rget (rclr M e) z = if z = e then (0, false) else rget M z := by
  rw [rclr_eq, delE_get hM]

set_option maxRecDepth 100000 in
set_option maxHeartbeats 16000000 in
theorem DiffLeads_ok (K : Fz) (sv1 : Value) (os1 : List Chg) (sv2 : Value) (os2 : List Chg) (w : World) (hK : K.In w) (ht : Tab K) (hS1 : SlK K 4 encO sv1 os1) (hS2 : SlK K 4 encO sv2 os2) :
    Calls Tryd.prog 6 #[sv1, sv2] w fun e w' => e = .returned (.bool true) ∧ Below w.heap.size w w' := by
  have HS1 := Lib.hid hS1
  have HS2 := Lib.hid hS2
  obtain ⟨a1, cap1, rfl, hcap1, _⟩ := hS1
  obtain ⟨a2, cap2, rfl, hcap2, _⟩ := hS2
  have s := St.start hK
  by_cases hlen1 : os1.length ≤ 60
  · have hB1 : decide ((60 : Int) < (os1.length : Nat)) = false := by simp; omega
    by_cases hlen2 : os2.length ≤ 60
    · have hB2 : decide ((60 : Int) < (os2.length : Nat)) = false := by simp; omega
      go_enter Tryd.func6, Tryd.ntmps6
      go_wp2_with (first
        | (go_at_call 9; refine (sanity_ok K _ s.inn ht).mono ?_; rintro e W1 ⟨rfl, hb⟩; replace s := s.quiet hb; clear hb)
        | (go_at_call 10; refine (play_ok K _ os1 _ s.inn HS1.out (by omega)).mono ?_; rintro e W2 ⟨v1, K1, rfl, hi, hl, hb, ts, hSl, hTs, hV, hE1⟩; replace s := s.call hi hl hb; clear hi hl hb; have hlts : ts.length = os1.length + 1 := hV.1; obtain ⟨xa, A, hxa, _, hRa, hAl⟩ := at_version hV (i := os1.length) (by omega); obtain ⟨al, cl, rfl, hcl, hxl⟩ := hSl; obtain ⟨bl, ofl, csl, tyl, frl, rfl, hkl, hjl⟩ := hxl os1.length xa hxa; have hTa := hTs xa (List.mem_of_getElem? hxa); rw [hlts] at hcl ⊢; replace hjl := Lib.hid hjl; replace hRa := Lib.hid hRa; replace hE1 := Lib.hid hE1; clear hxl hxa hTs hV hlts)
        | (go_at_call 10; refine (play_ok K1 _ os2 _ s.inn (HS2.out.keep hE1.out) (by omega)).mono ?_; rintro e W3 ⟨v2, K2, rfl, hi, hl, hb, ts, hSl, hTs, hV, hE2⟩; replace s := s.call hi hl hb; clear hi hl hb; have hlts : ts.length = os2.length + 1 := hV.1; obtain ⟨xb, B, hxb, _, hRb, hBl⟩ := at_version hV (i := os2.length) (by omega); obtain ⟨ar, cr, rfl, hcr, hxr⟩ := hSl; obtain ⟨br, ofr, csr, tyr, frr, rfl, hkr, hjr⟩ := hxr os2.length xb hxb; have hTb := hTs xb (List.mem_of_getElem? hxb); rw [hlts] at hcr ⊢; replace hjr := Lib.hid hjr; replace hRb := Lib.hid hRb; replace hTa := hTa.ext hE2; replace hkl := hE2 _ _ hkl; have HTab : Hid (Tab K2) := Lib.hid (ht.ext (hE1.out.trans hE2)); clear hxr hxb hTs hV hlts hE1 hE2)
        | ((with_reducible refine gate_load (T := 31) (x := .tmp 38) ?_); refine wpList_loadAggW (vs := encT xa) (off := ofl + os1.length * 2) rfl rfl rfl Tryd.underlying31 rfl (s.inn.get hkl) (by rw [size_Tree]; rfl) (fun j u hu => hjl.out j u hu) ?_)
        | ((with_reducible refine gate_load (T := 31) (x := .tmp 44) ?_); refine wpList_loadAggW (vs := encT xb) (off := ofr + os2.length * 2) rfl rfl rfl Tryd.underlying31 rfl (s.inn.get hkr) (by rw [size_Tree]; rfl) (fun j u hu => hjr.out j u hu) ?_)
        | ((with_reducible refine gate_alloc (T := 31) (dst := some 8) ?_); refine wpList_allocG rfl rfl zero_Tree (cs := #[.pointer none, .int .i64 0]) rfl ?_; intro g8 W4 e hn; have o8 := Own.made s e hn; replace s := s.new hn; clear e hn)
        | ((with_reducible refine gate_store (T := 31) (x := .tmp 8) ?_); refine wpList_storeAll rfl rfl rfl rfl (cs := (encT xa).toArray) rfl o8.at_ rfl (by rw [size_Tree]; rfl) (by simp [encT, Value.oneCell']) ?_; intro W5 hu; replace s := s.upd o8 hu; replace o8 := o8.upd hu; clear hu; obtain ⟨K3, hE3, s3, hk8⟩ := s.shut o8; replace s := s3; replace hTa := hTa.ext hE3; replace hTb := hTb.ext hE3; replace hkr := hE3 _ _ hkr; replace HTab := Lib.hid (HTab.out.ext hE3); clear s3 o8 hE3)
        | ((with_reducible refine gate_alloc (T := 31) (dst := some 9) ?_); refine wpList_allocG rfl rfl zero_Tree (cs := #[.pointer none, .int .i64 0]) rfl ?_; intro g9 W6 e hn; have o9 := Own.made s e hn; replace s := s.new hn; clear e hn)
        | ((with_reducible refine gate_store (T := 31) (x := .tmp 9) ?_); refine wpList_storeAll rfl rfl rfl rfl (cs := (encT xb).toArray) rfl o9.at_ rfl (by rw [size_Tree]; rfl) (by simp [encT, Value.oneCell']) ?_; intro W7 hu; replace s := s.upd o9 hu; replace o9 := o9.upd hu; clear hu; obtain ⟨K4, hE4, s4, hk9⟩ := s.shut o9; replace s := s4; replace hTa := hTa.ext hE4; replace hTb := hTb.ext hE4; replace hk8 := hE4 _ _ hk8; replace HTab := Lib.hid (HTab.out.ext hE4); clear s4 o9 hE4; have hDl : (diffs 2 xa.1 xb.1 0).length ≤ 100000 := (by have := diffs_le hRa.out hRb.out hTa hTb; omega))
        | ((with_reducible refine gate_load (T := 31) (x := .tmp 8) ?_); refine wpList_loadAggW (vs := encT xa) (off := 0) rfl rfl rfl Tryd.underlying31 rfl (s.inn.get hk8) (by rw [size_Tree]; rfl) (fun j u hu => by rw [Nat.zero_add]; simpa [encT] using hu) ?_)
        | ((with_reducible refine gate_load (T := 31) (x := .tmp 9) ?_); refine wpList_loadAggW (vs := encT xb) (off := 0) rfl rfl rfl Tryd.underlying31 rfl (s.inn.get hk9) (by rw [size_Tree]; rfl) (fun j u hu => by rw [Nat.zero_add]; simpa [encT] using hu) ?_)
        | (go_at_call 20; refine (Diff_ok xa.1 xb.1 xa.2 xb.2 K4 _ s.inn hTa hTb HTab.out hDl).mono ?_; rintro e W8 ⟨v5, K5, rfl, hi, hl, hb, hSd, hE5⟩; replace s := s.call hi hl hb; clear hi hl hb; have hSe : SlK K5 1 encZ v5 (rdiff A B) := (hRa.out.diffs hRb.out hTa hTb) ▸ hSd.ofNat; clear hSd; have HSe := Lib.hid hSe; obtain ⟨ad, cd, rfl, hcd, hxd⟩ := hSe; replace hxd := Lib.hid hxd; replace hTa := hTa.ext hE5; replace hTb := hTb.ext hE5; replace hk8 := hE5 _ _ hk8; replace hk9 := hE5 _ _ hk9; replace HTab := Lib.hid (HTab.out.ext hE5); clear hE5)
        | ((with_reducible refine gate_alloc (T := 31) (dst := some 11) ?_); refine wpList_allocG rfl rfl zero_Tree (cs := #[.pointer none, .int .i64 0]) rfl ?_; intro g11 W9 e hn; have o11 := Own.made s e hn; replace s := s.new hn; clear e hn)
        | ((with_reducible refine gate_store (T := 31) (x := .tmp 11) ?_); refine wpList_storeAll rfl rfl rfl rfl (cs := (encT xa).toArray) rfl o11.at_ rfl (by rw [size_Tree]; rfl) (by simp [encT, Value.oneCell']) ?_; intro W10 hu; replace s := s.upd o11 hu; replace o11 := o11.upd hu; clear hu)
        | fail)
      have HTa := Lib.hid hTa
      have HTb := Lib.hid hTb
      have Hk8 := Lib.hid hk8
      have Hk9 := Lib.hid hk9
      have hEl : (rdiff A B).length ≤ 8192 := srt_len2 hRa.out.srt hRa.out.inb hRb.out.srt hRb.out.inb
      clear hTa hTb hk8 hk9 hkl hkr hjl hjr
      go_loopw [12] (fun vi wr => ∃ (i : Nat) (K6 : Fz) (t : PT × Int) (M : Ents), i ≤ (rdiff A B).length ∧ vi = .int .i64 i ∧ St K w K6 wr ∧ Own w K6 wr g11 (.cells (encT t).toArray 31 (0, 0)) ∧ Hid (Ext K5 K6) ∧ Hid (Tr 76 K6 t.1) ∧ Hid (Rep t.1 t.2 M) ∧ Hid (OnWay A B M i))
        (fun vi _ => (rdiff A B).length - (intOf vi).toNat)
      case atStart => exact ⟨0, K5, xa, A, by omega, rfl, s, o11, Lib.hid (Ext.refl _), HTa, hRa, Lib.hid (fun z => by simp)⟩
      case round =>
        clear s o11
        obtain ⟨i, K6, t, M, hi, rfl, s, o11, HE, HT, HR, HW⟩ := hrel
        by_cases hlt : i < (rdiff A B).length
        · obtain ⟨e, he⟩ : ∃ e, (rdiff A B)[i]? = some e := ⟨_, List.getElem?_eq_getElem hlt⟩
          obtain ⟨bd, ofd, csd, tyd, frd, rfl, hkd, hjd⟩ := hxd.out i e he
          have hTb := HTb.out.ext HE.out
          replace hkd := HE.out _ _ hkd
          have hk9 := HE.out _ _ Hk9.out
          have hin := in_rdiff hRa.out.srt hRa.out.inb hRb.out.srt hRb.out.inb (List.mem_of_getElem? he)
          have hT := HT.out
          obtain ⟨hn0, hn1⟩ := HR.out.n_le
          have Hjd := Lib.hid hjd
          have He := Lib.hid he
          have hlB : decide ((i : Int) < ((rdiff A B).length : Nat)) = true := by simp; omega
          clear hjd he
          obtain ⟨⟨c, is⟩, hr⟩ : ∃ r, xb.1.look e = r := ⟨_, rfl⟩
          have Hr := Lib.hid hr
          clear hr
          go_wp2
          clear hlB
          refine wp_region_run (m := 11) (n := 102) (I := fun K2 W => St K w K2 W ∧ Own w K2 W g11 (.cells (encT t).toArray 31 (0, 0))) (K0 := K6)
            (ws := [.is (.agg (encT xb).toArray), .is (.slice (some ⟨bd, ofd, none⟩) (rdiff A B).length cd), .is (.int .i64 (i : Nat)), .is (.pointer (some ⟨bd, ofd + i, none⟩)), .is (.int .i64 e), .is (.tuple #[.int .i64 c, .bool is]), .is (.tuple #[.int .i64 c, .bool is]), .is (.int .i64 c), .is (.bool is), .is (.int .i64 c), .is (.bool is)])
            mixed_ok (by kernel_rfl) rfl rfl ?monod13 ⟨s.drew, o11.drew⟩ ?_
          case monod13 =>
            simp only [List.forall_mem_cons]
            exact ⟨trivial, trivial, trivial, trivial, trivial, trivial, trivial, trivial, trivial, trivial, trivial, fun _ h => by cases h⟩
          apply RunAll.is_
          · intro K3 W3 hE3 hI3 hF3
            go_wp2_with (first | ((with_reducible refine gate_load (T := 31) ?_); refine wpList_loadAggW (vs := encT xb) (off := 0) rfl rfl rfl Tryd.underlying31 rfl (hI3.1.inn.get (hE3 _ _ hk9)) (by kernel_rfl) (fun j u hu => by rw [Nat.zero_add]; simpa [encT] using hu) ?_) | fail)
            exact step_end ⟨⟨K3, Ext.refl _, hI3⟩, rfl⟩
          · rfl
          apply RunAll.is_
          · intro K3 W3 hE3 hI3 hF3
            go_wp2
            exact step_end ⟨⟨K3, Ext.refl _, hI3⟩, rfl⟩
          · rfl
          apply RunAll.is_
          · intro K3 W3 hE3 hI3 hF3
            go_wp2
            exact step_end ⟨⟨K3, Ext.refl _, hI3⟩, rfl⟩
          · rfl
          apply RunAll.is_
          · intro K3 W3 hE3 hI3 hF3
            go_wp2
            exact step_end ⟨⟨K3, Ext.refl _, hI3⟩, rfl⟩
          · rfl
          apply RunAll.is_
          · intro K3 W3 hE3 hI3 hF3
            go_wp2_with (first | ((with_reducible refine gate_load (T := 3) ?_); refine wpList_loadCell rfl rfl rfl Tryd.underlying3 rfl (hI3.1.inn.get (hE3 _ _ hkd)) (by have := Hjd.out 0 _ rfl; rwa [Nat.mul_one, Nat.add_zero] at this) ?_) | fail)
            exact step_end ⟨⟨K3, Ext.refl _, hI3⟩, rfl⟩
          · rfl
          apply RunAll.is_
          · intro K3 W3 hE3 hI3 hF3
            go_wp2_with (first | (go_at_call 23; refine (get_at K3 xb.1 xb.2 e (c, is) _ Hr.out hI3.1.inn (hTb.ext hE3)).mono ?_; rintro e W4 ⟨rfl, hb⟩) | fail)
            exact step_end ⟨⟨K3, Ext.refl _, hI3.1.quiet hb, hI3.2.quiet hb⟩, rfl⟩
          · rfl
          apply RunAll.is_
          · intro K3 W3 hE3 hI3 hF3
            go_wp2
            exact step_end ⟨⟨K3, Ext.refl _, hI3⟩, rfl⟩
          · rfl
          apply RunAll.is_
          · intro K3 W3 hE3 hI3 hF3
            go_wp2
            exact step_end ⟨⟨K3, Ext.refl _, hI3⟩, rfl⟩
          · rfl
          apply RunAll.is_
          · intro K3 W3 hE3 hI3 hF3
            go_wp2
            exact step_end ⟨⟨K3, Ext.refl _, hI3⟩, rfl⟩
          · rfl
          apply RunAll.is_
          · intro K3 W3 hE3 hI3 hF3
            go_wp2
            exact step_end ⟨⟨K3, Ext.refl _, hI3⟩, rfl⟩
          · rfl
          apply RunAll.is_
          · intro K3 W3 hE3 hI3 hF3
            go_wp2
            exact step_end ⟨⟨K3, Ext.refl _, hI3⟩, rfl⟩
          · rfl
          intro K7 W11 hE7 hI7 hF7
          obtain ⟨s7, o7⟩ := hI7
          replace hT := hT.ext hE7
          replace hkd := hE7 _ _ hkd
          replace HE := Lib.hid (HE.out.trans hE7)
          clear hE7 hF7
          change wpList _ _ _ List.nil _ _
          cases is with
          | true =>
            go_wp2
            refine wp_region_run (m := 7) (n := 102) (I := fun K2 W => St K w K2 W ∧ Own w K2 W g11 (.cells (encT t).toArray 31 (0, 0))) (K0 := K7)
              (ws := [.is (.agg (encT t).toArray), .is (.slice (some ⟨bd, ofd, none⟩) (rdiff A B).length cd), .is (.int .i64 (i : Nat)), .is (.pointer (some ⟨bd, ofd + i, none⟩)), .is (.int .i64 e), .is (.int .i64 c), .sat (ChgV 0 ⟨0, false, e, c⟩ t)])
              mixed_ok (by kernel_rfl) rfl rfl ?monod15 ⟨s7.drew, o7.drew⟩ ?_
            case monod15 =>
              simp only [List.forall_mem_cons]
              exact ⟨trivial, trivial, trivial, trivial, trivial, trivial, fun _ _ _ hE h => h.ext hE, fun _ h => by cases h⟩
            apply RunAll.is_
            · intro K3 W3 hE3 hI3 hF3
              go_wp2_with (first | ((with_reducible refine gate_load (T := 31) ?_); refine wpList_loadAggW (vs := encT t) (off := 0) rfl rfl rfl Tryd.underlying31 rfl hI3.2.at_ (by rw [size_Tree]; rfl) (fun j u hu => by rw [Nat.zero_add]; simpa [encT] using hu) ?_) | fail)
              exact step_end ⟨⟨K3, Ext.refl _, hI3⟩, rfl⟩
            · rfl
            apply RunAll.is_
            · intro K3 W3 hE3 hI3 hF3
              go_wp2
              exact step_end ⟨⟨K3, Ext.refl _, hI3⟩, rfl⟩
            · rfl
            apply RunAll.is_
            · intro K3 W3 hE3 hI3 hF3
              go_wp2
              exact step_end ⟨⟨K3, Ext.refl _, hI3⟩, rfl⟩
            · rfl
            apply RunAll.is_
            · intro K3 W3 hE3 hI3 hF3
              go_wp2
              exact step_end ⟨⟨K3, Ext.refl _, hI3⟩, rfl⟩
            · rfl
            apply RunAll.is_
            · intro K3 W3 hE3 hI3 hF3
              go_wp2_with (first | ((with_reducible refine gate_load (T := 3) ?_); refine wpList_loadCell rfl rfl rfl Tryd.underlying3 rfl (hI3.1.inn.get (hE3 _ _ hkd)) (by have := Hjd.out 0 _ rfl; rwa [Nat.mul_one, Nat.add_zero] at this) ?_) | fail)
              exact step_end ⟨⟨K3, Ext.refl _, hI3⟩, rfl⟩
            · rfl
            apply RunAll.is_
            · intro K3 W3 hE3 hI3 hF3
              go_wp2
              exact step_end ⟨⟨K3, Ext.refl _, hI3⟩, rfl⟩
            · rfl
            apply RunAll.sat_
            · intro K3 W3 hE3 hI3 hF3
              go_wp2_with (first | (go_at_call 14; refine (Set_ok K3 t.1 t.2 e c _ hI3.1.inn (hT.ext hE3) (by omega) (by omega)).mono ?_; rintro e W4 ⟨v, K4', rfl, hi, hl, hb, hx4⟩) | fail)
              obtain ⟨t3, n3, hv3, ht3, hs3⟩ := hx4
              exact step_end ⟨v, K4', Ext.of_le hI3.1.inn hl, ⟨hI3.1.call hi hl hb, hI3.2.call hl hb⟩, rfl, (t3, n3), W3.heap.size, hv3, ht3, Nat.zero_le _, (hT.ext hE3).under hI3.1.inn, hs3⟩
            · intro v; rfl
            intro v6
            intro K8 W12 hE8 hI8 hF8
            obtain ⟨_, y, m, rfl, hTy, _, huy, hsy⟩ := hF8
            obtain ⟨s8, o8⟩ := hI8
            have hRy : Rep y.1 y.2 (rdo M ⟨0, false, e, c⟩) := HR.out.step (x := t) huy hsy
            replace hRy := Lib.hid hRy
            clear huy hsy
            change wpList _ _ _ (List.cons _ _) _ _
            go_wp2_with (first
              | ((with_reducible refine gate_store (T := 31) ?_); refine wpList_storeAll rfl rfl rfl rfl (cs := (encT y).toArray) rfl o8.at_ rfl (by rw [size_Tree]; rfl) (by simp [encT, Value.oneCell']) ?_; intro W13 hu; replace s8 := s8.upd o8 hu; replace o8 := o8.upd hu; clear hu)
              | fail)
            replace hRy := hRy.out
            go_roundw
            case rel =>
              refine ⟨i + 1, K8, y, rdo M ⟨0, false, e, c⟩, by omega, by go_num, s8, o8, Lib.hid (HE.out.trans hE8), Lib.hid hTy, Lib.hid hRy, Lib.hid (HW.out.next He.out fun z => ?_)⟩
              have hB : rget B e = (c, true) := by rw [← hRb.out.look]; exact Hr.out
              rw [hB]
              exact rset_get HR.out.srt hin z
            case measure => simp [intOf]; omega
          | false =>
            go_wp2
            refine wp_region_run (m := 6) (n := 102) (I := fun K2 W => St K w K2 W ∧ Own w K2 W g11 (.cells (encT t).toArray 31 (0, 0))) (K0 := K7)
              (ws := [.is (.agg (encT t).toArray), .is (.slice (some ⟨bd, ofd, none⟩) (rdiff A B).length cd), .is (.int .i64 (i : Nat)), .is (.pointer (some ⟨bd, ofd + i, none⟩)), .is (.int .i64 e), .sat (ChgV 0 ⟨0, true, e, 0⟩ t)])
              mixed_ok (by kernel_rfl) rfl rfl ?monod16 ⟨s7.drew, o7.drew⟩ ?_
            case monod16 =>
              simp only [List.forall_mem_cons]
              exact ⟨trivial, trivial, trivial, trivial, trivial, fun _ _ _ hE h => h.ext hE, fun _ h => by cases h⟩
            apply RunAll.is_
            · intro K3 W3 hE3 hI3 hF3
              go_wp2_with (first | ((with_reducible refine gate_load (T := 31) ?_); refine wpList_loadAggW (vs := encT t) (off := 0) rfl rfl rfl Tryd.underlying31 rfl hI3.2.at_ (by rw [size_Tree]; rfl) (fun j u hu => by rw [Nat.zero_add]; simpa [encT] using hu) ?_) | fail)
              exact step_end ⟨⟨K3, Ext.refl _, hI3⟩, rfl⟩
            · rfl
            apply RunAll.is_
            · intro K3 W3 hE3 hI3 hF3
              go_wp2
              exact step_end ⟨⟨K3, Ext.refl _, hI3⟩, rfl⟩
            · rfl
            apply RunAll.is_
            · intro K3 W3 hE3 hI3 hF3
              go_wp2
              exact step_end ⟨⟨K3, Ext.refl _, hI3⟩, rfl⟩
            · rfl
            apply RunAll.is_
            · intro K3 W3 hE3 hI3 hF3
              go_wp2
              exact step_end ⟨⟨K3, Ext.refl _, hI3⟩, rfl⟩
            · rfl
            apply RunAll.is_
            · intro K3 W3 hE3 hI3 hF3
              go_wp2_with (first | ((with_reducible refine gate_load (T := 3) ?_); refine wpList_loadCell rfl rfl rfl Tryd.underlying3 rfl (hI3.1.inn.get (hE3 _ _ hkd)) (by have := Hjd.out 0 _ rfl; rwa [Nat.mul_one, Nat.add_zero] at this) ?_) | fail)
              exact step_end ⟨⟨K3, Ext.refl _, hI3⟩, rfl⟩
            · rfl
            apply RunAll.sat_
            · intro K3 W3 hE3 hI3 hF3
              go_wp2_with (first | (go_at_call 15; refine (Clear_ok K3 t.1 t.2 e _ hI3.1.inn (hT.ext hE3) (by omega) (by omega)).mono ?_; rintro e W4 ⟨v, K4', rfl, hi, hl, hb, hx4⟩) | fail)
              obtain ⟨t3, n3, hv3, ht3, hs3⟩ := hx4
              exact step_end ⟨v, K4', Ext.of_le hI3.1.inn hl, ⟨hI3.1.call hi hl hb, hI3.2.call hl hb⟩, rfl, (t3, n3), W3.heap.size, hv3, ht3, Nat.zero_le _, (hT.ext hE3).under hI3.1.inn, hs3⟩
            · intro v; rfl
            intro v5
            intro K8 W12 hE8 hI8 hF8
            obtain ⟨_, y, m, rfl, hTy, _, huy, hsy⟩ := hF8
            obtain ⟨s8, o8⟩ := hI8
            have hRy : Rep y.1 y.2 (rdo M ⟨0, true, e, 0⟩) := HR.out.step (x := t) huy hsy
            replace hRy := Lib.hid hRy
            clear huy hsy
            change wpList _ _ _ (List.cons _ _) _ _
            go_wp2_with (first
              | ((with_reducible refine gate_store (T := 31) ?_); refine wpList_storeAll rfl rfl rfl rfl (cs := (encT y).toArray) rfl o8.at_ rfl (by rw [size_Tree]; rfl) (by simp [encT, Value.oneCell']) ?_; intro W13 hu; replace s8 := s8.upd o8 hu; replace o8 := o8.upd hu; clear hu)
              | fail)
            replace hRy := hRy.out
            go_roundw
            case rel =>
              refine ⟨i + 1, K8, y, rdo M ⟨0, true, e, 0⟩, by omega, by go_num, s8, o8, Lib.hid (HE.out.trans hE8), Lib.hid hTy, Lib.hid hRy, Lib.hid (HW.out.next He.out fun z => ?_)⟩
              have hB : rget B e = (0, false) := rget_none (by rw [← hRb.out.look, Hr.out])
              rw [hB]
              exact rclr_get HR.out.srt z
            case measure => simp [intOf]; omega
        · obtain rfl : i = (rdiff A B).length := by omega
          obtain rfl : M = B := HW.out.done hRa.out.srt hRb.out.srt HR.out.srt
          obtain ⟨K7, hE7, s7, hk11⟩ := s.shut o11
          have hE57 := HE.out.trans hE7
          have hT := HT.out.ext hE7
          have hTa := HTa.out.ext hE57
          have hTb := HTb.out.ext hE57
          have hk8 := hE57 _ _ Hk8.out
          have hk9 := hE57 _ _ Hk9.out
          have hTab := HTab.out.ext hE57
          have hS7 := HSe.out.keep hE57
          have hba : (diffs 2 xb.1 xa.1 0).length ≤ 100000 := by have := diffs_le hRb.out hRa.out hTb hTa; omega
          have hsym := rdiff_symm hRa.out.srt hRb.out.srt
          have HD := Lib.hid (hRb.out.diffs hRa.out hTb hTa)
          obtain ⟨eq, heq⟩ : ∃ eq, (rdiff A M).isEmpty = eq := ⟨_, rfl⟩
          have hlen0 : ((((rdiff A M).length : Nat) : Int) == 0) = eq := by rw [← heq]; cases rdiff A M with | nil => rfl | cons x xs => simp; omega
          have hQ1 : ∀ (K8 : Fz) W, Ext K7 K8 → K8.In W → Calls Tryd.prog 22 #[.agg (encT t).toArray, .agg (encT xb).toArray] W fun e w' => e = .returned (.bool true) ∧ Below W.heap.size W w' := fun K8 W hE hW => by
            refine (Equal_ok t.1 xb.1 t.2 xb.2 K8 W hW (hT.ext hE) (hTb.ext hE) (hTab.ext hE) (by have := diffs_le HR.out hRb.out hT hTb; have := HR.out.len_le; omega)).mono ?_
            rintro e w' ⟨rfl, hb⟩
            rw [HR.out.equal hRb.out hT hTb, (rdiff_nil hRb.out.srt hRb.out.srt).2 rfl]
            exact ⟨rfl, hb⟩
          have hQ2 : ∀ (K8 : Fz) W, Ext K7 K8 → K8.In W → Calls Tryd.prog 22 #[.agg (encT xa).toArray, .agg (encT xb).toArray] W fun e w' => e = .returned (.bool eq) ∧ Below W.heap.size W w' := fun K8 W hE hW => by
            refine (Equal_ok xa.1 xb.1 xa.2 xb.2 K8 W hW (hTa.ext hE) (hTb.ext hE) (hTab.ext hE) hDl).mono ?_
            rintro e w' ⟨rfl, hb⟩
            rw [hRa.out.equal hRb.out hTa hTb, heq]
            exact ⟨rfl, hb⟩
          have Hsym := Lib.hid hsym
          have HQ1 := Lib.hid hQ1
          have HQ2 := Lib.hid hQ2
          have HS7 := Lib.hid hS7
          clear hsym heq hQ1 hQ2 hS7 s o11 HW
          cases eq
          all_goals
            go_wp2_with (first
              | ((with_reducible refine gate_load (T := 31) (x := .tmp 8) ?_); refine wpList_loadAggW (vs := encT xa) (off := 0) rfl rfl rfl Tryd.underlying31 rfl (s7.inn.get hk8) (by rw [size_Tree]; rfl) (fun j u hu => by rw [Nat.zero_add]; simpa [encT] using hu) ?_)
              | ((with_reducible refine gate_load (T := 31) (x := .tmp 9) ?_); refine wpList_loadAggW (vs := encT xb) (off := 0) rfl rfl rfl Tryd.underlying31 rfl (s7.inn.get hk9) (by rw [size_Tree]; rfl) (fun j u hu => by rw [Nat.zero_add]; simpa [encT] using hu) ?_)
              | ((with_reducible refine gate_load (T := 31) (x := .tmp 11) ?_); refine wpList_loadAggW (vs := encT t) (off := 0) rfl rfl rfl Tryd.underlying31 rfl (s7.inn.get hk11) (by rw [size_Tree]; rfl) (fun j u hu => by rw [Nat.zero_add]; simpa [encT] using hu) ?_)
              | (go_at_call 20; refine (Diff_ok xb.1 xa.1 xb.2 xa.2 K7 _ s7.inn hTb hTa hTab hba).mono ?_; rintro e W12 ⟨v9, K9, rfl, hi9, hl9, hb9, hSd, hE9⟩; replace s7 := s7.call hi9 hl9 hb9; have HSd : Hid (SlK K9 1 encZ v9 (rdiff A M)) := Lib.hid (Hsym.out ▸ (HD.out ▸ hSd.ofNat)); replace hk8 := hE9 _ _ hk8; replace hk9 := hE9 _ _ hk9; replace hk11 := hE9 _ _ hk11; clear hi9 hl9 hb9 hSd)
              | (go_at_call 19; refine (rSame_ok K9 _ _ (rdiff A M) (rdiff A M) _ s7.inn (HS7.out.keep hE9) HSd.out (by omega) (by omega)).mono ?_; rintro e W13 ⟨rfl, hb⟩; rw [decide_eq_true rfl]; replace s7 := s7.quiet hb; clear hb)
              | (go_at_call 22; with_reducible refine (HQ1.out K9 _ hE9 s7.inn).mono ?_; rintro e W14 ⟨rfl, hb⟩; replace s7 := s7.quiet hb; clear hb)
              | (go_at_call 22; with_reducible refine (HQ2.out K9 _ hE9 s7.inn).mono ?_; rintro e W15 ⟨rfl, hb⟩; replace s7 := s7.quiet hb; clear hb)
              | fail)
            go_ret
            exact ⟨rfl, s7.below⟩
    · have hB2 : decide ((60 : Int) < (os2.length : Nat)) = true := by simp; omega
      go_enter Tryd.func6, Tryd.ntmps6
      go_wp2_with (first
        | (go_at_call 9; refine (sanity_ok K _ s.inn ht).mono ?_; rintro e W1 ⟨rfl, hb⟩; replace s := s.quiet hb; clear hb)
        | fail)
      go_ret
      exact ⟨rfl, s.below⟩
  · have hB1 : decide ((60 : Int) < (os1.length : Nat)) = true := by simp; omega
    go_enter Tryd.func6, Tryd.ntmps6
    go_wp2_with (first
      | (go_at_call 9; refine (sanity_ok K _ s.inn ht).mono ?_; rintro e W1 ⟨rfl, hb⟩; replace s := s.quiet hb; clear hb)
      | fail)
    go_ret
    exact ⟨rfl, s.below⟩
end Go.Proofs.YtpfdlpniijgakaaDoor
