/- Content, Image, Volumes and Snaps. Written by gen_VolY.py. -/
import Derived.Test.YtdaagmhkhfcmdaaVolX
import Derived.Test.YtdaagmhkhfcmdaaVolV
namespace Go.Proofs.Ytdaagmhkhfcmdaa
open Go Go.RowKit
set_option maxHeartbeats 400000

/-- What Content and Image say: the mappings, or none and the error. -/
def contE (o : Option AP) : Ents × Int := match o with
  | some a => (a.L, 0)
  | none => ([], 12)
def Asp.content (A : Asp) (x : Int) : Ents × Int := contE (lk AP.id A.vs x)
def Asp.image (A : Asp) (x : Int) : Ents × Int := contE (lk AP.id A.ss x)
def ContR (r : Ents × Int) (K' : Fz) (u : Value) : Prop := ∃ v', u = .tuple #[v', .int .i64 r.2] ∧ SlK K' 2 encE v' r.1 ∧ FlatS v'

set_option maxRecDepth 100000 in
theorem Content_ok (K : Fz) (v : Value) (A : Asp) (x : Int) (w : World) (hK : K.In w) (hS : SpA K v A) (hG : Good A) :
    Calls Try.prog 18 #[v, .int .i64 x] w (Ret K w (ContR (A.content x))) := by
  obtain ⟨S, hSp, e1, e2, hR1, hR2⟩ := hS
  obtain rfl := Asp.eq_mk e1 e2
  clear e1 e2
  have hlen : S.vs.length ≤ 1000000 := by have := hG.v.len; simp only [List.length_map] at this; omega
  obtain ⟨g, T, sv, ss, rfl, hb, h1, h2, h3, h4, f1, f2⟩ := hSp
  have s := St.start hK
  have Hat := Lib.hid fun W (hW : K.In W) => vAt_ok K sv S.vs x W hW h1 hlen
  have hle := ixN_le Vol.id S.vs x
  have hix : ixN AP.id (S.vs.map Vol.abs) x = ixN Vol.id S.vs x := ixN_map _ _ _ _
  obtain ⟨n, hn⟩ : ∃ n, ixN Vol.id S.vs x = n := ⟨_, rfl⟩
  rw [hn] at hle hix
  obtain ⟨a, cap, rfl, hcap, hx⟩ := h1
  by_cases hlt : n < S.vs.length
  · have hv : Hid (ixV Vol.id S.vs x = (n : Int)) := Lib.hid (by rw [ixV, hn, if_pos hlt])
    obtain ⟨y, hyn⟩ : ∃ y, S.vs[n]? = some y := ⟨_, List.getElem?_eq_getElem hlt⟩
    have hres : Hid (Asp.content ⟨S.vs.map Vol.abs, S.ss.map Snp.abs⟩ x = (y.L, 0)) := Lib.hid (by
      show contE ((S.vs.map Vol.abs)[ixN AP.id (S.vs.map Vol.abs) x]?) = _
      rw [hix, List.getElem?_map, hyn]
      rfl)
    obtain ⟨b, off, cs, ty, fr, rfl, hkb, hj⟩ := hx n y hyn
    have Hj : Hid (∀ (j : Nat) (u : Value), [Value.pointer y.t.ptr, .int .i64 y.n][j]? = some u → cs[off + n * 4 + 2 + j]? = some u) := Lib.hid (by
      intro j u hu
      have := hj (j + 2) u (by
        rcases j with _ | _ | j
        · exact hu
        · exact hu
        · simp at hu)
      rw [← this]
      congr 1
      omega)
    have hTy := h3 _ (List.mem_of_getElem? hyn)
    have hRy := hR1 _ (List.mem_of_getElem? hyn)
    clear hj hyn hx h2 h3 h4 hn hix f1 f2 hR1 hR2
    go_enter Try.func18, Try.ntmps18
    go_wp2_with (first
      | ((with_reducible refine gate_load (T := 74) ?_); refine wpList_loadCell rfl rfl rfl Try.underlying74 rfl (s.inn.get hb) rfl ?_)
      | (go_at_call 42; refine (Hat.out _ s.inn).mono ?_; rw [hv.out]; rintro e W4 ⟨rfl, hb4⟩; replace s := s.quiet hb4; clear hb4)
      | ((with_reducible refine gate_load (T := 86) ?_); refine wpList_loadAgg (vs := [.pointer y.t.ptr, .int .i64 y.n]) (off := off + n * 4 + 2) rfl rfl rfl Try.underlying86 rfl (s.inn.get hkb) (by rw [size_Tree]; rfl) (fun j u hu => Hj.out j u hu) ?_)
      | (go_at_call 47; refine (mappings_ok y.t y.n y.L K _ s.inn hTy hRy).mono ?_; rintro e W5 ⟨u, K2, rfl, hi, hl, hb5, hS5, hF5⟩; replace s := s.call hi hl hb5; clear hi hl hb5)
      | fail)
    go_ret2
    rw [hres.out]
    exact s.ret ⟨u, rfl, hS5, hF5⟩
  · have hv : Hid (ixV Vol.id S.vs x = -1) := Lib.hid (by rw [ixV, hn, if_neg hlt])
    have hres : Hid (Asp.content ⟨S.vs.map Vol.abs, S.ss.map Snp.abs⟩ x = ([], 12)) := Lib.hid (by
      show contE ((S.vs.map Vol.abs)[ixN AP.id (S.vs.map Vol.abs) x]?) = _
      rw [hix, List.getElem?_eq_none (by rw [List.length_map]; omega)]
      rfl)
    clear hx h2 h3 h4 hn hix f1 f2 hR1 hR2
    go_enter Try.func18, Try.ntmps18
    go_wp2_with (first
      | ((with_reducible refine gate_load (T := 74) ?_); refine wpList_loadCell rfl rfl rfl Try.underlying74 rfl (s.inn.get hb) rfl ?_)
      | (go_at_call 42; refine (Hat.out _ s.inn).mono ?_; rw [hv.out]; rintro e W4 ⟨rfl, hb4⟩; replace s := s.quiet hb4; clear hb4)
      | fail)
    go_ret2
    rw [hres.out]
    exact s.ret ⟨_, rfl, SlK.nil _ _ _ _ _, FlatS.nil _ _⟩

set_option maxRecDepth 100000 in
theorem Image_ok (K : Fz) (v : Value) (A : Asp) (x : Int) (w : World) (hK : K.In w) (hS : SpA K v A) (hG : Good A) :
    Calls Try.prog 19 #[v, .int .i64 x] w (Ret K w (ContR (A.image x))) := by
  obtain ⟨S, hSp, e1, e2, hR1, hR2⟩ := hS
  obtain rfl := Asp.eq_mk e1 e2
  clear e1 e2
  have hlen : S.ss.length ≤ 1000000 := by have := hG.s.len; simp only [List.length_map] at this; omega
  obtain ⟨g, T, sv, ss, rfl, hb, h1, h2, h3, h4, f1, f2⟩ := hSp
  have s := St.start hK
  have Hat := Lib.hid fun W (hW : K.In W) => sAt_ok K ss S.ss x W hW h2 hlen
  have hle := ixN_le Snp.num S.ss x
  have hix : ixN AP.id (S.ss.map Snp.abs) x = ixN Snp.num S.ss x := ixN_map _ _ _ _
  obtain ⟨n, hn⟩ : ∃ n, ixN Snp.num S.ss x = n := ⟨_, rfl⟩
  rw [hn] at hle hix
  obtain ⟨a, cap, rfl, hcap, hx⟩ := h2
  by_cases hlt : n < S.ss.length
  · have hv : Hid (ixV Snp.num S.ss x = (n : Int)) := Lib.hid (by rw [ixV, hn, if_pos hlt])
    obtain ⟨y, hyn⟩ : ∃ y, S.ss[n]? = some y := ⟨_, List.getElem?_eq_getElem hlt⟩
    have hres : Hid (Asp.image ⟨S.vs.map Vol.abs, S.ss.map Snp.abs⟩ x = (y.L, 0)) := Lib.hid (by
      show contE ((S.ss.map Snp.abs)[ixN AP.id (S.ss.map Snp.abs) x]?) = _
      rw [hix, List.getElem?_map, hyn]
      rfl)
    obtain ⟨b, off, cs, ty, fr, rfl, hkb, hj⟩ := hx n y hyn
    have Hj : Hid (∀ (j : Nat) (u : Value), [Value.pointer y.t.ptr, .int .i64 y.n][j]? = some u → cs[off + n * 5 + 2 + j]? = some u) := Lib.hid (by
      intro j u hu
      have := hj (j + 2) u (by
        rcases j with _ | _ | j
        · exact hu
        · exact hu
        · simp at hu)
      rw [← this]
      congr 1
      omega)
    have hTy := h4 _ (List.mem_of_getElem? hyn)
    have hRy := hR2 _ (List.mem_of_getElem? hyn)
    clear hj hyn hx h1 h3 h4 hn hix f1 f2 hR1 hR2
    go_enter Try.func19, Try.ntmps19
    go_wp2_with (first
      | ((with_reducible refine gate_load (T := 75) ?_); refine wpList_loadCell rfl rfl rfl Try.underlying75 rfl (s.inn.get hb) rfl ?_)
      | (go_at_call 48; refine (Hat.out _ s.inn).mono ?_; rw [hv.out]; rintro e W4 ⟨rfl, hb4⟩; replace s := s.quiet hb4; clear hb4)
      | ((with_reducible refine gate_load (T := 86) ?_); refine wpList_loadAgg (vs := [.pointer y.t.ptr, .int .i64 y.n]) (off := off + n * 5 + 2) rfl rfl rfl Try.underlying86 rfl (s.inn.get hkb) (by rw [size_Tree]; rfl) (fun j u hu => Hj.out j u hu) ?_)
      | (go_at_call 47; refine (mappings_ok y.t y.n y.L K _ s.inn hTy hRy).mono ?_; rintro e W5 ⟨u, K2, rfl, hi, hl, hb5, hS5, hF5⟩; replace s := s.call hi hl hb5; clear hi hl hb5)
      | fail)
    go_ret2
    rw [hres.out]
    exact s.ret ⟨u, rfl, hS5, hF5⟩
  · have hv : Hid (ixV Snp.num S.ss x = -1) := Lib.hid (by rw [ixV, hn, if_neg hlt])
    have hres : Hid (Asp.image ⟨S.vs.map Vol.abs, S.ss.map Snp.abs⟩ x = ([], 12)) := Lib.hid (by
      show contE ((S.ss.map Snp.abs)[ixN AP.id (S.ss.map Snp.abs) x]?) = _
      rw [hix, List.getElem?_eq_none (by rw [List.length_map]; omega)]
      rfl)
    clear hx h1 h3 h4 hn hix f1 f2 hR1 hR2
    go_enter Try.func19, Try.ntmps19
    go_wp2_with (first
      | ((with_reducible refine gate_load (T := 75) ?_); refine wpList_loadCell rfl rfl rfl Try.underlying75 rfl (s.inn.get hb) rfl ?_)
      | (go_at_call 48; refine (Hat.out _ s.inn).mono ?_; rw [hv.out]; rintro e W4 ⟨rfl, hb4⟩; replace s := s.quiet hb4; clear hb4)
      | fail)
    go_ret2
    rw [hres.out]
    exact s.ret ⟨_, rfl, SlK.nil _ _ _ _ _, FlatS.nil _ _⟩

theorem two_of5 {a b c d f : Value} (j : Nat) (u : Value) (hu : [c, d][j]? = some u) : (#[a, b, c, d, f] : Array Value)[2 + j]? = some u := by
  match j, hu with
  | 0, hu => exact hu
  | 1, hu => exact hu
  | j + 2, hu => simp at hu
/-- A block is made and frozen; a box and a row stay. -/
theorem box_new {K0 K : Fz} {w W W5 : World} {g gn t e sz n : Nat} {o : Obj} {cs : Array Value} {v : Value} {xs : List Value} (s : St K0 w K W) (eg : gn = W.heap.size) (hn : New W (.cells cs t) W5) (ow : Own w K W g o) (r : Row w K W e sz v n xs) :
    ∃ K5, Ext K K5 ∧ St K0 w K5 W5 ∧ K5 gn = some (.cells cs t (0, 0)) ∧ Own w K5 W5 g o ∧ Row w K5 W5 e sz v n xs := by
  have o2 := Own.made s eg hn
  refine ⟨_, fun b o' hb => ?_, (s.new hn).freeze o2, Fz.add_self _ _ _, (ow.new hn).freeze (ow.ne eg), (r.new hn).freeze (r.ne eg)⟩
  rw [Fz.add_other _ _ (by rintro rfl; rw [o2.none_] at hb; cases hb)]; exact hb

/-- What Volumes says of a volume. -/
def encAV (y : Vol) : List Value := match y with
  | ⟨yi, yt, yp, yn, yL⟩ => [.int .i64 yi, .int .i64 yt, .int .i64 yn]
theorem encAV_len (y : Vol) : (encAV y).length = 3 := by cases y; rfl
theorem infoB_AVol : (Try.prog.info? 40).map (fun i => (i.zero, i.size, i.bytes)) = some (some (.agg #[.int .i64 0, .int .i64 0, .int .i64 0]), 3, 24) := by kernel_rfl
set_option maxRecDepth 100000 in
set_option maxHeartbeats 2000000 in
theorem Volumes_walk (K : Fz) (v : Value) (S : Spc) (w : World) (hK : K.In w) (hSp : SpK K v S) (hlen : S.vs.length ≤ 100000) :
    Calls Try.prog 15 #[v] w (Ret K w fun K' u => SlK K' 3 encAV u S.vs ∧ FlatS u) := by
  obtain ⟨g, T, sv, ss, rfl, hb, h1, h2, h3, h4, f1, f2⟩ := hSp
  have s := St.start hK
  obtain ⟨a, cap, rfl, hcap, hx⟩ := h1
  have Hx := Lib.hid hx
  clear hx h2 h3 h4 f1 f2
  go_enter Try.func15, Try.ntmps15
  go_wp2_with (first
    | ((with_reducible refine gate_load (T := 74) ?_); refine wpList_loadCell rfl rfl rfl Try.underlying74 rfl (s.inn.get hb) rfl ?_)
    | fail)
  go_loopw [2, 10] (fun u vi wr => ∃ (i : Nat) (K1 : Fz), i ≤ S.vs.length ∧ vi = .int .i64 i ∧ St K w K1 wr ∧ Row w K1 wr 40 3 u i ((S.vs.take i).flatMap encAV)) (fun _ vi _ => S.vs.length - (intOf vi).toNat)
  case atStart => exact ⟨0, K, by omega, rfl, s, Row.nil _ _ _ _ _⟩
  case round =>
    clear s
    obtain ⟨i, K1, hi, rfl, s, rw1⟩ := hrel
    obtain ⟨va, vn, vc, rfl⟩ := rw1.form
    by_cases hlt : i < S.vs.length
    · obtain ⟨y, hyn⟩ : ∃ y, S.vs[i]? = some y := ⟨_, List.getElem?_eq_getElem hlt⟩
      obtain ⟨yi, yt, yp, yn, yL⟩ := y
      obtain ⟨b, off, cs, ty, fr, rfl, hkb, hj⟩ := Hx.out i _ hyn
      have Hj : Hid (∀ (j : Nat) (u : Value), ([.int .i64 yi, .int .i64 yt, .pointer yp.ptr, .int .i64 yn] : List Value)[j]? = some u → cs[off + i * 4 + j]? = some u) := Lib.hid hj
      have Hyn := Lib.hid hyn
      replace hkb := (Ext.of_st hK s) _ _ hkb
      clear hj hyn
      go_wp2_with (first
        | ((with_reducible refine gate_load (T := 90) (x := .tmp 12) ?_); refine wpList_loadAgg (vs := [.int .i64 yi, .int .i64 yt, .pointer yp.ptr, .int .i64 yn]) (off := off + i * 4) rfl rfl rfl Try.underlying90 rfl (s.inn.get hkb) (by rw [size_Vol]; rfl) (fun j u hu => Hj.out j u hu) ?_)
        | ((with_reducible refine gate_alloc (T := 90) ?_); refine wpList_allocG rfl rfl zero_Vol (cs := #[.int .i64 0, .int .i64 0, .pointer none, .int .i64 0]) rfl ?_; intro g1 W1 e hn; have o1 := Own.made s e hn; replace s := s.new hn; have hne1 := rw1.ne e; replace rw1 := rw1.new hn; clear e hn)
        | ((with_reducible refine gate_store (T := 90) ?_); refine wpList_storeAll rfl rfl rfl rfl (cs := #[.int .i64 yi, .int .i64 yt, .pointer yp.ptr, .int .i64 yn]) rfl o1.at_ rfl (by rw [size_Vol]; rfl) (by simp [Value.oneCell']) ?_; intro W3 hu; replace s := s.upd o1 hu; replace rw1 := rw1.upd hu hne1; replace o1 := o1.upd hu; clear hu)
        | fail)
      refine wp_region_run (m := 13) (n := 30) (I := fun K2 W2 => (St K w K2 W2 ∧ Own w K2 W2 g1 (.cells #[.int .i64 yi, .int .i64 yt, .pointer yp.ptr, .int .i64 yn] 90 (0, 0))) ∧ Row w K2 W2 40 3 (.slice va vn vc) i ((S.vs.take i).flatMap encAV)) (K0 := K1)
        (ws := [.is (.slice va vn vc), .is (.pointer (some ⟨g1, 0, none⟩)), .is (.pointer (some ⟨g1, 0, none⟩)), .is (.int .i64 yi), .is (.pointer (some ⟨g1, 0, none⟩)), .is (.pointer (some ⟨g1, 1, none⟩)), .is (.int .i64 yt), .is (.pointer (some ⟨g1, 0, none⟩)), .is (.pointer (some ⟨g1, 2, none⟩)), .is (.agg #[.pointer yp.ptr, .int .i64 yn]), .is (.int .i64 yn), .is (.agg #[.int .i64 yi, .int .i64 yt, .int .i64 yn]), .sat (fun K v => ∃ gn, v = .slice (some ⟨gn, 0, none⟩) 1 1 ∧ K gn = some (.cells #[.int .i64 yi, .int .i64 yt, .int .i64 yn] 40 (0, 0)))])
        mixed_ok (by kernel_rfl) rfl rfl ?monoc ⟨⟨s.drew, o1.drew⟩, rw1.drew⟩ ?_
      case monoc =>
        simp only [List.forall_mem_cons]
        exact ⟨trivial, trivial, trivial, trivial, trivial, trivial, trivial, trivial, trivial, trivial, trivial, trivial, fun _ _ _ hE h => by obtain ⟨gn, h1, h2⟩ := h; exact ⟨gn, h1, hE _ _ h2⟩, fun _ h => by cases h⟩
      apply RunAll.is_
      · intro K3 W3 hE3 hI3 hF3
        go_wp2
        exact step_end ⟨⟨K3, Ext.refl _, hI3⟩, rfl⟩
      · rfl
      apply RunAll.is_
      · intro K3 W3 hE3 hI3 hF3
        go_wp2
        exact step_end ⟨⟨K3, Ext.refl _, hI3⟩, rfl⟩
      · rfl
      apply RunAll.is_
      · intro K3 W3 hE3 hI3 hF3
        go_wp2
        exact step_end ⟨⟨K3, Ext.refl _, hI3⟩, rfl⟩
      · rfl
      apply RunAll.is_
      · intro K3 W3 hE3 hI3 hF3
        go_wp2_with (first | ((with_reducible refine gate_load (T := 3) ?_); refine wpList_loadCell rfl rfl rfl Try.underlying3 rfl hI3.1.2.at_ rfl ?_) | fail)
        exact step_end ⟨⟨K3, Ext.refl _, hI3⟩, rfl⟩
      · rfl
      apply RunAll.is_
      · intro K3 W3 hE3 hI3 hF3
        go_wp2
        exact step_end ⟨⟨K3, Ext.refl _, hI3⟩, rfl⟩
      · rfl
      apply RunAll.is_
      · intro K3 W3 hE3 hI3 hF3
        go_wp2
        exact step_end ⟨⟨K3, Ext.refl _, hI3⟩, rfl⟩
      · rfl
      apply RunAll.is_
      · intro K3 W3 hE3 hI3 hF3
        go_wp2_with (first | ((with_reducible refine gate_load (T := 3) ?_); refine wpList_loadCell rfl rfl rfl Try.underlying3 rfl hI3.1.2.at_ rfl ?_) | fail)
        exact step_end ⟨⟨K3, Ext.refl _, hI3⟩, rfl⟩
      · rfl
      apply RunAll.is_
      · intro K3 W3 hE3 hI3 hF3
        go_wp2
        exact step_end ⟨⟨K3, Ext.refl _, hI3⟩, rfl⟩
      · rfl
      apply RunAll.is_
      · intro K3 W3 hE3 hI3 hF3
        go_wp2
        exact step_end ⟨⟨K3, Ext.refl _, hI3⟩, rfl⟩
      · rfl
      apply RunAll.is_
      · intro K3 W3 hE3 hI3 hF3
        go_wp2_with (first | ((with_reducible refine gate_load (T := 86) ?_); refine wpList_loadAgg (vs := [.pointer yp.ptr, .int .i64 yn]) (off := 2) rfl rfl rfl Try.underlying86 rfl hI3.1.2.at_ (by rw [size_Tree]; rfl) (fun j u hu => two_of4 j u hu) ?_) | fail)
        exact step_end ⟨⟨K3, Ext.refl _, hI3⟩, rfl⟩
      · rfl
      apply RunAll.is_
      · intro K3 W3 hE3 hI3 hF3
        go_wp2_with (first | (go_at_call 44; refine (len_ok _ _ _).mono ?_; rintro e W4 ⟨rfl, hb4⟩) | fail)
        exact step_end ⟨⟨K3, Ext.refl _, ⟨hI3.1.1.quiet hb4, hI3.1.2.quiet hb4⟩, hI3.2.quiet hb4⟩, rfl⟩
      · rfl
      apply RunAll.is_
      · intro K3 W3 hE3 hI3 hF3
        go_wp2
        exact step_end ⟨⟨K3, Ext.refl _, hI3⟩, rfl⟩
      · rfl
      apply RunAll.sat_
      · intro K3 W3 hE3 hI3 hF3
        go_wp2_with (first | ((with_reducible refine gate_buildSlice (T := 37) ?_); refine wpList_buildSlice1 rfl rfl rfl (cs := #[.int .i64 yi, .int .i64 yt, .int .i64 yn]) Try.underlying37 infoB_AVol (by decide) (by decide) (by kernel_rfl) ?_; intro gn W5 eg hn; obtain ⟨K5, hE5, s5, hk5, o5, r5⟩ := box_new hI3.1.1 eg hn hI3.1.2 hI3.2; clear eg hn) | fail)
        generalize hgv : Value.slice (some ⟨gn, 0, none⟩) 1 1 = v10
        exact step_end ⟨v10, K5, hE5, ⟨⟨s5, o5⟩, r5⟩, rfl, gn, hgv.symm, hk5⟩
      · intro v; rfl
      intro v12
      intro K5 W5 hE5 hI5 hF5
      obtain ⟨gn, rfl, hk5⟩ := hF5.2
      have s5 := hI5.1.1
      have rw5 := hI5.2
      have hnew := s5.inn.get hk5
      change wpList _ _ _ (List.cons _ _) _ _
      go_wp2_with (first
        | ((with_reducible refine gate_append ?_); refine wpList_appendRow rfl rfl Try.underlying37 infoB_AVol rfl (by decide) rfl s5 rw5 rfl (news := [.int .i64 yi, .int .i64 yt, .int .i64 yn]) rfl (by simp) (cells_here hnew) (by simp [Value.oneCell']) (by omega) (by decide) ?_; intro v2 W6 r2 gr; replace s5 := s5.grown rw5 gr; clear gr rw5 hnew)
        | fail)
      go_roundw
      case rel =>
        refine ⟨i + 1, K5, by omega, by go_num, s5, ?_⟩
        rw [List.take_add_one, Hyn.out, List.flatMap_append]
        exact r2
      case measure => simp [intOf]; omega
    · obtain rfl : i = S.vs.length := by omega
      go_wp2
      go_ret
      have hfl := rw1.flatS
      rw [List.take_length] at rw1
      obtain ⟨K3, s3, hE3, hS3, _⟩ := Row.fix s rw1 encAV_len rfl rfl
      exact s3.ret ⟨hS3, hfl⟩

/-- What Snaps says of a snapshot. -/
def encAS (y : Snp) : List Value := match y with
  | ⟨⟨yi, yt, yp, yn, yL⟩, yf⟩ => [.int .i64 yi, .int .i64 yf, .int .i64 yt, .int .i64 yn]
theorem encAS_len (y : Snp) : (encAS y).length = 4 := by cases y; rfl
theorem infoB_ASnp : (Try.prog.info? 44).map (fun i => (i.zero, i.size, i.bytes)) = some (some (.agg #[.int .i64 0, .int .i64 0, .int .i64 0, .int .i64 0]), 4, 32) := by kernel_rfl
set_option maxRecDepth 100000 in
set_option maxHeartbeats 2000000 in
theorem Snaps_walk (K : Fz) (v : Value) (S : Spc) (w : World) (hK : K.In w) (hSp : SpK K v S) (hlen : S.ss.length ≤ 100000) :
    Calls Try.prog 16 #[v] w (Ret K w fun K' u => SlK K' 4 encAS u S.ss ∧ FlatS u) := by
  obtain ⟨g, T, sv, ss, rfl, hb, h1, h2, h3, h4, f1, f2⟩ := hSp
  have s := St.start hK
  obtain ⟨a, cap, rfl, hcap, hx⟩ := h2
  have Hx := Lib.hid hx
  clear hx h1 h3 h4 f1 f2
  go_enter Try.func16, Try.ntmps16
  go_wp2_with (first
    | ((with_reducible refine gate_load (T := 75) ?_); refine wpList_loadCell rfl rfl rfl Try.underlying75 rfl (s.inn.get hb) rfl ?_)
    | fail)
  go_loopw [2, 10] (fun u vi wr => ∃ (i : Nat) (K1 : Fz), i ≤ S.ss.length ∧ vi = .int .i64 i ∧ St K w K1 wr ∧ Row w K1 wr 44 4 u i ((S.ss.take i).flatMap encAS)) (fun _ vi _ => S.ss.length - (intOf vi).toNat)
  case atStart => exact ⟨0, K, by omega, rfl, s, Row.nil _ _ _ _ _⟩
  case round =>
    clear s
    obtain ⟨i, K1, hi, rfl, s, rw1⟩ := hrel
    obtain ⟨va, vn, vc, rfl⟩ := rw1.form
    by_cases hlt : i < S.ss.length
    · obtain ⟨y, hyn⟩ : ∃ y, S.ss[i]? = some y := ⟨_, List.getElem?_eq_getElem hlt⟩
      obtain ⟨⟨yi, yt, yp, yn, yL⟩, yf⟩ := y
      obtain ⟨b, off, cs, ty, fr, rfl, hkb, hj⟩ := Hx.out i _ hyn
      have Hj : Hid (∀ (j : Nat) (u : Value), ([.int .i64 yi, .int .i64 yt, .pointer yp.ptr, .int .i64 yn, .int .i64 yf] : List Value)[j]? = some u → cs[off + i * 5 + j]? = some u) := Lib.hid hj
      have Hyn := Lib.hid hyn
      replace hkb := (Ext.of_st hK s) _ _ hkb
      clear hj hyn
      go_wp2_with (first
        | ((with_reducible refine gate_load (T := 98) (x := .tmp 12) ?_); refine wpList_loadAgg (vs := [.int .i64 yi, .int .i64 yt, .pointer yp.ptr, .int .i64 yn, .int .i64 yf]) (off := off + i * 5) rfl rfl rfl Try.underlying98 rfl (s.inn.get hkb) (by rw [size_Snp]; rfl) (fun j u hu => Hj.out j u hu) ?_)
        | ((with_reducible refine gate_alloc (T := 98) ?_); refine wpList_allocG rfl rfl zero_Snp (cs := #[.int .i64 0, .int .i64 0, .pointer none, .int .i64 0, .int .i64 0]) rfl ?_; intro g1 W1 e hn; have o1 := Own.made s e hn; replace s := s.new hn; have hne1 := rw1.ne e; replace rw1 := rw1.new hn; clear e hn)
        | ((with_reducible refine gate_store (T := 98) ?_); refine wpList_storeAll rfl rfl rfl rfl (cs := #[.int .i64 yi, .int .i64 yt, .pointer yp.ptr, .int .i64 yn, .int .i64 yf]) rfl o1.at_ rfl (by rw [size_Snp]; rfl) (by simp [Value.oneCell']) ?_; intro W3 hu; replace s := s.upd o1 hu; replace rw1 := rw1.upd hu hne1; replace o1 := o1.upd hu; clear hu)
        | fail)
      refine wp_region_run (m := 15) (n := 32) (I := fun K2 W2 => (St K w K2 W2 ∧ Own w K2 W2 g1 (.cells #[.int .i64 yi, .int .i64 yt, .pointer yp.ptr, .int .i64 yn, .int .i64 yf] 98 (0, 0))) ∧ Row w K2 W2 44 4 (.slice va vn vc) i ((S.ss.take i).flatMap encAS)) (K0 := K1)
        (ws := [.is (.slice va vn vc), .is (.pointer (some ⟨g1, 0, none⟩)), .is (.pointer (some ⟨g1, 0, none⟩)), .is (.int .i64 yi), .is (.pointer (some ⟨g1, 4, none⟩)), .is (.int .i64 yf), .is (.pointer (some ⟨g1, 0, none⟩)), .is (.pointer (some ⟨g1, 1, none⟩)), .is (.int .i64 yt), .is (.pointer (some ⟨g1, 0, none⟩)), .is (.pointer (some ⟨g1, 2, none⟩)), .is (.agg #[.pointer yp.ptr, .int .i64 yn]), .is (.int .i64 yn), .is (.agg #[.int .i64 yi, .int .i64 yf, .int .i64 yt, .int .i64 yn]), .sat (fun K v => ∃ gn, v = .slice (some ⟨gn, 0, none⟩) 1 1 ∧ K gn = some (.cells #[.int .i64 yi, .int .i64 yf, .int .i64 yt, .int .i64 yn] 44 (0, 0)))])
        mixed_ok (by kernel_rfl) rfl rfl ?monoc ⟨⟨s.drew, o1.drew⟩, rw1.drew⟩ ?_
      case monoc =>
        simp only [List.forall_mem_cons]
        exact ⟨trivial, trivial, trivial, trivial, trivial, trivial, trivial, trivial, trivial, trivial, trivial, trivial, trivial, trivial, fun _ _ _ hE h => by obtain ⟨gn, h1, h2⟩ := h; exact ⟨gn, h1, hE _ _ h2⟩, fun _ h => by cases h⟩
      apply RunAll.is_
      · intro K3 W3 hE3 hI3 hF3
        go_wp2
        exact step_end ⟨⟨K3, Ext.refl _, hI3⟩, rfl⟩
      · rfl
      apply RunAll.is_
      · intro K3 W3 hE3 hI3 hF3
        go_wp2
        exact step_end ⟨⟨K3, Ext.refl _, hI3⟩, rfl⟩
      · rfl
      apply RunAll.is_
      · intro K3 W3 hE3 hI3 hF3
        go_wp2
        exact step_end ⟨⟨K3, Ext.refl _, hI3⟩, rfl⟩
      · rfl
      apply RunAll.is_
      · intro K3 W3 hE3 hI3 hF3
        go_wp2_with (first | ((with_reducible refine gate_load (T := 3) ?_); refine wpList_loadCell rfl rfl rfl Try.underlying3 rfl hI3.1.2.at_ rfl ?_) | fail)
        exact step_end ⟨⟨K3, Ext.refl _, hI3⟩, rfl⟩
      · rfl
      apply RunAll.is_
      · intro K3 W3 hE3 hI3 hF3
        go_wp2
        exact step_end ⟨⟨K3, Ext.refl _, hI3⟩, rfl⟩
      · rfl
      apply RunAll.is_
      · intro K3 W3 hE3 hI3 hF3
        go_wp2_with (first | ((with_reducible refine gate_load (T := 3) ?_); refine wpList_loadCell rfl rfl rfl Try.underlying3 rfl hI3.1.2.at_ rfl ?_) | fail)
        exact step_end ⟨⟨K3, Ext.refl _, hI3⟩, rfl⟩
      · rfl
      apply RunAll.is_
      · intro K3 W3 hE3 hI3 hF3
        go_wp2
        exact step_end ⟨⟨K3, Ext.refl _, hI3⟩, rfl⟩
      · rfl
      apply RunAll.is_
      · intro K3 W3 hE3 hI3 hF3
        go_wp2
        exact step_end ⟨⟨K3, Ext.refl _, hI3⟩, rfl⟩
      · rfl
      apply RunAll.is_
      · intro K3 W3 hE3 hI3 hF3
        go_wp2_with (first | ((with_reducible refine gate_load (T := 3) ?_); refine wpList_loadCell rfl rfl rfl Try.underlying3 rfl hI3.1.2.at_ rfl ?_) | fail)
        exact step_end ⟨⟨K3, Ext.refl _, hI3⟩, rfl⟩
      · rfl
      apply RunAll.is_
      · intro K3 W3 hE3 hI3 hF3
        go_wp2
        exact step_end ⟨⟨K3, Ext.refl _, hI3⟩, rfl⟩
      · rfl
      apply RunAll.is_
      · intro K3 W3 hE3 hI3 hF3
        go_wp2
        exact step_end ⟨⟨K3, Ext.refl _, hI3⟩, rfl⟩
      · rfl
      apply RunAll.is_
      · intro K3 W3 hE3 hI3 hF3
        go_wp2_with (first | ((with_reducible refine gate_load (T := 86) ?_); refine wpList_loadAgg (vs := [.pointer yp.ptr, .int .i64 yn]) (off := 2) rfl rfl rfl Try.underlying86 rfl hI3.1.2.at_ (by rw [size_Tree]; rfl) (fun j u hu => two_of5 j u hu) ?_) | fail)
        exact step_end ⟨⟨K3, Ext.refl _, hI3⟩, rfl⟩
      · rfl
      apply RunAll.is_
      · intro K3 W3 hE3 hI3 hF3
        go_wp2_with (first | (go_at_call 44; refine (len_ok _ _ _).mono ?_; rintro e W4 ⟨rfl, hb4⟩) | fail)
        exact step_end ⟨⟨K3, Ext.refl _, ⟨hI3.1.1.quiet hb4, hI3.1.2.quiet hb4⟩, hI3.2.quiet hb4⟩, rfl⟩
      · rfl
      apply RunAll.is_
      · intro K3 W3 hE3 hI3 hF3
        go_wp2
        exact step_end ⟨⟨K3, Ext.refl _, hI3⟩, rfl⟩
      · rfl
      apply RunAll.sat_
      · intro K3 W3 hE3 hI3 hF3
        go_wp2_with (first | ((with_reducible refine gate_buildSlice (T := 41) ?_); refine wpList_buildSlice1 rfl rfl rfl (cs := #[.int .i64 yi, .int .i64 yf, .int .i64 yt, .int .i64 yn]) Try.underlying41 infoB_ASnp (by decide) (by decide) (by kernel_rfl) ?_; intro gn W5 eg hn; obtain ⟨K5, hE5, s5, hk5, o5, r5⟩ := box_new hI3.1.1 eg hn hI3.1.2 hI3.2; clear eg hn) | fail)
        generalize hgv : Value.slice (some ⟨gn, 0, none⟩) 1 1 = v10
        exact step_end ⟨v10, K5, hE5, ⟨⟨s5, o5⟩, r5⟩, rfl, gn, hgv.symm, hk5⟩
      · intro v; rfl
      intro v14
      intro K5 W5 hE5 hI5 hF5
      obtain ⟨gn, rfl, hk5⟩ := hF5.2
      have s5 := hI5.1.1
      have rw5 := hI5.2
      have hnew := s5.inn.get hk5
      change wpList _ _ _ (List.cons _ _) _ _
      go_wp2_with (first
        | ((with_reducible refine gate_append ?_); refine wpList_appendRow rfl rfl Try.underlying41 infoB_ASnp rfl (by decide) rfl s5 rw5 rfl (news := [.int .i64 yi, .int .i64 yf, .int .i64 yt, .int .i64 yn]) rfl (by simp) (cells_here hnew) (by simp [Value.oneCell']) (by omega) (by decide) ?_; intro v2 W6 r2 gr; replace s5 := s5.grown rw5 gr; clear gr rw5 hnew)
        | fail)
      go_roundw
      case rel =>
        refine ⟨i + 1, K5, by omega, by go_num, s5, ?_⟩
        rw [List.take_add_one, Hyn.out, List.flatMap_append]
        exact r2
      case measure => simp [intOf]; omega
    · obtain rfl : i = S.ss.length := by omega
      go_wp2
      go_ret
      have hfl := rw1.flatS
      rw [List.take_length] at rw1
      obtain ⟨K3, s3, hE3, hS3, _⟩ := Row.fix s rw1 encAS_len rfl rfl
      exact s3.ret ⟨hS3, hfl⟩
end Go.Proofs.Ytdaagmhkhfcmdaa
