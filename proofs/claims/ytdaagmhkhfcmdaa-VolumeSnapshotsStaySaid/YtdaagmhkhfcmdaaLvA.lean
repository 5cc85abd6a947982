/- maps, refs and tenant of the law package. Written by gen_LvA.py. -/
import Derived.Test.YtdaagmhkhfcmdaaVolRf
import Derived.Laws.StructEq
namespace Go.Proofs.Ytdaagmhkhfcmdaa
open Go Go.RowKit
set_option maxHeartbeats 400000

theorem neq_Mapping (x0 x1 y0 y1 : Int) (w : World) : Sem.run Try.prog (binOp .neq 107 (.agg #[.int .i64 x0, .int .i64 x1]) (.agg #[.int .i64 y0, .int .i64 y1])) w = .ok (.bool (!(x0 == y0 && x1 == y1))) w := by
  have u3 := Try.underlying3
  have a3 := Try.isAgg3
  have z3 := Try.sizeOf3
  have hS : Try.prog.underlying 107 = some (.struct (Try.prog.fieldsOf 107)) := by kernel_rfl
  have hp : Try.prog.stoodInHeld 107 = false := by kernel_rfl
  rw [run_neq_struct, show (10000 : Nat) = 9999 + 1 from rfl, run_equalIn_agg w 9999 107 _ _ hS hp]
  simp only [Program.fieldsOf, Try.underlying107]
  go_simp
  by_cases h0 : x0 = y0 <;> by_cases h1 : x1 = y1 <;> simp [h0, h1]
theorem guard_Mapping : Try.prog.eqGuardType Try.prog.depth 107 = false := by kernel_rfl
theorem size_Mapping : (Try.prog.info? 107).map (·.size) = some 2 := by kernel_rfl

theorem neq_ARef (x0 x1 y0 y1 : Int) (w : World) : Sem.run Try.prog (binOp .neq 48 (.agg #[.int .i64 x0, .int .i64 x1]) (.agg #[.int .i64 y0, .int .i64 y1])) w = .ok (.bool (!(x0 == y0 && x1 == y1))) w := by
  have u3 := Try.underlying3
  have a3 := Try.isAgg3
  have z3 := Try.sizeOf3
  have hS : Try.prog.underlying 48 = some (.struct (Try.prog.fieldsOf 48)) := by kernel_rfl
  have hp : Try.prog.stoodInHeld 48 = false := by kernel_rfl
  rw [run_neq_struct, show (10000 : Nat) = 9999 + 1 from rfl, run_equalIn_agg w 9999 48 _ _ hS hp]
  simp only [Program.fieldsOf, Try.underlying48]
  go_simp
  by_cases h0 : x0 = y0 <;> by_cases h1 : x1 = y1 <;> simp [h0, h1]
theorem guard_ARef : Try.prog.eqGuardType Try.prog.depth 48 = false := by kernel_rfl
theorem size_ARef : (Try.prog.info? 48).map (·.size) = some 2 := by kernel_rfl

set_option maxRecDepth 100000 in
set_option maxHeartbeats 2000000 in
theorem maps_ok (K : Fz) (sa sb : Value) (A B : Ents) (w : World) (hK : K.In w) (hSa : SlK K 2 encE sa A) (hSb : SlK K 2 encE sb B) (hA : A.length ≤ 2000000) :
    Calls Try.prog 20 #[sa, sb] w fun e w' => e = .returned (.bool (decide (A = B))) ∧ Below w.heap.size w w' := by
  obtain ⟨a, capa, rfl, _, hx⟩ := hSa
  obtain ⟨b, capb, rfl, _, hy⟩ := hSb
  have s := St.start hK
  have Hx := Lib.hid hx
  have Hy := Lib.hid hy
  clear hx hy
  by_cases hl : A.length = B.length
  · have hlb : (((A.length : Nat) : Int) == ((B.length : Nat) : Int)) = true := by simp [hl]
    have hlb2 : (((A.length : Nat) : Int) != ((B.length : Nat) : Int)) = false := by simp [hl]
    have Hl := Lib.hid hl
    clear hl
    go_enter Try.func20, Try.ntmps20
    go_wp2
    go_loopw [5] (fun vi wr => ∃ (i : Nat) (K1 : Fz), i ≤ A.length ∧ vi = .int .i64 i ∧ St K w K1 wr ∧ Ext K K1 ∧ Hid (A.take i = B.take i)) (fun vi _ => A.length - (intOf vi).toNat)
    case atStart => exact ⟨0, K, by omega, rfl, s, Ext.refl _, Lib.hid (by simp)⟩
    case round =>
      clear s
      obtain ⟨i, K1, hi, rfl, s, hE1, ht⟩ := hrel
      by_cases hlt : i < A.length
      · obtain ⟨x, hxn⟩ : ∃ x, A[i]? = some x := ⟨_, List.getElem?_eq_getElem hlt⟩
        obtain ⟨y, hyn⟩ : ∃ y, B[i]? = some y := ⟨_, List.getElem?_eq_getElem (by have := Hl.out; omega)⟩
        have hltB : i < B.length := by have := Hl.out; omega
        obtain ⟨ba, oa, csa, tya, fra, rfl, hka, hja⟩ := Hx.out i x hxn
        obtain ⟨bb, ob, csb, tyb, frb, rfl, hkb, hjb⟩ := Hy.out i y hyn
        obtain ⟨x1, x2⟩ := x
        obtain ⟨y1, y2⟩ := y
        have Ha : Hid (∀ (j : Nat) (u : Value), [Value.int .i64 x1, .int .i64 x2][j]? = some u → csa[oa + i * 2 + j]? = some u) := Lib.hid hja
        have Hb : Hid (∀ (j : Nat) (u : Value), [Value.int .i64 y1, .int .i64 y2][j]? = some u → csb[ob + i * 2 + j]? = some u) := Lib.hid hjb
        replace hka := hE1 _ _ hka
        replace hkb := hE1 _ _ hkb
        have Hxn := Lib.hid hxn
        have Hyn := Lib.hid hyn
        obtain ⟨q, hq⟩ : ∃ q, (!(x1 == y1 && x2 == y2)) = q := ⟨_, rfl⟩
        have hcmp := neq_Mapping x1 x2 y1 y2
        have hgd := guard_Mapping
        rw [hq] at hcmp
        have Hq := Lib.hid hq
        clear hja hjb hxn hyn hq
        go_wp2
        refine wp_region_run (m := 8) (n := 26) (I := fun K2 W => St K w K2 W) (K0 := K1)
          (ws := [.is (.slice (some ⟨ba, oa, none⟩) A.length capa), .is (.int .i64 (i : Nat)), .is (.pointer (some ⟨ba, oa + i * 2, none⟩)), .is (.agg #[.int .i64 x1, .int .i64 x2]), .is (.slice (some ⟨bb, ob, none⟩) B.length capb), .is (.int .i64 (i : Nat)), .is (.pointer (some ⟨bb, ob + i * 2, none⟩)), .is (.agg #[.int .i64 y1, .int .i64 y2])])
          mixed_ok (by kernel_rfl) rfl rfl ?monoq s.drew ?_
        case monoq =>
          simp only [List.forall_mem_cons]
          exact ⟨trivial, trivial, trivial, trivial, trivial, trivial, trivial, trivial, fun _ h => by cases h⟩
        apply RunAll.is_
        · intro K3 W3 hE3 hI3 hF3
          go_wp2
          exact step_end ⟨⟨K3, Ext.refl _, hI3⟩, rfl⟩
        · rfl
        apply RunAll.is_
        · intro K3 W3 hE3 hI3 hF3
          go_wp2
          exact step_end ⟨⟨K3, Ext.refl _, hI3⟩, rfl⟩
        · rfl
        apply RunAll.is_
        · intro K3 W3 hE3 hI3 hF3
          go_wp2
          exact step_end ⟨⟨K3, Ext.refl _, hI3⟩, rfl⟩
        · rfl
        apply RunAll.is_
        · intro K3 W3 hE3 hI3 hF3
          go_wp2_with (first | ((with_reducible refine gate_load (T := 107) ?_); refine wpList_loadAgg (vs := [.int .i64 x1, .int .i64 x2]) (off := oa + i * 2) rfl rfl rfl Try.underlying107 rfl (hI3.inn.get (hE3 _ _ hka)) (by rw [size_Mapping]; rfl) (fun j u hu => Ha.out j u hu) ?_) | fail)
          exact step_end ⟨⟨K3, Ext.refl _, hI3⟩, rfl⟩
        · rfl
        apply RunAll.is_
        · intro K3 W3 hE3 hI3 hF3
          go_wp2
          exact step_end ⟨⟨K3, Ext.refl _, hI3⟩, rfl⟩
        · rfl
        apply RunAll.is_
        · intro K3 W3 hE3 hI3 hF3
          go_wp2
          exact step_end ⟨⟨K3, Ext.refl _, hI3⟩, rfl⟩
        · rfl
        apply RunAll.is_
        · intro K3 W3 hE3 hI3 hF3
          go_wp2
          exact step_end ⟨⟨K3, Ext.refl _, hI3⟩, rfl⟩
        · rfl
        apply RunAll.is_
        · intro K3 W3 hE3 hI3 hF3
          go_wp2_with (first | ((with_reducible refine gate_load (T := 107) ?_); refine wpList_loadAgg (vs := [.int .i64 y1, .int .i64 y2]) (off := ob + i * 2) rfl rfl rfl Try.underlying107 rfl (hI3.inn.get (hE3 _ _ hkb)) (by rw [size_Mapping]; rfl) (fun j u hu => Hb.out j u hu) ?_) | fail)
          exact step_end ⟨⟨K3, Ext.refl _, hI3⟩, rfl⟩
        · rfl
        intro K5 W5 hE5 hI5 hF5
        change wpList _ _ _ (List.cons _ _) _ _
        cases q with
        | false =>
          go_wp2
          go_roundw
          case rel =>
            refine ⟨i + 1, K5, by omega, by go_num, hI5, hE1.trans hE5, Lib.hid ?_⟩
            have hxy : (x1, x2) = (y1, y2) := by have := Hq.out; simp at this; simp [this]
            rw [List.take_add_one, List.take_add_one, ht.out, Hxn.out, Hyn.out, hxy]
          case measure => simp [intOf]; omega
        | true =>
          go_wp2
          go_ret
          have hne : A ≠ B := by
            rintro rfl
            have h := Hxn.out.symm.trans Hyn.out
            have h2 := Option.some.inj h
            have h3 := Hq.out
            simp only [Prod.mk.injEq] at h2
            simp [h2] at h3
          exact ⟨by rw [decide_eq_false hne]; rfl, hI5.below⟩
      · obtain rfl : i = A.length := by omega
        go_wp2
        go_ret
        have he : A = B := by
          have h := ht.out
          rw [List.take_length, Hl.out, List.take_length] at h
          exact h
        exact ⟨by rw [decide_eq_true he]; rfl, s.below⟩
  · have hlb : (((A.length : Nat) : Int) == ((B.length : Nat) : Int)) = false := by simp; omega
    have hlb2 : (((A.length : Nat) : Int) != ((B.length : Nat) : Int)) = true := by simp; omega
    go_enter Try.func20, Try.ntmps20
    go_wp2
    go_ret
    have hne : A ≠ B := by rintro rfl; exact hl rfl
    exact ⟨by rw [decide_eq_false hne]; rfl, s.below⟩

set_option maxRecDepth 100000 in
set_option maxHeartbeats 2000000 in
theorem refs_ok (K : Fz) (sa sb : Value) (A B : Ents) (w : World) (hK : K.In w) (hSa : SlK K 2 encE sa A) (hSb : SlK K 2 encE sb B) (hA : A.length ≤ 2000000) :
    Calls Try.prog 28 #[sa, sb] w fun e w' => e = .returned (.bool (decide (A = B))) ∧ Below w.heap.size w w' := by
  obtain ⟨a, capa, rfl, _, hx⟩ := hSa
  obtain ⟨b, capb, rfl, _, hy⟩ := hSb
  have s := St.start hK
  have Hx := Lib.hid hx
  have Hy := Lib.hid hy
  clear hx hy
  by_cases hl : A.length = B.length
  · have hlb : (((A.length : Nat) : Int) == ((B.length : Nat) : Int)) = true := by simp [hl]
    have hlb2 : (((A.length : Nat) : Int) != ((B.length : Nat) : Int)) = false := by simp [hl]
    have Hl := Lib.hid hl
    clear hl
    go_enter Try.func28, Try.ntmps28
    go_wp2
    go_loopw [5] (fun vi wr => ∃ (i : Nat) (K1 : Fz), i ≤ A.length ∧ vi = .int .i64 i ∧ St K w K1 wr ∧ Ext K K1 ∧ Hid (A.take i = B.take i)) (fun vi _ => A.length - (intOf vi).toNat)
    case atStart => exact ⟨0, K, by omega, rfl, s, Ext.refl _, Lib.hid (by simp)⟩
    case round =>
      clear s
      obtain ⟨i, K1, hi, rfl, s, hE1, ht⟩ := hrel
      by_cases hlt : i < A.length
      · obtain ⟨x, hxn⟩ : ∃ x, A[i]? = some x := ⟨_, List.getElem?_eq_getElem hlt⟩
        obtain ⟨y, hyn⟩ : ∃ y, B[i]? = some y := ⟨_, List.getElem?_eq_getElem (by have := Hl.out; omega)⟩
        have hltB : i < B.length := by have := Hl.out; omega
        obtain ⟨ba, oa, csa, tya, fra, rfl, hka, hja⟩ := Hx.out i x hxn
        obtain ⟨bb, ob, csb, tyb, frb, rfl, hkb, hjb⟩ := Hy.out i y hyn
        obtain ⟨x1, x2⟩ := x
        obtain ⟨y1, y2⟩ := y
        have Ha : Hid (∀ (j : Nat) (u : Value), [Value.int .i64 x1, .int .i64 x2][j]? = some u → csa[oa + i * 2 + j]? = some u) := Lib.hid hja
        have Hb : Hid (∀ (j : Nat) (u : Value), [Value.int .i64 y1, .int .i64 y2][j]? = some u → csb[ob + i * 2 + j]? = some u) := Lib.hid hjb
        replace hka := hE1 _ _ hka
        replace hkb := hE1 _ _ hkb
        have Hxn := Lib.hid hxn
        have Hyn := Lib.hid hyn
        obtain ⟨q, hq⟩ : ∃ q, (!(x1 == y1 && x2 == y2)) = q := ⟨_, rfl⟩
        have hcmp := neq_ARef x1 x2 y1 y2
        have hgd := guard_ARef
        rw [hq] at hcmp
        have Hq := Lib.hid hq
        clear hja hjb hxn hyn hq
        go_wp2
        refine wp_region_run (m := 8) (n := 26) (I := fun K2 W => St K w K2 W) (K0 := K1)
          (ws := [.is (.slice (some ⟨ba, oa, none⟩) A.length capa), .is (.int .i64 (i : Nat)), .is (.pointer (some ⟨ba, oa + i * 2, none⟩)), .is (.agg #[.int .i64 x1, .int .i64 x2]), .is (.slice (some ⟨bb, ob, none⟩) B.length capb), .is (.int .i64 (i : Nat)), .is (.pointer (some ⟨bb, ob + i * 2, none⟩)), .is (.agg #[.int .i64 y1, .int .i64 y2])])
          mixed_ok (by kernel_rfl) rfl rfl ?monoq s.drew ?_
        case monoq =>
          simp only [List.forall_mem_cons]
          exact ⟨trivial, trivial, trivial, trivial, trivial, trivial, trivial, trivial, fun _ h => by cases h⟩
        apply RunAll.is_
        · intro K3 W3 hE3 hI3 hF3
          go_wp2
          exact step_end ⟨⟨K3, Ext.refl _, hI3⟩, rfl⟩
        · rfl
        apply RunAll.is_
        · intro K3 W3 hE3 hI3 hF3
          go_wp2
          exact step_end ⟨⟨K3, Ext.refl _, hI3⟩, rfl⟩
        · rfl
        apply RunAll.is_
        · intro K3 W3 hE3 hI3 hF3
          go_wp2
          exact step_end ⟨⟨K3, Ext.refl _, hI3⟩, rfl⟩
        · rfl
        apply RunAll.is_
        · intro K3 W3 hE3 hI3 hF3
          go_wp2_with (first | ((with_reducible refine gate_load (T := 48) ?_); refine wpList_loadAgg (vs := [.int .i64 x1, .int .i64 x2]) (off := oa + i * 2) rfl rfl rfl Try.underlying48 rfl (hI3.inn.get (hE3 _ _ hka)) (by rw [size_ARef]; rfl) (fun j u hu => Ha.out j u hu) ?_) | fail)
          exact step_end ⟨⟨K3, Ext.refl _, hI3⟩, rfl⟩
        · rfl
        apply RunAll.is_
        · intro K3 W3 hE3 hI3 hF3
          go_wp2
          exact step_end ⟨⟨K3, Ext.refl _, hI3⟩, rfl⟩
        · rfl
        apply RunAll.is_
        · intro K3 W3 hE3 hI3 hF3
          go_wp2
          exact step_end ⟨⟨K3, Ext.refl _, hI3⟩, rfl⟩
        · rfl
        apply RunAll.is_
        · intro K3 W3 hE3 hI3 hF3
          go_wp2
          exact step_end ⟨⟨K3, Ext.refl _, hI3⟩, rfl⟩
        · rfl
        apply RunAll.is_
        · intro K3 W3 hE3 hI3 hF3
          go_wp2_with (first | ((with_reducible refine gate_load (T := 48) ?_); refine wpList_loadAgg (vs := [.int .i64 y1, .int .i64 y2]) (off := ob + i * 2) rfl rfl rfl Try.underlying48 rfl (hI3.inn.get (hE3 _ _ hkb)) (by rw [size_ARef]; rfl) (fun j u hu => Hb.out j u hu) ?_) | fail)
          exact step_end ⟨⟨K3, Ext.refl _, hI3⟩, rfl⟩
        · rfl
        intro K5 W5 hE5 hI5 hF5
        change wpList _ _ _ (List.cons _ _) _ _
        cases q with
        | false =>
          go_wp2
          go_roundw
          case rel =>
            refine ⟨i + 1, K5, by omega, by go_num, hI5, hE1.trans hE5, Lib.hid ?_⟩
            have hxy : (x1, x2) = (y1, y2) := by have := Hq.out; simp at this; simp [this]
            rw [List.take_add_one, List.take_add_one, ht.out, Hxn.out, Hyn.out, hxy]
          case measure => simp [intOf]; omega
        | true =>
          go_wp2
          go_ret
          have hne : A ≠ B := by
            rintro rfl
            have h := Hxn.out.symm.trans Hyn.out
            have h2 := Option.some.inj h
            have h3 := Hq.out
            simp only [Prod.mk.injEq] at h2
            simp [h2] at h3
          exact ⟨by rw [decide_eq_false hne]; rfl, hI5.below⟩
      · obtain rfl : i = A.length := by omega
        go_wp2
        go_ret
        have he : A = B := by
          have h := ht.out
          rw [List.take_length, Hl.out, List.take_length] at h
          exact h
        exact ⟨by rw [decide_eq_true he]; rfl, s.below⟩
  · have hlb : (((A.length : Nat) : Int) == ((B.length : Nat) : Int)) = false := by simp; omega
    have hlb2 : (((A.length : Nat) : Int) != ((B.length : Nat) : Int)) = true := by simp; omega
    go_enter Try.func28, Try.ntmps28
    go_wp2
    go_ret
    have hne : A ≠ B := by rintro rfl; exact hl rfl
    exact ⟨by rw [decide_eq_false hne]; rfl, s.below⟩

/-- The tenant of a volume, or -1. -/
def Asp.tenant (A : Asp) (x : Int) : Int := match lk AP.id A.vs x with
  | some a => a.ten
  | none => -1
theorem Volumes_list (K : Fz) (v : Value) (A : Asp) (w : World) (hK : K.In w) (hS : SpA K v A) (hG : Good A) :
    Calls Try.prog 15 #[v] w (Ret K w fun K' u => SlK K' 3 (fun a : AP => [.int .i64 a.id, .int .i64 a.ten, .int .i64 (a.L.length : Nat)]) u A.vs ∧ FlatS u) := by
  obtain ⟨S, hSp, e1, e2, hR1, hR2⟩ := hS
  obtain rfl := Asp.eq_mk e1 e2
  refine (Volumes_walk K v S w hK hSp (by have := hG.v.len; simp only [List.length_map] at this; omega)).mono fun e w' h => Ret.mono (fun K' u _ h => ⟨?_, h.2⟩) h
  obtain ⟨a, cap, rfl, hcap, hx⟩ := h.1
  refine ⟨a, cap, by rw [List.length_map], by rw [List.length_map]; exact hcap, fun i y hy => ?_⟩
  rw [List.getElem?_map] at hy
  obtain ⟨z, hz, rfl⟩ := Option.map_eq_some_iff.1 hy
  obtain ⟨b, off, cs, t, fr, ha, hk, hj⟩ := hx i z hz
  refine ⟨b, off, cs, t, fr, ha, hk, fun j u hu => hj j u ?_⟩
  have hn : z.n = (z.L.length : Nat) := (hR1 z (List.mem_of_getElem? hz)).len
  rw [← hu]
  cases z
  simp only at hn
  simp [encAV, Vol.abs, hn]
theorem Snaps_list (K : Fz) (v : Value) (A : Asp) (w : World) (hK : K.In w) (hS : SpA K v A) (hG : Good A) :
    Calls Try.prog 16 #[v] w (Ret K w fun K' u => SlK K' 4 (fun a : AP => [.int .i64 a.id, .int .i64 a.from_, .int .i64 a.ten, .int .i64 (a.L.length : Nat)]) u A.ss ∧ FlatS u) := by
  obtain ⟨S, hSp, e1, e2, hR1, hR2⟩ := hS
  obtain rfl := Asp.eq_mk e1 e2
  refine (Snaps_walk K v S w hK hSp (by have := hG.s.len; simp only [List.length_map] at this; omega)).mono fun e w' h => Ret.mono (fun K' u _ h => ⟨?_, h.2⟩) h
  obtain ⟨a, cap, rfl, hcap, hx⟩ := h.1
  refine ⟨a, cap, by rw [List.length_map], by rw [List.length_map]; exact hcap, fun i y hy => ?_⟩
  rw [List.getElem?_map] at hy
  obtain ⟨z, hz, rfl⟩ := Option.map_eq_some_iff.1 hy
  obtain ⟨b, off, cs, t, fr, ha, hk, hj⟩ := hx i z hz
  refine ⟨b, off, cs, t, fr, ha, hk, fun j u hu => hj j u ?_⟩
  have hn : z.n = (z.L.length : Nat) := (hR2 z (List.mem_of_getElem? hz)).len
  rw [← hu]
  obtain ⟨⟨_, _, _, _, _⟩, _⟩ := z
  simp only at hn
  simp [encAS, Snp.abs, hn]

set_option maxRecDepth 100000 in
set_option maxHeartbeats 2000000 in
theorem tenant_ok (K : Fz) (v : Value) (A : Asp) (x : Int) (w : World) (hK : K.In w) (hS : SpA K v A) (hG : Good A) :
    Calls Try.prog 21 #[v, .int .i64 x] w fun e w' => e = .returned (.int .i64 (A.tenant x)) ∧ Below w.heap.size w w' := by
  have s := St.start hK
  have HS := Lib.hid hS
  have hlen := hG.v.len
  clear hS
  go_enter Try.func21, Try.ntmps21
  go_wp2_with (first
    | (go_at_call 15; refine (Volumes_list K v A _ s.inn HS.out hG).mono ?_; rintro e W5 ⟨u, K2, rfl, hi, hl, hb, ⟨a, cap, rfl, hcap, hx⟩, _⟩; replace s := s.call hi hl hb; clear hi hl hb)
    | fail)
  have Hx := Lib.hid hx
  clear hx
  go_loopw [6] (fun vi wr => ∃ i : Nat, i ≤ A.vs.length ∧ vi = .int .i64 i ∧ St K w K2 wr ∧ Hid (∀ (j : Nat) (z : AP), j < i → A.vs[j]? = some z → z.id ≠ x)) (fun vi _ => A.vs.length - (intOf vi).toNat)
  case atStart => exact ⟨0, by omega, rfl, s, Lib.hid fun j z hj => by omega⟩
  case round =>
    clear s
    obtain ⟨i, hi, rfl, s, hbef⟩ := hrel
    by_cases hlt : i < A.vs.length
    · obtain ⟨y, hyn⟩ : ∃ y, A.vs[i]? = some y := ⟨_, List.getElem?_eq_getElem hlt⟩
      obtain ⟨b, off, cs, ty, fr, rfl, hkb, hj⟩ := Hx.out i y hyn
      have c0 := hj 0 _ rfl
      have c1 := hj 1 _ rfl
      have Hyn := Lib.hid hyn
      clear hj hyn
      by_cases hq : y.id = x
      · have hq1 : (y.id == x) = true := by simp [hq]
        have Hq := Lib.hid hq
        clear hq
        go_wp2_with (first
          | ((with_reducible refine gate_load (T := 3) (x := .tmp 18) ?_); refine wpList_loadCell (off := off + i * 3) rfl rfl rfl Try.underlying3 rfl (s.inn.get hkb) c0 ?_)
          | ((with_reducible refine gate_load (T := 3) (x := .tmp 25) ?_); refine wpList_loadCell (off := off + i * 3 + 1) rfl rfl rfl Try.underlying3 rfl (s.inn.get hkb) c1 ?_)
          | fail)
        go_ret
        refine ⟨?_, s.below⟩
        have e : lk AP.id A.vs x = some y := by
          unfold lk
          rw [ixN_stop AP.id hbef.out Hyn.out Hq.out]
          exact Hyn.out
        rw [Asp.tenant, e]
        rfl
      · have hq1 : (y.id == x) = false := by simp [hq]
        have Hq := Lib.hid hq
        clear hq
        go_wp2_with (first
          | ((with_reducible refine gate_load (T := 3) (x := .tmp 18) ?_); refine wpList_loadCell (off := off + i * 3) rfl rfl rfl Try.underlying3 rfl (s.inn.get hkb) c0 ?_)
          | fail)
        go_roundw
        case rel =>
          refine ⟨i + 1, by omega, by go_num, s, Lib.hid ?_⟩
          intro j z hj hz
          by_cases h : j < i
          · exact hbef.out j z h hz
          · obtain rfl : j = i := by omega
            rw [Hyn.out] at hz
            cases hz
            exact Hq.out
        case measure => simp [intOf]; omega
    · go_wp2
      go_ret
      obtain rfl : i = A.vs.length := by omega
      refine ⟨?_, s.below⟩
      have e : lk AP.id A.vs x = none := by
        unfold lk
        rw [ixN_end AP.id hbef.out, List.getElem?_eq_none (Nat.le_refl _)]
      rw [Asp.tenant, e] <;> rfl
end Go.Proofs.Ytdaagmhkhfcmdaa
