/- maps, refs and tenant of the law package. Written by gen_LvA.py. -/
import Derived.Test.YtdaagmhkhfcmdaaDoorGL
import Derived.Laws.StructEq
namespace Go.Proofs.YtdaagmhkhfcmdaaDoor
open Go Go.RowKit
set_option maxHeartbeats 400000

theorem neq_Mapping (x0 x1 y0 y1 : Int) (w : World) : Sem.run Tryd.prog (binOp .neq 70 (.agg #[.int .i64 x0, .int .i64 x1]) (.agg #[.int .i64 y0, .int .i64 y1])) w = .ok (.bool (!(x0 == y0 && x1 == y1))) w := by
  have u3 := Tryd.underlying3
  have a3 := Tryd.isAgg3
  have z3 := Tryd.sizeOf3
  have hS : Tryd.prog.underlying 70 = some (.struct (Tryd.prog.fieldsOf 70)) := by kernel_rfl
  have hp : Tryd.prog.stoodInHeld 70 = false := by kernel_rfl
  rw [run_neq_struct, show (10000 : Nat) = 9999 + 1 from rfl, run_equalIn_agg w 9999 70 _ _ hS hp]
  simp only [Program.fieldsOf, Tryd.underlying70]
  go_simp
  by_cases h0 : x0 = y0 <;> by_cases h1 : x1 = y1 <;> simp [h0, h1]
theorem guard_Mapping : Tryd.prog.eqGuardType Tryd.prog.depth 70 = false := by kernel_rfl
theorem size_Mapping : (Tryd.prog.info? 70).map (·.size) = some 2 := by kernel_rfl

theorem neq_ARef (x0 x1 y0 y1 : Int) (w : World) : Sem.run Tryd.prog (binOp .neq 46 (.agg #[.int .i64 x0, .int .i64 x1]) (.agg #[.int .i64 y0, .int .i64 y1])) w = .ok (.bool (!(x0 == y0 && x1 == y1))) w := by
  have u3 := Tryd.underlying3
  have a3 := Tryd.isAgg3
  have z3 := Tryd.sizeOf3
  have hS : Tryd.prog.underlying 46 = some (.struct (Tryd.prog.fieldsOf 46)) := by kernel_rfl
  have hp : Tryd.prog.stoodInHeld 46 = false := by kernel_rfl
  rw [run_neq_struct, show (10000 : Nat) = 9999 + 1 from rfl, run_equalIn_agg w 9999 46 _ _ hS hp]
  simp only [Program.fieldsOf, Tryd.underlying46]
  go_simp
  by_cases h0 : x0 = y0 <;> by_cases h1 : x1 = y1 <;> simp [h0, h1]
theorem guard_ARef : Tryd.prog.eqGuardType Tryd.prog.depth 46 = false := by kernel_rfl
theorem size_ARef : (Tryd.prog.info? 46).map (·.size) = some 2 := by kernel_rfl

set_option maxRecDepth 100000 in
set_option maxHeartbeats 2000000 in
theorem maps_ok (K : Fz) (sa sb : Value) (A B : Ents) (w : World) (hK : K.In w) (hSa : SlK K 2 encE sa A) (hSb : SlK K 2 encE sb B) (hA : A.length ≤ 2000000) :
    Calls Tryd.prog 9 #[sa, sb] w fun e w' => e = .returned (.bool (decide (A = B))) ∧ Below w.heap.size w w' := by
  obtain ⟨a, capa, rfl, _, hx⟩ := hSa
  obtain ⟨b, capb, rfl, _, hy⟩ := hSb
  have s := St.start hK
  have Hx := Lib.hid hx
  have Hy := Lib.hid hy
  clear hx hy
  by_cases hl : A.length = B.length
  · have hlb : (((A.length : Nat) : Int) == ((B.length : Nat) : Int)) = true := by simp [hl]
    have hlb2 : (((A.length : Nat) : Int) != ((B.length : Nat) : Int)) = false := by simp [hl]
    have Hl := Lib.hid hl
    clear hl
    go_enter Tryd.func9, Tryd.ntmps9
    go_wp2
    go_loopw [5] (fun vi wr => ∃ (i : Nat) (K1 : Fz), i ≤ A.length ∧ vi = .int .i64 i ∧ St K w K1 wr ∧ Ext K K1 ∧ Hid (A.take i = B.take i)) (fun vi _ => A.length - (intOf vi).toNat)
    case atStart => exact ⟨0, K, by omega, rfl, s, Ext.refl _, Lib.hid (by simp)⟩
    case round =>
      clear s
      obtain ⟨i, K1, hi, rfl, s, hE1, ht⟩ := hrel
      by_cases hlt : i < A.length
      · obtain ⟨x, hxn⟩ : ∃ x, A[i]? = some x := ⟨_, List.getElem?_eq_getElem hlt⟩
        obtain ⟨y, hyn⟩ : ∃ y, B[i]? = some y := ⟨_, List.getElem?_eq_getElem (by have := Hl.out; omega)⟩
        have hltB : i < B.length := by have := Hl.out; omega
        obtain ⟨ba, oa, csa, tya, fra, rfl, hka, hja⟩ := Hx.out i x hxn
        obtain ⟨bb, ob, csb, tyb, frb, rfl, hkb, hjb⟩ := Hy.out i y hyn
        obtain ⟨x1, x2⟩ := x
        obtain ⟨y1, y2⟩ := y
        have Ha : Hid (∀ (j : Nat) (u : Value), [Value.int .i64 x1, .int .i64 x2][j]? = some u → csa[oa + i * 2 + j]? = some u) := Lib.hid hja
        have Hb : Hid (∀ (j : Nat) (u : Value), [Value.int .i64 y1, .int .i64 y2][j]? = some u → csb[ob + i * 2 + j]? = some u) := Lib.hid hjb
        replace hka := hE1 _ _ hka
        replace hkb := hE1 _ _ hkb
        have Hxn := Lib.hid hxn
        have Hyn := Lib.hid hyn
        obtain ⟨q, hq⟩ : ∃ q, (!(x1 == y1 && x2 == y2)) = q := ⟨_, rfl⟩
        have hcmp := neq_Mapping x1 x2 y1 y2
        have hgd := guard_Mapping
        rw [hq] at hcmp
        have Hq := Lib.hid hq
        clear hja hjb hxn hyn hq
        go_wp2
        refine wp_region_run (m := 8) (n := 26) (I := fun K2 W => St K w K2 W) (K0 := K1)
          (ws := [.is (.slice (some ⟨ba, oa, none⟩) A.length capa), .is (.int .i64 (i : Nat)), .is (.pointer (some ⟨ba, oa + i * 2, none⟩)), .is (.agg #[.int .i64 x1, .int .i64 x2]), .is (.slice (some ⟨bb, ob, none⟩) B.length capb), .is (.int .i64 (i : Nat)), .is (.pointer (some ⟨bb, ob + i * 2, none⟩)), .is (.agg #[.int .i64 y1, .int .i64 y2])])
          mixed_ok (by kernel_rfl) rfl rfl ?monoq s.drew ?_
        case monoq =>
          simp only [List.forall_mem_cons]
          exact ⟨trivial, trivial, trivial, trivial, trivial, trivial, trivial, trivial, fun _ h => by cases h⟩
        apply RunAll.is_
        · intro K3 W3 hE3 hI3 hF3
          go_wp2
          exact step_end ⟨⟨K3, Ext.refl _, hI3⟩, rfl⟩
        · rfl
        apply RunAll.is_
        · intro K3 W3 hE3 hI3 hF3
          go_wp2
          exact step_end ⟨⟨K3, Ext.refl _, hI3⟩, rfl⟩
        · rfl
        apply RunAll.is_
        · intro K3 W3 hE3 hI3 hF3
          go_wp2
          exact step_end ⟨⟨K3, Ext.refl _, hI3⟩, rfl⟩
        · rfl
        apply RunAll.is_
        · intro K3 W3 hE3 hI3 hF3
          go_wp2_with (first | ((with_reducible refine gate_load (T := 70) ?_); refine wpList_loadAgg (vs := [.int .i64 x1, .int .i64 x2]) (off := oa + i * 2) rfl rfl rfl Tryd.underlying70 rfl (hI3.inn.get (hE3 _ _ hka)) (by rw [size_Mapping]; rfl) (fun j u hu => Ha.out j u hu) ?_) | fail)
          exact step_end ⟨⟨K3, Ext.refl _, hI3⟩, rfl⟩
        · rfl
        apply RunAll.is_
        · intro K3 W3 hE3 hI3 hF3
          go_wp2
          exact step_end ⟨⟨K3, Ext.refl _, hI3⟩, rfl⟩
        · rfl
        apply RunAll.is_
        · intro K3 W3 hE3 hI3 hF3
          go_wp2
          exact step_end ⟨⟨K3, Ext.refl _, hI3⟩, rfl⟩
        · rfl
        apply RunAll.is_
        · intro K3 W3 hE3 hI3 hF3
          go_wp2
          exact step_end ⟨⟨K3, Ext.refl _, hI3⟩, rfl⟩
        · rfl
        apply RunAll.is_
        · intro K3 W3 hE3 hI3 hF3
          go_wp2_with (first | ((with_reducible refine gate_load (T := 70) ?_); refine wpList_loadAgg (vs := [.int .i64 y1, .int .i64 y2]) (off := ob + i * 2) rfl rfl rfl Tryd.underlying70 rfl (hI3.inn.get (hE3 _ _ hkb)) (by rw [size_Mapping]; rfl) (fun j u hu => Hb.out j u hu) ?_) | fail)
          exact step_end ⟨⟨K3, Ext.refl _, hI3⟩, rfl⟩
        · rfl
        intro K5 W5 hE5 hI5 hF5
        change wpList _ _ _ (List.cons _ _) _ _
        cases q with
        | false =>
          go_wp2
          go_roundw
          case rel =>
            refine ⟨i + 1, K5, by omega, by go_num, hI5, hE1.trans hE5, Lib.hid ?_⟩
            have hxy : (x1, x2) = (y1, y2) := by have := Hq.out; simp at this; simp [this]
            rw [List.take_add_one, List.take_add_one, ht.out, Hxn.out, Hyn.out, hxy]
          case measure => simp [intOf]; omega
        | true =>
          go_wp2
          go_ret
          have hne : A ≠ B := by
            rintro rfl
            have h := Hxn.out.symm.trans Hyn.out
            have h2 := Option.some.inj h
            have h3 := Hq.out
            simp only [Prod.mk.injEq] at h2
            simp [h2] at h3
          exact ⟨by rw [decide_eq_false hne]; rfl, hI5.below⟩
      · obtain rfl : i = A.length := by omega
        go_wp2
        go_ret
        have he : A = B := by
          have h := ht.out
          rw [List.take_length, Hl.out, List.take_length] at h
          exact h
        exact ⟨by rw [decide_eq_true he]; rfl, s.below⟩
  · have hlb : (((A.length : Nat) : Int) == ((B.length : Nat) : Int)) = false := by simp; omega
    have hlb2 : (((A.length : Nat) : Int) != ((B.length : Nat) : Int)) = true := by simp; omega
    go_enter Tryd.func9, Tryd.ntmps9
    go_wp2
    go_ret
    have hne : A ≠ B := by rintro rfl; exact hl rfl
    exact ⟨by rw [decide_eq_false hne]; rfl, s.below⟩

set_option maxRecDepth 100000 in
set_option maxHeartbeats 2000000 in
theorem refs_ok (K : Fz) (sa sb : Value) (A B : Ents) (w : World) (hK : K.In w) (hSa : SlK K 2 encE sa A) (hSb : SlK K 2 encE sb B) (hA : A.length ≤ 2000000) :
    Calls Tryd.prog 14 #[sa, sb] w fun e w' => e = .returned (.bool (decide (A = B))) ∧ Below w.heap.size w w' := by
  obtain ⟨a, capa, rfl, _, hx⟩ := hSa
  obtain ⟨b, capb, rfl, _, hy⟩ := hSb
  have s := St.start hK
  have Hx := Lib.hid hx
  have Hy := Lib.hid hy
  clear hx hy
  by_cases hl : A.length = B.length
  · have hlb : (((A.length : Nat) : Int) == ((B.length : Nat) : Int)) = true := by simp [hl]
    have hlb2 : (((A.length : Nat) : Int) != ((B.length : Nat) : Int)) = false := by simp [hl]
    have Hl := Lib.hid hl
    clear hl
    go_enter Tryd.func14, Tryd.ntmps14
    go_wp2
    go_loopw [5] (fun vi wr => ∃ (i : Nat) (K1 : Fz), i ≤ A.length ∧ vi = .int .i64 i ∧ St K w K1 wr ∧ Ext K K1 ∧ Hid (A.take i = B.take i)) (fun vi _ => A.length - (intOf vi).toNat)
    case atStart => exact ⟨0, K, by omega, rfl, s, Ext.refl _, Lib.hid (by simp)⟩
    case round =>
      clear s
      obtain ⟨i, K1, hi, rfl, s, hE1, ht⟩ := hrel
      by_cases hlt : i < A.length
      · obtain ⟨x, hxn⟩ : ∃ x, A[i]? = some x := ⟨_, List.getElem?_eq_getElem hlt⟩
        obtain ⟨y, hyn⟩ : ∃ y, B[i]? = some y := ⟨_, List.getElem?_eq_getElem (by have := Hl.out; omega)⟩
        have hltB : i < B.length := by have := Hl.out; omega
        obtain ⟨ba, oa, csa, tya, fra, rfl, hka, hja⟩ := Hx.out i x hxn
        obtain ⟨bb, ob, csb, tyb, frb, rfl, hkb, hjb⟩ := Hy.out i y hyn
        obtain ⟨x1, x2⟩ := x
        obtain ⟨y1, y2⟩ := y
        have Ha : Hid (∀ (j : Nat) (u : Value), [Value.int .i64 x1, .int .i64 x2][j]? = some u → csa[oa + i * 2 + j]? = some u) := Lib.hid hja
        have Hb : Hid (∀ (j : Nat) (u : Value), [Value.int .i64 y1, .int .i64 y2][j]? = some u → csb[ob + i * 2 + j]? = some u) := Lib.hid hjb
        replace hka := hE1 _ _ hka
        replace hkb := hE1 _ _ hkb
        have Hxn := Lib.hid hxn
        have Hyn := Lib.hid hyn
        obtain ⟨q, hq⟩ : ∃ q, (!(x1 == y1 && x2 == y2)) = q := ⟨_, rfl⟩
        have hcmp := neq_ARef x1 x2 y1 y2
        have hgd := guard_ARef
        rw [hq] at hcmp
        have Hq := Lib.hid hq
        clear hja hjb hxn hyn hq
        go_wp2
        refine wp_region_run (m := 8) (n := 26) (I := fun K2 W => St K w K2 W) (K0 := K1)
          (ws := [.is (.slice (some ⟨ba, oa, none⟩) A.length capa), .is (.int .i64 (i : Nat)), .is (.pointer (some ⟨ba, oa + i * 2, none⟩)), .is (.agg #[.int .i64 x1, .int .i64 x2]), .is (.slice (some ⟨bb, ob, none⟩) B.length capb), .is (.int .i64 (i : Nat)), .is (.pointer (some ⟨bb, ob + i * 2, none⟩)), .is (.agg #[.int .i64 y1, .int .i64 y2])])
          mixed_ok (by kernel_rfl) rfl rfl ?monoq s.drew ?_
        case monoq =>
          simp only [List.forall_mem_cons]
          exact ⟨trivial, trivial, trivial, trivial, trivial, trivial, trivial, trivial, fun _ h => by cases h⟩
        apply RunAll.is_
        · intro K3 W3 hE3 hI3 hF3
          go_wp2
          exact step_end ⟨⟨K3, Ext.refl _, hI3⟩, rfl⟩
        · rfl
        apply RunAll.is_
        · intro K3 W3 hE3 hI3 hF3
          go_wp2
          exact step_end ⟨⟨K3, Ext.refl _, hI3⟩, rfl⟩
        · rfl
        apply RunAll.is_
        · intro K3 W3 hE3 hI3 hF3
          go_wp2
          exact step_end ⟨⟨K3, Ext.refl _, hI3⟩, rfl⟩
        · rfl
        apply RunAll.is_
        · intro K3 W3 hE3 hI3 hF3
          go_wp2_with (first | ((with_reducible refine gate_load (T := 46) ?_); refine wpList_loadAgg (vs := [.int .i64 x1, .int .i64 x2]) (off := oa + i * 2) rfl rfl rfl Tryd.underlying46 rfl (hI3.inn.get (hE3 _ _ hka)) (by rw [size_ARef]; rfl) (fun j u hu => Ha.out j u hu) ?_) | fail)
          exact step_end ⟨⟨K3, Ext.refl _, hI3⟩, rfl⟩
        · rfl
        apply RunAll.is_
        · intro K3 W3 hE3 hI3 hF3
          go_wp2
          exact step_end ⟨⟨K3, Ext.refl _, hI3⟩, rfl⟩
        · rfl
        apply RunAll.is_
        · intro K3 W3 hE3 hI3 hF3
          go_wp2
          exact step_end ⟨⟨K3, Ext.refl _, hI3⟩, rfl⟩
        · rfl
        apply RunAll.is_
        · intro K3 W3 hE3 hI3 hF3
          go_wp2
          exact step_end ⟨⟨K3, Ext.refl _, hI3⟩, rfl⟩
        · rfl
        apply RunAll.is_
        · intro K3 W3 hE3 hI3 hF3
          go_wp2_with (first | ((with_reducible refine gate_load (T := 46) ?_); refine wpList_loadAgg (vs := [.int .i64 y1, .int .i64 y2]) (off := ob + i * 2) rfl rfl rfl Tryd.underlying46 rfl (hI3.inn.get (hE3 _ _ hkb)) (by rw [size_ARef]; rfl) (fun j u hu => Hb.out j u hu) ?_) | fail)
          exact step_end ⟨⟨K3, Ext.refl _, hI3⟩, rfl⟩
        · rfl
        intro K5 W5 hE5 hI5 hF5
        change wpList _ _ _ (List.cons _ _) _ _
        cases q with
        | false =>
          go_wp2
          go_roundw
          case rel =>
            refine ⟨i + 1, K5, by omega, by go_num, hI5, hE1.trans hE5, Lib.hid ?_⟩
            have hxy : (x1, x2) = (y1, y2) := by have := Hq.out; simp at this; simp [this]
            rw [List.take_add_one, List.take_add_one, ht.out, Hxn.out, Hyn.out, hxy]
          case measure => simp [intOf]; omega
        | true =>
          go_wp2
          go_ret
          have hne : A ≠ B := by
            rintro rfl
            have h := Hxn.out.symm.trans Hyn.out
            have h2 := Option.some.inj h
            have h3 := Hq.out
            simp only [Prod.mk.injEq] at h2
            simp [h2] at h3
          exact ⟨by rw [decide_eq_false hne]; rfl, hI5.below⟩
      · obtain rfl : i = A.length := by omega
        go_wp2
        go_ret
        have he : A = B := by
          have h := ht.out
          rw [List.take_length, Hl.out, List.take_length] at h
          exact h
        exact ⟨by rw [decide_eq_true he]; rfl, s.below⟩
  · have hlb : (((A.length : Nat) : Int) == ((B.length : Nat) : Int)) = false := by simp; omega
    have hlb2 : (((A.length : Nat) : Int) != ((B.length : Nat) : Int)) = true := by simp; omega
    go_enter Tryd.func14, Tryd.ntmps14
    go_wp2
    go_ret
    have hne : A ≠ B := by rintro rfl; exact hl rfl
    exact ⟨by rw [decide_eq_false hne]; rfl, s.below⟩

/-- The tenant of a volume, or -1. -/
def Asp.tenant (A : Asp) (x : Int) : Int := match lk AP.id A.vs x with
  | some a => a.ten
  | none => -1
theorem Volumes_list (K : Fz) (v : Value) (A : Asp) (w : World) (hK : K.In w) (hS : SpA K v A) (hG : Good A) :
    Calls Tryd.prog 28 #[v] w (Ret K w fun K' u => SlK K' 3 (fun a : AP => [.int .i64 a.id, .int .i64 a.ten, .int .i64 (a.L.length : Nat)]) u A.vs ∧ FlatS u) := by
  obtain ⟨S, hSp, e1, e2, hR1, hR2⟩ := hS
  obtain rfl := Asp.eq_mk e1 e2
  refine (Volumes_walk K v S w hK hSp (by have := hG.v.len; simp only [List.length_map] at this; omega)).mono fun e w' h => Ret.mono (fun K' u _ h => ⟨?_, h.2⟩) h
  obtain ⟨a, cap, rfl, hcap, hx⟩ := h.1
  refine ⟨a, cap, by rw [List.length_map], by rw [List.length_map]; exact hcap, fun i y hy => ?_⟩
  rw [List.getElem?_map] at hy
  obtain ⟨z, hz, rfl⟩ := Option.map_eq_some_iff.1 hy
  obtain ⟨b, off, cs, t, fr, ha, hk, hj⟩ := hx i z hz
  refine ⟨b, off, cs, t, fr, ha, hk, fun j u hu => hj j u ?_⟩
  have hn : z.n = (z.L.length : Nat) := (hR1 z (List.mem_of_getElem? hz)).len
  rw [← hu]
  cases z
  simp only at hn
  simp [encAV, Vol.abs, hn]

set_option maxRecDepth 100000 in
set_option maxHeartbeats 2000000 in
theorem tenant_ok (K : Fz) (v : Value) (A : Asp) (x : Int) (w : World) (hK : K.In w) (hS : SpA K v A) (hG : Good A) :
    Calls Tryd.prog 10 #[v, .int .i64 x] w fun e w' => e = .returned (.int .i64 (A.tenant x)) ∧ Below w.heap.size w w' := by
  have s := St.start hK
  have HS := Lib.hid hS
  have hlen := hG.v.len
  clear hS
  go_enter Tryd.func10, Tryd.ntmps10
  go_wp2_with (first
    | (go_at_call 28; refine (Volumes_list K v A _ s.inn HS.out hG).mono ?_; rintro e W5 ⟨u, K2, rfl, hi, hl, hb, ⟨a, cap, rfl, hcap, hx⟩, _⟩; replace s := s.call hi hl hb; clear hi hl hb)
    | fail)
  have Hx := Lib.hid hx
  clear hx
  go_loopw [6] (fun vi wr => ∃ i : Nat, i ≤ A.vs.length ∧ vi = .int .i64 i ∧ St K w K2 wr ∧ Hid (∀ (j : Nat) (z : AP), j < i → A.vs[j]? = some z → z.id ≠ x)) (fun vi _ => A.vs.length - (intOf vi).toNat)
  case atStart => exact ⟨0, by omega, rfl, s, Lib.hid fun j z hj => by omega⟩
  case round =>
    clear s
    obtain ⟨i, hi, rfl, s, hbef⟩ := hrel
    by_cases hlt : i < A.vs.length
    · obtain ⟨y, hyn⟩ : ∃ y, A.vs[i]? = some y := ⟨_, List.getElem?_eq_getElem hlt⟩
      obtain ⟨b, off, cs, ty, fr, rfl, hkb, hj⟩ := Hx.out i y hyn
      have c0 := hj 0 _ rfl
      have c1 := hj 1 _ rfl
      have Hyn := Lib.hid hyn
      clear hj hyn
      by_cases hq : y.id = x
      · have hq1 : (y.id == x) = true := by simp [hq]
        have Hq := Lib.hid hq
        clear hq
        go_wp2_with (first
          | ((with_reducible refine gate_load (T := 3) (x := .tmp 18) ?_); refine wpList_loadCell (off := off + i * 3) rfl rfl rfl Tryd.underlying3 rfl (s.inn.get hkb) c0 ?_)
          | ((with_reducible refine gate_load (T := 3) (x := .tmp 25) ?_); refine wpList_loadCell (off := off + i * 3 + 1) rfl rfl rfl Tryd.underlying3 rfl (s.inn.get hkb) c1 ?_)
          | fail)
        go_ret
        refine ⟨?_, s.below⟩
        have e : lk AP.id A.vs x = some y := by
          unfold lk
          rw [ixN_stop AP.id hbef.out Hyn.out Hq.out]
          exact Hyn.out
        rw [Asp.tenant, e]
        rfl
      · have hq1 : (y.id == x) = false := by simp [hq]
        have Hq := Lib.hid hq
        clear hq
        go_wp2_with (first
          | ((with_reducible refine gate_load (T := 3) (x := .tmp 18) ?_); refine wpList_loadCell (off := off + i * 3) rfl rfl rfl Tryd.underlying3 rfl (s.inn.get hkb) c0 ?_)
          | fail)
        go_roundw
        case rel =>
          refine ⟨i + 1, by omega, by go_num, s, Lib.hid ?_⟩
          intro j z hj hz
          by_cases h : j < i
          · exact hbef.out j z h hz
          · obtain rfl : j = i := by omega
            rw [Hyn.out] at hz
            cases hz
            exact Hq.out
        case measure => simp [intOf]; omega
    · go_wp2
      go_ret
      obtain rfl : i = A.vs.length := by omega
      refine ⟨?_, s.below⟩
      have e : lk AP.id A.vs x = none := by
        unfold lk
        rw [ixN_end AP.id hbef.out, List.getElem?_eq_none (Nat.le_refl _)]
      rw [Asp.tenant, e] <;> rfl
end Go.Proofs.YtdaagmhkhfcmdaaDoor
/- Get and Look at what a space says; the law package's sanity. Written by gen_LvB.py. -/
namespace Go.Proofs.YtdaagmhkhfcmdaaDoor
open Go Go.RowKit
set_option maxHeartbeats 400000

theorem at_rep {t : PT} {n : Int} {L : Ents} (h : Rep t n L) (blk : Int) : t.at_ blk = atE L blk := by
  unfold PT.at_ atE
  rw [h.look]
theorem GetA_ok (K : Fz) (v : Value) (A : Asp) (x blk : Int) (w : World) (hK : K.In w) (hS : SpA K v A) (hG : Good A) :
    Calls Tryd.prog 13 #[v, .int .i64 x, .int .i64 blk] w fun e w' => e = .returned (.tuple #[.int .i64 (A.got x blk).1, .int .i64 (A.got x blk).2]) ∧ Below w.heap.size w w' := by
  obtain ⟨S, hSp, e1, e2, hR1, hR2⟩ := hS
  obtain rfl := Asp.eq_mk e1 e2
  have e : S.got x blk = Asp.got ⟨S.vs.map Vol.abs, S.ss.map Snp.abs⟩ x blk := by
    show _ = (match (S.vs.map Vol.abs)[ixN AP.id (S.vs.map Vol.abs) x]? with | some s => atE s.L blk | none => (0, 12))
    have hix : ixN AP.id (S.vs.map Vol.abs) x = ixN Vol.id S.vs x := ixN_map _ _ _ _
    rw [hix, List.getElem?_map]
    unfold Spc.got
    cases h : S.vs[ixN Vol.id S.vs x]? with
    | none => rfl
    | some y => exact at_rep (hR1 y (List.mem_of_getElem? h)) blk
  rw [← e]
  exact Get_ok K v S x blk w hK hSp (by have := hG.v.len; simp only [List.length_map] at this; omega)
theorem LookA_ok (K : Fz) (v : Value) (A : Asp) (x blk : Int) (w : World) (hK : K.In w) (hS : SpA K v A) (hG : Good A) :
    Calls Tryd.prog 12 #[v, .int .i64 x, .int .i64 blk] w fun e w' => e = .returned (.tuple #[.int .i64 (A.look x blk).1, .int .i64 (A.look x blk).2]) ∧ Below w.heap.size w w' := by
  obtain ⟨S, hSp, e1, e2, hR1, hR2⟩ := hS
  obtain rfl := Asp.eq_mk e1 e2
  have e : S.look x blk = Asp.look ⟨S.vs.map Vol.abs, S.ss.map Snp.abs⟩ x blk := by
    show _ = (match (S.ss.map Snp.abs)[ixN AP.id (S.ss.map Snp.abs) x]? with | some s => atE s.L blk | none => (0, 12))
    have hix : ixN AP.id (S.ss.map Snp.abs) x = ixN Snp.num S.ss x := ixN_map _ _ _ _
    rw [hix, List.getElem?_map]
    unfold Spc.look
    cases h : S.ss[ixN Snp.num S.ss x]? with
    | none => rfl
    | some y => exact at_rep (hR2 y (List.mem_of_getElem? h)) blk
  rw [← e]
  exact Look_ok K v S x blk w hK hSp (by have := hG.s.len; simp only [List.length_map] at this; omega)
theorem GetA_at (K : Fz) (v : Value) (A : Asp) (x blk : Int) (r : Int × Int) (w : World) (hr : A.got x blk = r) (hK : K.In w) (hS : SpA K v A) (hG : Good A) :
    Calls Tryd.prog 13 #[v, .int .i64 x, .int .i64 blk] w fun e w' => e = .returned (.tuple #[.int .i64 r.1, .int .i64 r.2]) ∧ Below w.heap.size w w' := by subst hr; exact GetA_ok K v A x blk w hK hS hG
theorem LookA_at (K : Fz) (v : Value) (A : Asp) (x blk : Int) (r : Int × Int) (w : World) (hr : A.look x blk = r) (hK : K.In w) (hS : SpA K v A) (hG : Good A) :
    Calls Tryd.prog 12 #[v, .int .i64 x, .int .i64 blk] w fun e w' => e = .returned (.tuple #[.int .i64 r.1, .int .i64 r.2]) ∧ Below w.heap.size w w' := by subst hr; exact LookA_ok K v A x blk w hK hS hG
theorem SpA.ptr {K : Fz} {v : Value} {A : Asp} (h : SpA K v A) : ∃ g, v = .pointer (some ⟨g, 0, none⟩) := by
  obtain ⟨S, ⟨b, t, sv, ss, hv, _⟩, _⟩ := h
  exact ⟨b, hv⟩
theorem NewA_ok (K : Fz) (w : World) (hK : K.In w) : Calls Tryd.prog 5 #[] w (Ret K w fun K' v => SpA K' v ⟨[], []⟩) :=
  (New_ok K w hK).mono fun _ _ h => Ret.mono (fun K' v _ h => ⟨⟨[], []⟩, h, rfl, rfl, by simp, by simp⟩) h
theorem do_at (K : Fz) (v : Value) (A : Asp) (o : Opn) (r : Asp × Int × Int) (w : World) (hr : A.step o = r) (hK : K.In w) (hS : SpA K v A) (hG : Good A) :
    Calls Tryd.prog 6 #[v, .agg (encP1 o).toArray] w (Ret K w (Done r)) := by subst hr; exact do_ok K v A o w hK hS hG
theorem do_lit (K : Fz) (v : Value) (A : Asp) (k a b c : Int) (r : Asp × Int × Int) (w : World) (hr : A.step ⟨k, a, b, c⟩ = r) (hK : K.In w) (hS : SpA K v A) (hG : Good A) :
    Calls Tryd.prog 6 #[v, .agg #[.int .i64 k, .int .i64 a, .int .i64 b, .int .i64 c]] w (Ret K w (Done r)) := do_at K v A ⟨k, a, b, c⟩ r w hr hK hS hG
theorem run_snoc (A : Asp) (os : List Opn) (o : Opn) : A.run (os ++ [o]) = ((A.run os).step o).1 := by simp [Asp.run]

section
variable {P : Program} {ops : Array Oper} {rest : List Oper} {o : Oper} {a : Act} {w : World} {Q : Exit → Act → World → Prop}
/-- '[]T{x, y, ..}'. -/
theorem wpList_buildSliceN {t e : TypeId} {n : Nat} {xs : Array (Nat × Operand)} {vs : List (Nat × Value)} {z : Value} {sz bytes : Nat} {cs : Array Value} (hgd : o.guard = none) (ho : o.op = .buildSlice t n xs) (hx : (xs.toList.map fun p => (p.1, a.eval p.2)) = vs)
    (hu : P.underlying t = some (.slice e)) (hi : (P.info? e).map (fun i => (i.zero, i.size, i.bytes)) = some (some z, sz, bytes)) (hpos : 0 < sz) (hsmall : sz ≤ 1000) (hn : n * sz ≤ 10000) (hn0 : 0 < n)
    (hfill : Instr.fill (fun i => some (i * sz, sz)) ((Array.range (n * sz)).map (z.cells[· % z.cells.size]!)) vs = some cs)
    (h : ∀ g W', g = w.heap.size → New w (.cells cs e) W' → wpList P ops Q rest (a.put o.dst (.slice (some ⟨g, 0, none⟩) n n)) W') : wpList P ops Q (o :: rest) a w := by
  cases hie : P.info? e with
  | none => simp [hie] at hi
  | some ie =>
    simp only [hie, Option.map_some, Option.some.injEq, Prod.mk.injEq] at hi
    obtain ⟨hz, rfl, rfl⟩ := hi
    exact wpList_buildSlice hgd t e n _ ho cs ie z hu hie hz (by omega) (by have := Nat.mul_pos hn0 hpos; omega) (by rw [← hx] at hfill; simpa using hfill) (h _ _ rfl (New.alloc _ _))
end
theorem infoB_LOp : (Tryd.prog.info? 30).map (fun i => (i.zero, i.size, i.bytes)) = some (some (.agg #[.int .i64 0, .int .i64 0, .int .i64 0, .int .i64 0]), 4, 32) := by kernel_rfl
theorem size_LOp : (Tryd.prog.info? 30).map (·.size) = some 4 := by kernel_rfl
theorem encP1_len (o : Opn) : (encP1 o).length = 4 := rfl
/-- A literal list, just made, frozen. -/
theorem fresh_list {α : Type} {enc : α → List Value} {sz : Nat} {K0 K : Fz} {w W W' : World} {g e n : Nat} {cs : Array Value} {zs : List α} (hl : ∀ x, (enc x).length = sz) (s : St K0 w K W) (hg : g = W.heap.size) (hn : New W (.cells cs e) W') (hcs : cs = (zs.flatMap enc).toArray) (hz : n = zs.length) :
    ∃ K', Ext K K' ∧ St K0 w K' W' ∧ SlK K' sz enc (.slice (some ⟨g, 0, none⟩) n n) zs := by
  subst hz
  have o := Own.made s hg hn
  refine ⟨_, fun b o' hb => ?_, (s.new hn).freeze o, _, _, rfl, Nat.le_refl _, fun i x hi => ⟨g, 0, cs, e, (0, 0), rfl, Fz.add_self _ _ _, fun j u hu => ?_⟩⟩
  · rw [Fz.add_other _ _ (by rintro rfl; rw [o.none_] at hb; cases hb)]; exact hb
  · subst hcs
    rw [List.getElem?_toArray, Nat.zero_add]
    have key : ∀ (ys : List α) (i : Nat) (x : α), ys[i]? = some x → ∀ j u, (enc x)[j]? = some u → (ys.flatMap enc)[i * sz + j]? = some u := by
      intro ys
      induction ys with
      | nil => intro i x h; simp at h
      | cons y ys ih =>
        intro i x h j u hu
        have hj : j < sz := by rw [← hl x]; exact (List.getElem?_eq_some_iff.1 hu).1
        cases i with
        | zero =>
          obtain rfl : y = x := by simpa using h
          rw [List.flatMap_cons, Nat.zero_mul, Nat.zero_add, List.getElem?_append_left (by rw [hl]; exact hj)]
          exact hu
        | succ i =>
          rw [List.flatMap_cons, List.getElem?_append_right (by rw [hl, Nat.succ_mul]; omega), hl, show (i + 1) * sz + j - sz = i * sz + j by rw [Nat.succ_mul]; omega]
          exact ih i x (by simpa using h) j u hu
    exact key zs i x hi j u hu

/-! ### The example -/
def exOps : List Opn := [⟨1, 3, 0, 0⟩, ⟨4, 0, 5, 70⟩, ⟨6, 0, 0, 0⟩, ⟨4, 0, 5, 71⟩]
def ex4 : Asp := ⟨[⟨0, 3, 0, [(5, 71)]⟩], [⟨0, 3, 0, [(5, 70)]⟩]⟩
def ex5 : Asp := ⟨[⟨0, 3, 0, [(5, 71)]⟩, ⟨1, 4, 0, [(5, 70)]⟩], [⟨0, 3, 0, [(5, 70)]⟩]⟩
def ex6 : Asp := ⟨[⟨0, 3, 0, [(5, 70)]⟩, ⟨1, 4, 0, [(5, 70)]⟩], [⟨0, 3, 0, [(5, 70)]⟩]⟩
theorem ex_run : Asp.run ⟨[], []⟩ exOps = ex4 := by rfl
theorem ex_step5 : ex4.step ⟨8, 0, 4, 0⟩ = (ex5, 1, 0) := by rfl
theorem ex_step6 : ex5.step ⟨9, 0, 0, 0⟩ = (ex6, 0, 0) := by rfl
theorem ex_good4 : Good ex4 := ex_run ▸ Good.nil.run exOps
theorem ex_good5 : Good ex5 := by have := ex_good4.step ⟨8, 0, 4, 0⟩; rwa [ex_step5] at this
theorem ex_good6 : Good ex6 := by have := ex_good5.step ⟨9, 0, 0, 0⟩; rwa [ex_step6] at this
theorem ex_ok : ∀ i o, exOps[i]? = some o → ((Asp.run ⟨[], []⟩ (exOps.take i)).step o).2 = (0, 0) := by
  intro i o h
  match i, h with
  | 0, h => cases h; rfl
  | 1, h => cases h; rfl
  | 2, h => cases h; rfl
  | 3, h => cases h; rfl
  | i + 4, h => simp [exOps] at h
theorem ex_refs70 : refsTo (ex6.cnt 70) 16 = [(3, 2), (4, 1)] := by rfl
theorem ex_refs71 : refsTo (ex6.cnt 71) 16 = [] := by rfl
theorem ex_g1 : ex4.look 0 5 = (70, 0) := by rfl
theorem ex_g2 : ex4.got 0 5 = (71, 0) := by rfl
theorem ex_g3 : ex5.got 1 5 = (70, 0) := by rfl
theorem ex_g4 : ex6.got 0 5 = (70, 0) := by rfl
theorem ex_g5 : ex6.got 0 6 = (0, 12) := by rfl
theorem ex_g6 : ex6.got 9 5 = (0, 12) := by rfl
theorem ex_g7 : ex6.got 0 4096 = (0, 1) := by rfl
theorem Refs_at (K : Fz) (v : Value) (A : Asp) (c : Int) (R : Ents) (w : World) (hr : refsTo (A.cnt c) 16 = R) (hK : K.In w) (hS : SpA K v A) (hG : Good A) :
    Calls Tryd.prog 15 #[v, .int .i64 c] w (Ret K w fun K' u => SlK K' 2 encE u R ∧ FlatS u) := by subst hr; exact Refs_ok K v A c w hK hS hG

set_option maxRecDepth 100000 in
set_option maxHeartbeats 4000000 in
theorem lsanity_ok (K : Fz) (w : World) (hK : K.In w) : Calls Tryd.prog 4 #[] w fun e w' => e = .returned (.bool true) ∧ Below w.heap.size w w' := by
  have s := St.start hK
  have cs0 : Array Value := #[]
  go_enter Tryd.func4, Tryd.ntmps4
  go_wp2_with (first
    | (go_at_call 5; refine (NewA_ok K _ s.inn).mono ?_; rintro e W1 ⟨v0, K1, rfl, hi, hl, hb, hS0⟩; replace s := s.call hi hl hb; clear hi hl hb)
    | ((with_reducible refine gate_buildSlice (T := 22) ?_); refine wpList_buildSliceN rfl rfl rfl (cs := (exOps.flatMap encP1).toArray) Tryd.underlying22 infoB_LOp (by decide) (by decide) (by decide) (by decide) (by kernel_rfl) ?_; intro gn W5 eg hn; obtain ⟨K2, hE2, s2, hL2⟩ := fresh_list encP1_len s eg hn (zs := exOps) rfl rfl; clear eg hn s)
    | fail)
  have HL2 := Lib.hid hL2
  obtain ⟨_, _, hv2, _, hx2⟩ := hL2
  cases hv2
  have Hx2 := Lib.hid hx2
  replace hS0 := hS0.ext hE2
  clear hx2 hE2
  go_loopw [1, 3] (fun v vi wr => ∃ (i : Nat) (K3 : Fz), i ≤ 4 ∧ vi = .int .i64 i ∧ St K w K3 wr ∧ Hid (Ext K2 K3) ∧ Hid (SpA K3 v (Asp.run ⟨[], []⟩ (exOps.take i)))) (fun _ vi _ => 4 - (intOf vi).toNat)
  case atStart => exact ⟨0, K2, by omega, rfl, s2, Lib.hid (Ext.refl _), Lib.hid hS0⟩
  case round =>
    clear s2 hS0
    obtain ⟨i, K3, hi, rfl, s, hE3, hSA⟩ := hrel
    obtain ⟨g3, rfl⟩ := SpA.ptr hSA.out
    by_cases hlt : i < 4
    · obtain ⟨x, hx⟩ : ∃ x, exOps[i]? = some x := ⟨_, List.getElem?_eq_getElem (show i < 4 from hlt)⟩
      obtain ⟨b, off, cs, ty, fr, hg, hk, hj⟩ := Hx2.out i x hx
      cases hg
      have Hj := Lib.hid hj
      have hk3 := hE3.out _ _ hk
      have hok := ex_ok i x hx
      have hgood : Good (Asp.run ⟨[], []⟩ (exOps.take i)) := Good.nil.run _
      have hnext : Hid (((Asp.run ⟨[], []⟩ (exOps.take i)).step x).1 = Asp.run ⟨[], []⟩ (exOps.take (i + 1))) := Lib.hid (by rw [List.take_add_one, hx, Option.toList_some, run_snoc])
      obtain ⟨r, hr⟩ : ∃ r, (Asp.run ⟨[], []⟩ (exOps.take i)).step x = r := ⟨_, rfl⟩
      rw [hr] at hok hnext
      obtain ⟨rA, r1, r2⟩ := r
      obtain ⟨rfl, rfl⟩ : r1 = 0 ∧ r2 = 0 := by simpa using hok
      have Hr := Lib.hid hr
      have hlt4 : (i : Int) < 4 := by omega
      clear hx hj hk hok hr
      go_wp2_with (first
        | ((with_reducible refine gate_load (T := 30) ?_); refine wpList_loadAgg (vs := encP1 x) (off := i * 4) rfl rfl rfl Tryd.underlying30 rfl (s.inn.get hk3) (by rw [size_LOp]; rfl) (fun j u hu => by have := Hj.out j u hu; rwa [Nat.zero_add] at this) ?_)
        | (go_at_call 6; refine (do_at K3 _ _ x _ _ Hr.out s.inn hSA.out hgood).mono ?_; rintro e W6 ⟨u6, K6, rfl, hi6, hl6, hb6, v6, rfl, hS6⟩; have hE6 := Ext.of_le s.inn hl6; replace s := s.call hi6 hl6 hb6; obtain ⟨g6, rfl⟩ := SpA.ptr hS6; have HS6 := Lib.hid hS6; clear hi6 hl6 hb6 hS6)
        | fail)
      go_roundw
      case rel => exact ⟨i + 1, K6, by omega, by go_num, s, Lib.hid (hE3.out.trans hE6), Lib.hid (by rw [← hnext.out]; exact HS6.out)⟩
      case measure => simp [intOf]; omega
    · obtain rfl : i = 4 := by omega
      have hS4 : SpA K3 (.pointer (some ⟨g3, 0, none⟩)) ex4 := by have := hSA.out; rwa [show exOps.take 4 = exOps from rfl, ex_run] at this
      have HS4 := Lib.hid hS4
      clear hSA hS4 Hx2 HL2
      go_wp2_with (first
        | (go_at_call 12; refine (LookA_at K3 _ ex4 0 5 _ _ ex_g1 s.inn HS4.out ex_good4).mono ?_; rintro e W7 ⟨rfl, hb⟩; replace s := s.quiet hb; clear hb)
        | (go_at_call 13; (with_reducible refine (GetA_at K3 _ ex4 0 5 _ _ ex_g2 s.inn HS4.out ex_good4).mono ?_); rintro e W7 ⟨rfl, hb⟩; replace s := s.quiet hb; clear hb)
        | ((with_reducible refine gate_build (T := 30) ?_); refine wpList_build0 rfl rfl (v := .agg #[]) (fun w => by kernel_rfl) ?_)
        | (go_at_call 6; (with_reducible refine (do_lit K3 _ ex4 8 0 4 0 _ _ ex_step5 s.inn HS4.out ex_good4).mono ?_); rintro e W8 ⟨u8, K8, rfl, hi, hl, hb, v8, rfl, hS8⟩; replace s := s.call hi hl hb; have HS8 := Lib.hid hS8; clear hi hl hb hS8)
        | (go_at_call 13; (with_reducible refine (GetA_at K8 _ ex5 1 5 _ _ ex_g3 s.inn HS8.out ex_good5).mono ?_); rintro e W7 ⟨rfl, hb⟩; replace s := s.quiet hb; clear hb)
        | (go_at_call 6; (with_reducible refine (do_lit K8 _ ex5 9 0 0 0 _ _ ex_step6 s.inn HS8.out ex_good5).mono ?_); rintro e W9 ⟨u9, K9, rfl, hi, hl, hb, v9, rfl, hS9⟩; replace s := s.call hi hl hb; have HS9 := Lib.hid hS9; clear hi hl hb hS9)
        | (go_at_call 13; (with_reducible refine (GetA_at K9 _ ex6 0 5 _ _ ex_g4 s.inn HS9.out ex_good6).mono ?_); rintro e W7 ⟨rfl, hb⟩; replace s := s.quiet hb; clear hb)
        | (go_at_call 13; (with_reducible refine (GetA_at K9 _ ex6 0 6 _ _ ex_g5 s.inn HS9.out ex_good6).mono ?_); rintro e W7 ⟨rfl, hb⟩; replace s := s.quiet hb; clear hb)
        | (go_at_call 13; (with_reducible refine (GetA_at K9 _ ex6 9 5 _ _ ex_g6 s.inn HS9.out ex_good6).mono ?_); rintro e W7 ⟨rfl, hb⟩; replace s := s.quiet hb; clear hb)
        | (go_at_call 13; (with_reducible refine (GetA_at K9 _ ex6 0 4096 _ _ ex_g7 s.inn HS9.out ex_good6).mono ?_); rintro e W7 ⟨rfl, hb⟩; replace s := s.quiet hb; clear hb)
        | (go_at_call 15; (with_reducible refine (Refs_at K9 _ ex6 70 _ _ ex_refs70 s.inn HS9.out ex_good6).mono ?_); rintro e W10 ⟨u10, K10, rfl, hi, hl, hb, hS10, _⟩; have hE10 := Ext.of_le s.inn hl; replace s := s.call hi hl hb; have HS10 := Lib.hid hS10; clear hi hl hb hS10)
        | ((with_reducible refine gate_buildSlice (T := 43) ?_); refine wpList_build2W rfl rfl rfl rfl (cs := #[.int .i64 3, .int .i64 2, .int .i64 4, .int .i64 1]) Tryd.underlying43 infoB_ARef (by decide) (by decide) (by kernel_rfl) ?_; intro gm W11 eg hn; obtain ⟨K11, hE11, s11, hL11⟩ := fresh_list encE_len s eg hn (zs := [(3, 2), (4, 1)]) rfl rfl; clear eg hn s)
        | (go_at_call 14; refine (refs_ok K11 _ _ [(3, 2), (4, 1)] [(3, 2), (4, 1)] _ s11.inn (HS10.out.keep hE11) hL11 (by simp)).mono ?_; rintro e W7 ⟨rfl, hb⟩; replace s11 := s11.quiet hb; clear hb)
        | (go_at_call 15; (with_reducible refine (Refs_at K11 _ ex6 71 _ _ ex_refs71 s11.inn (HS9.out.ext (hE10.trans hE11)) ex_good6).mono ?_); rintro e W12 ⟨u12, K12, rfl, hi, hl, hb, ⟨a12, c12, rfl, _, _⟩, _⟩; replace s11 := s11.call hi hl hb; clear hi hl hb)
        | fail)
      go_ret
      exact ⟨rfl, s11.below⟩
end Go.Proofs.YtdaagmhkhfcmdaaDoor
