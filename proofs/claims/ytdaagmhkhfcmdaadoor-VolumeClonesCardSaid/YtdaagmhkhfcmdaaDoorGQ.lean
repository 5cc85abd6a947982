/- What Diff says of two trees, as the lists that they map: no program in sight. -/
import Derived.Test.YtdaagmhkhfcmdaaDoorGN
import Derived.Test.YtdaagmhkhfcmdaaDoorGD
import Derived.Test.YtdaagmhkhfcmdaaDoorGK
namespace Go.Proofs.YtdaagmhkhfcmdaaDoor
open Go
set_option maxHeartbeats 400000

/-- One block holds one node. -/
theorem tr_get {T : Nat} {K : Fz} : ∀ (L : Nat) (a b : PT), Tr T K a → Tr T K b → a.ptr = b.ptr → ∀ x, a.get L x = b.get L x
  | L, .nil, .nil, _, _, _, x => rfl
  | L, .nil, .node _ _ _ _, _, _, h, x => by cases h
  | L, .node _ _ _ _, .nil, _, _, h, x => by cases h
  | L, .node g h k c, .node g' h' k' c', ha, hb, e, x => by
    have eg : g = g' := by simpa [PT.ptr] using e
    subst eg
    have e1 := ha.1.symm.trans hb.1
    have ec : nodeCells h k c = nodeCells h' k' c' := by simpa using e1
    have e2 : h = h' := by
      have := nodeCells_has h k c
      rw [ec, nodeCells_has] at this
      have : ((h' : Nat) : Int) = (h : Nat) := by simpa using this
      omega
    have e3 : ∀ i, i < 16 → (k i).ptr = (k' i).ptr := fun i hi => by
      have := nodeCells_kid h k c i hi
      rw [ec, nodeCells_kid _ _ _ i hi] at this
      simpa using this.symm
    have e4 : ∀ i, i < 16 → c i = c' i := fun i hi => by
      have := nodeCells_chunk h k c i hi
      rw [ec, nodeCells_chunk _ _ _ i hi] at this
      simpa using this.symm
    cases L with
    | zero => rw [get_node0, get_node0]; simp [PT.chunk, PT.has, e2, e4 _ (sl_lt 0 x)]
    | succ L => rw [get_nodeS, get_nodeS]; exact tr_get L _ _ (ha.2.2 _) (hb.2.2 _) (e3 _ (sl_lt _ _)) x

/-- The blocks that Diff yields. -/
theorem diffs_mem {T : Nat} {K : Fz} : ∀ (L : Nat) (a b : PT) (first : Nat), Tr T K a → Tr T K b → a.Wf L → b.Wf L → ∀ x, x ∈ diffs L a b first ↔ ∃ r, r < 16 ^ (L + 1) ∧ x = first + r ∧ a.get L r ≠ b.get L r
  | 0, a, b, first, ha, hb, wa, wb, x => by
    by_cases hp : a.ptr = b.ptr
    · rw [diffs_same _ _ _ _ hp]
      constructor
      · intro h; simp at h
      · rintro ⟨r, _, _, h⟩; exact (h (tr_get 0 a b ha hb hp r)).elim
    · unfold diffs
      rw [if_neg hp]
      simp only [List.mem_flatMap, List.mem_range]
      constructor
      · rintro ⟨i, hi, h⟩
        split at h
        · split at h
          · rename_i h2
            have hx : x = first + i := by simpa using h
            refine ⟨i, hi, hx, ?_⟩
            rw [get_low a hi, get_low b hi]
            intro e
            obtain ⟨e1, e2⟩ := Prod.mk.inj e
            rw [Nat.testBit_xor, e1, e2] at h2
            simp at h2
          · simp at h
        · simp at h
      · rintro ⟨i, hi, rfl, h⟩
        have hi : i < 16 := hi
        refine ⟨i, hi, ?_⟩
        rw [get_low a hi, get_low b hi] at h
        by_cases h1 : (a.has ||| b.has).testBit i = true
        · rw [if_pos h1]
          have h2 : ((a.has ^^^ b.has).testBit i || a.chunk i != b.chunk i) = true := by
            rw [Nat.testBit_xor]
            cases h3 : (a.has.testBit i ^^ b.has.testBit i) || a.chunk i != b.chunk i with
            | true => rfl
            | false =>
              exfalso
              apply h
              obtain ⟨h4, h5⟩ := or_off h3
              have h6 : a.chunk i = b.chunk i := by simpa using h5
              have h7 : a.has.testBit i = b.has.testBit i := by simpa using h4
              rw [h6, h7]
          rw [if_pos h2]; simp
        · exfalso
          apply h
          rw [Nat.testBit_or, Bool.not_eq_true] at h1
          obtain ⟨h2, h3⟩ := or_off h1
          rw [h2, h3, wa.off hi h2, wb.off hi h3]
  | L + 1, a, b, first, ha, hb, wa, wb, x => by
    by_cases hp : a.ptr = b.ptr
    · rw [diffs_same _ _ _ _ hp]
      constructor
      · intro h; simp at h
      · rintro ⟨r, _, _, h⟩; exact (h (tr_get _ a b ha hb hp r)).elim
    · unfold diffs
      rw [if_neg hp]
      simp only [List.mem_flatMap, List.mem_range]
      constructor
      · rintro ⟨i, hi, h⟩
        split at h
        · obtain ⟨r, hr, rfl, hne⟩ := (diffs_mem L _ _ _ (ha.kid i) (hb.kid i) (wa.kid i) (wb.kid i) x).1 h
          refine ⟨i * 16 ^ (L + 1) + r, ?_, by rw [Nat.add_assoc], ?_⟩
          · rw [Nat.pow_succ 16 (L + 1)]; exact pow_step _ _ _ hi hr
          · rw [get_kid a hi hr, get_kid b hi hr]; exact hne
        · simp at h
      · rintro ⟨q, hq, rfl, hne⟩
        have hM : 0 < 16 ^ (L + 1) := Nat.pow_pos (by omega)
        have hi : q / 16 ^ (L + 1) < 16 := by
          rw [Nat.div_lt_iff_lt_mul hM, Nat.mul_comm, ← Nat.pow_succ]; exact hq
        have hr : q % 16 ^ (L + 1) < 16 ^ (L + 1) := Nat.mod_lt _ hM
        have e : q / 16 ^ (L + 1) * 16 ^ (L + 1) + q % 16 ^ (L + 1) = q := Nat.div_add_mod' _ _
        rw [← e, get_kid a hi hr, get_kid b hi hr] at hne
        refine ⟨q / 16 ^ (L + 1), hi, ?_⟩
        by_cases h1 : (a.has ||| b.has).testBit (q / 16 ^ (L + 1)) = true
        · rw [if_pos h1]
          refine (diffs_mem L _ _ _ (ha.kid _) (hb.kid _) (wa.kid _) (wb.kid _) _).2 ⟨_, hr, ?_, hne⟩
          rw [Nat.add_assoc, e]
        · exfalso
          apply hne
          rw [Nat.testBit_or, Bool.not_eq_true] at h1
          obtain ⟨h2, h3⟩ := or_off h1
          rw [(wa.kid_nil hi).1 h2, (wb.kid_nil hi).1 h3]

theorem flat_srt {f : Nat → List Nat} {first M : Nat} : ∀ n, (∀ i, i < n → (f i).Pairwise (· < ·)) → (∀ i, i < n → ∀ x ∈ f i, first + i * M ≤ x ∧ x < first + i * M + M) → ((List.range n).flatMap f).Pairwise (· < ·)
  | 0, _, _ => by simp
  | n + 1, h1, h2 => by
    rw [List.range_succ, List.flatMap_append, List.pairwise_append]
    refine ⟨flat_srt n (fun i hi => h1 i (by omega)) (fun i hi => h2 i (by omega)), by simpa using h1 n (by omega), ?_⟩
    intro x hx y hy
    obtain ⟨i, hi, hx⟩ := List.mem_flatMap.1 hx
    rw [List.mem_range] at hi
    have h3 := h2 i (by omega) x hx
    have h4 := h2 n (by omega) y (by simpa using hy)
    have h5 : (i + 1) * M ≤ n * M := Nat.mul_le_mul_right _ hi
    rw [Nat.succ_mul] at h5
    omega
theorem diffs_srt {T : Nat} {K : Fz} : ∀ (L : Nat) (a b : PT) (first : Nat), Tr T K a → Tr T K b → a.Wf L → b.Wf L → (diffs L a b first).Pairwise (· < ·)
  | 0, a, b, first, ha, hb, wa, wb => by
    unfold diffs
    split
    · exact List.Pairwise.nil
    · refine flat_srt (first := first) (M := 1) 16 (fun i hi => ?_) (fun i hi x hx => ?_)
      · split
        · split <;> simp
        · simp
      · split at hx
        · split at hx
          · have : x = first + i := by simpa using hx
            omega
          · simp at hx
        · simp at hx
  | L + 1, a, b, first, ha, hb, wa, wb => by
    unfold diffs
    split
    · exact List.Pairwise.nil
    · refine flat_srt (first := first) (M := 16 ^ (L + 1)) 16 (fun i hi => ?_) (fun i hi x hx => ?_)
      · split
        · exact diffs_srt L _ _ _ (ha.kid i) (hb.kid i) (wa.kid i) (wb.kid i)
        · simp
      · split at hx
        · obtain ⟨r, hr, rfl, _⟩ := (diffs_mem L _ _ _ (ha.kid i) (hb.kid i) (wa.kid i) (wb.kid i) x).1 hx
          omega
        · simp at hx

/-- The blocks that two lists do not map alike. -/
def dif (A B : Ents) : List Nat := (List.range 4096).filter fun n => decide (rget A (n : Nat) ≠ rget B (n : Nat))
theorem dif_self (A : Ents) : dif A A = [] := by simp [dif]
theorem dif_len (A B : Ents) : (dif A B).length ≤ 4096 := by
  have := List.length_filter_le (fun n : Nat => decide (rget A (n : Nat) ≠ rget B (n : Nat))) (List.range 4096)
  rw [List.length_range] at this
  exact this
theorem Rep.dif {T : Nat} {K : Fz} {a b : PT} {na nb : Int} {A B : Ents} (ha : Rep a na A) (hb : Rep b nb B) (hTa : Tr T K a) (hTb : Tr T K b) :
    diffs 2 a b 0 = Go.Proofs.YtdaagmhkhfcmdaaDoor.dif A B := by
  have hsrt := diffs_srt 2 a b 0 hTa hTb ha.wf hb.wf
  have h2 : (Go.Proofs.YtdaagmhkhfcmdaaDoor.dif A B).Pairwise (· < ·) := List.Pairwise.filter _ List.pairwise_lt_range
  refine sorted_ext (fun x : Nat => (x : Int)) _ _ (hsrt.imp fun h => by omega) (h2.imp fun h => by omega) fun z => ?_
  unfold Go.Proofs.YtdaagmhkhfcmdaaDoor.dif
  rw [List.mem_filter, List.mem_range, decide_eq_true_iff, ← ha.look, ← hb.look]
  constructor
  · intro hx
    obtain ⟨r, hr, rfl, hne⟩ := (diffs_mem 2 a b 0 hTa hTb ha.wf hb.wf z).1 hx
    have hr : r < 4096 := hr
    have hv : 0 ≤ ((0 + r : Nat) : Int) ∧ ((0 + r : Nat) : Int) < 4096 := by omega
    refine ⟨by omega, ?_⟩
    unfold PT.look
    rw [if_pos hv, if_pos hv]
    simpa using hne
  · rintro ⟨hz, hne⟩
    have hv : 0 ≤ ((z : Nat) : Int) ∧ ((z : Nat) : Int) < 4096 := by omega
    unfold PT.look at hne
    rw [if_pos hv, if_pos hv] at hne
    exact (diffs_mem 2 a b 0 hTa hTb ha.wf hb.wf _).2 ⟨z, by have : (16 : Nat) ^ (2 + 1) = 4096 := rfl; omega, by omega, by simpa using hne⟩
end Go.Proofs.YtdaagmhkhfcmdaaDoor
/- Diff: the blocks in which two snapshots differ. Written by gen_VolDf.py. -/
namespace Go.Proofs.YtdaagmhkhfcmdaaDoor
open Go Go.RowKit
set_option maxHeartbeats 400000

def difE (o p : Option AP) : List Nat × Int := match o, p with
  | some a, some b => (dif a.L b.L, 0)
  | _, _ => ([], 12)
/-- What Diff says: the blocks, or none and the error. -/
def Asp.diff (A : Asp) (x y : Int) : List Nat × Int := difE (lk AP.id A.ss x) (lk AP.id A.ss y)
def DifR (r : List Nat × Int) (K' : Fz) (u : Value) : Prop := ∃ v', u = .tuple #[v', .int .i64 r.2] ∧ SlK K' 1 encI v' r.1

set_option maxRecDepth 100000 in
set_option maxHeartbeats 4000000 in
theorem vDiff_ok (K : Fz) (v : Value) (A : Asp) (x1 x2 : Int) (w : World) (hK : K.In w) (hS : SpA K v A) (hG : Good A) (ht : Tab K) :
    Calls Tryd.prog 11 #[v, .int .i64 x1, .int .i64 x2] w (Ret K w (DifR (A.diff x1 x2))) := by
  obtain ⟨S, hSp, e1, e2, hR1, hR2⟩ := hS
  obtain rfl := Asp.eq_mk e1 e2
  clear e1 e2
  have hlen : S.ss.length ≤ 1000000 := by have := hG.s.len; simp only [List.length_map] at this; omega
  obtain ⟨g, T, sv, ss, rfl, hb, h1, h2, h3, h4, f1, f2⟩ := hSp
  have s := St.start hK
  have Hat := Lib.hid fun (x : Int) W K3 (hW : K3.In W) (hE : Ext K K3) => sAt_ok K3 ss S.ss x W hW (h2.keep hE) hlen
  have hle1 := ixN_le Snp.num S.ss x1
  have hle2 := ixN_le Snp.num S.ss x2
  have hix1 : ixN AP.id (S.ss.map Snp.abs) x1 = ixN Snp.num S.ss x1 := ixN_map _ _ _ _
  have hix2 : ixN AP.id (S.ss.map Snp.abs) x2 = ixN Snp.num S.ss x2 := ixN_map _ _ _ _
  have hres : Hid (Asp.diff ⟨S.vs.map Vol.abs, S.ss.map Snp.abs⟩ x1 x2 = difE ((S.ss.map Snp.abs)[ixN Snp.num S.ss x1]?) ((S.ss.map Snp.abs)[ixN Snp.num S.ss x2]?)) := Lib.hid (by
    show difE ((S.ss.map Snp.abs)[ixN AP.id (S.ss.map Snp.abs) x1]?) ((S.ss.map Snp.abs)[ixN AP.id (S.ss.map Snp.abs) x2]?) = _
    rw [hix1, hix2])
  have hi1 : ∃ i1, ixV Snp.num S.ss x1 = i1 := ⟨_, rfl⟩
  have hi2 : ∃ i2, ixV Snp.num S.ss x2 = i2 := ⟨_, rfl⟩
  obtain ⟨n1, hn1⟩ : ∃ n, ixN Snp.num S.ss x1 = n := ⟨_, rfl⟩
  obtain ⟨n2, hn2⟩ : ∃ n, ixN Snp.num S.ss x2 = n := ⟨_, rfl⟩
  rw [hn1, hn2] at hres
  rw [hn1] at hle1
  rw [hn2] at hle2
  obtain ⟨i1, hv1'⟩ := hi1
  obtain ⟨i2, hv2'⟩ := hi2
  have hv1 := Lib.hid hv1'
  have hv2 := Lib.hid hv2'
  rw [ixV, hn1] at hv1'
  rw [ixV, hn2] at hv2'
  obtain ⟨a, cap, rfl, hcap, hx⟩ := h2
  by_cases hlt1 : n1 < S.ss.length
  · rw [if_pos hlt1] at hv1'
    subst hv1'
    by_cases hlt2 : n2 < S.ss.length
    · rw [if_pos hlt2] at hv2'
      subst hv2'
      obtain ⟨y, hyn⟩ : ∃ y, S.ss[n1]? = some y := ⟨_, List.getElem?_eq_getElem hlt1⟩
      obtain ⟨z, hzn⟩ : ∃ y, S.ss[n2]? = some y := ⟨_, List.getElem?_eq_getElem hlt2⟩
      rw [List.getElem?_map, List.getElem?_map, hyn, hzn] at hres
      obtain ⟨b, off, cs, ty, fr, rfl, hkb, hj⟩ := hx n1 y hyn
      obtain ⟨b', off', cs', ty', fr', hbb, hkb', hj'⟩ := hx n2 z hzn
      cases hbb
      rw [hkb] at hkb'
      cases hkb'
      have hTy := h4 _ (List.mem_of_getElem? hyn)
      have hRy := hR2 _ (List.mem_of_getElem? hyn)
      have hTz := h4 _ (List.mem_of_getElem? hzn)
      have hRz := hR2 _ (List.mem_of_getElem? hzn)
      obtain ⟨⟨yi, yo, yt, yn, yL⟩, yf⟩ := y
      obtain ⟨⟨zi, zo, zt, zn, zL⟩, zf⟩ := z
      have hTy : Tr 122 K yt := hTy
      have hTz : Tr 122 K zt := hTz
      have hRy : Rep yt yn yL := hRy
      have hRz : Rep zt zn zL := hRz
      have hdif := hRy.dif hRz hTy hTz
      have HD := Lib.hid (fun W K3 (hW : K3.In W) (hE : Ext K K3) => Diff_ok yt zt yn zn K3 W hW (hTy.ext hE) (hTz.ext hE) (ht.ext hE) (by rw [hdif]; have := dif_len yL zL; omega))
      rw [hdif] at HD
      have Hy : Hid (∀ (j : Nat) (u : Value), [Value.pointer yt.ptr, .int .i64 yn][j]? = some u → cs[off + n1 * 5 + 2 + j]? = some u) := Lib.hid (by
        intro j u hu
        have := hj (j + 2) u (by
          rcases j with _ | _ | j
          · exact hu
          · exact hu
          · simp at hu)
        rw [← this]
        congr 1
        omega)
      have Hz : Hid (∀ (j : Nat) (u : Value), [Value.pointer zt.ptr, .int .i64 zn][j]? = some u → cs[off + n2 * 5 + 2 + j]? = some u) := Lib.hid (by
        intro j u hu
        have := hj' (j + 2) u (by
          rcases j with _ | _ | j
          · exact hu
          · exact hu
          · simp at hu)
        rw [← this]
        congr 1
        omega)
      have hp1 : decide ((n1 : Int) < 0) = false := by simp
      have hp2 : decide ((n2 : Int) < 0) = false := by simp
      clear hx hj hj' hyn hzn h1 h3 h4 f1 f2 hn1 hn2 hix1 hix2 hR1 hR2 hdif hTy hTz hRy hRz ht
      go_enter Tryd.func11, Tryd.ntmps11
      go_wp2
      refine wp_region_runL (m := 14) (n := 47) (I := fun _ K2 W2 => St K w K2 W2) (K0 := K)
        (ws := [.is (.pointer (some ⟨g, 0, none⟩)), .is (.pointer (some ⟨g, 0, none⟩)), .is (.pointer (some ⟨g, 1, none⟩)), .is (.slice (some ⟨b, off, none⟩) S.ss.length cap), .is (.int .i64 x1), .is (.int .i64 (n1 : Nat)), .is (.pointer (some ⟨g, 0, none⟩)), .is (.pointer (some ⟨g, 0, none⟩)), .is (.pointer (some ⟨g, 1, none⟩)), .is (.slice (some ⟨b, off, none⟩) S.ss.length cap), .is (.int .i64 x2), .is (.int .i64 (n2 : Nat)), .is (.int .i64 (n1 : Nat)), .is (.int .i64 (n2 : Nat))])
        mixed_ok (by kernel_rfl) rfl rfl ?monoa s.drew ?_
      case monoa =>
        simp only [List.forall_mem_cons]
        exact ⟨trivial, trivial, trivial, trivial, trivial, trivial, trivial, trivial, trivial, trivial, trivial, trivial, trivial, trivial, fun _ h => by cases h⟩
      apply RunAllL.is_
      · intro L3 K3 W3 hL3 hE3 hI3 hF3
        go_wp2
        exact step_end ⟨⟨K3, Gh.refl _, hI3⟩, rfl⟩
      · rfl
      apply RunAllL.is_
      · intro L3 K3 W3 hL3 hE3 hI3 hF3
        go_wp2
        exact step_end ⟨⟨K3, Gh.refl _, hI3⟩, rfl⟩
      · rfl
      apply RunAllL.is_
      · intro L3 K3 W3 hL3 hE3 hI3 hF3
        go_wp2
        exact step_end ⟨⟨K3, Gh.refl _, hI3⟩, rfl⟩
      · rfl
      apply RunAllL.is_
      · intro L3 K3 W3 hL3 hE3 hI3 hF3
        go_wp2_with (first | ((with_reducible refine gate_load (T := 48) ?_); refine wpList_loadCell rfl rfl rfl Tryd.underlying48 rfl (hI3.inn.get (hE3 _ _ hb)) rfl ?_) | fail)
        exact step_end ⟨⟨K3, Gh.refl _, hI3⟩, rfl⟩
      · rfl
      apply RunAllL.is_
      · intro L3 K3 W3 hL3 hE3 hI3 hF3
        go_wp2
        exact step_end ⟨⟨K3, Gh.refl _, hI3⟩, rfl⟩
      · rfl
      apply RunAllL.is_
      · intro L3 K3 W3 hL3 hE3 hI3 hF3
        go_wp2_with (first | (go_at_call 25; refine (Hat.out x1 _ _ hI3.inn hE3).mono ?_; rw [hv1.out]; rintro e W4 ⟨rfl, hb4⟩) | fail)
        exact step_end ⟨⟨K3, Gh.refl _, hI3.quiet hb4⟩, rfl⟩
      · rfl
      apply RunAllL.is_
      · intro L3 K3 W3 hL3 hE3 hI3 hF3
        go_wp2
        exact step_end ⟨⟨K3, Gh.refl _, hI3⟩, rfl⟩
      · rfl
      apply RunAllL.is_
      · intro L3 K3 W3 hL3 hE3 hI3 hF3
        go_wp2
        exact step_end ⟨⟨K3, Gh.refl _, hI3⟩, rfl⟩
      · rfl
      apply RunAllL.is_
      · intro L3 K3 W3 hL3 hE3 hI3 hF3
        go_wp2
        exact step_end ⟨⟨K3, Gh.refl _, hI3⟩, rfl⟩
      · rfl
      apply RunAllL.is_
      · intro L3 K3 W3 hL3 hE3 hI3 hF3
        go_wp2_with (first | ((with_reducible refine gate_load (T := 48) ?_); refine wpList_loadCell rfl rfl rfl Tryd.underlying48 rfl (hI3.inn.get (hE3 _ _ hb)) rfl ?_) | fail)
        exact step_end ⟨⟨K3, Gh.refl _, hI3⟩, rfl⟩
      · rfl
      apply RunAllL.is_
      · intro L3 K3 W3 hL3 hE3 hI3 hF3
        go_wp2
        exact step_end ⟨⟨K3, Gh.refl _, hI3⟩, rfl⟩
      · rfl
      apply RunAllL.is_
      · intro L3 K3 W3 hL3 hE3 hI3 hF3
        go_wp2_with (first | (go_at_call 25; refine (Hat.out x2 _ _ hI3.inn hE3).mono ?_; rw [hv2.out]; rintro e W4 ⟨rfl, hb4⟩) | fail)
        exact step_end ⟨⟨K3, Gh.refl _, hI3.quiet hb4⟩, rfl⟩
      · rfl
      apply RunAllL.is_
      · intro L3 K3 W3 hL3 hE3 hI3 hF3
        go_wp2
        exact step_end ⟨⟨K3, Gh.refl _, hI3⟩, rfl⟩
      · rfl
      apply RunAllL.is_
      · intro L3 K3 W3 hL3 hE3 hI3 hF3
        go_wp2
        exact step_end ⟨⟨K3, Gh.refl _, hI3⟩, rfl⟩
      · rfl
      intro L0 K0 W0 hL0 hE0 hI0 hF0
      have s := hI0
      go_wp2
      refine wp_region_runL (m := 21) (n := 47) (I := fun _ K2 W2 => St K w K2 W2) (K0 := K0)
        (ws := [.is (.pointer (some ⟨g, 0, none⟩)), .is (.pointer (some ⟨g, 0, none⟩)), .is (.pointer (some ⟨g, 1, none⟩)), .is (.slice (some ⟨b, off, none⟩) S.ss.length cap), .is (.int .i64 ((n1 : Nat) : Int)), .is (.pointer (some ⟨b, off + n1 * 5, none⟩)), .is (.pointer (some ⟨b, off + n1 * 5, none⟩)), .is (.pointer (some ⟨b, off + n1 * 5 + 2, none⟩)), .is (.agg #[.pointer yt.ptr, .int .i64 yn]), .is (.pointer (some ⟨g, 0, none⟩)), .is (.pointer (some ⟨g, 0, none⟩)), .is (.pointer (some ⟨g, 1, none⟩)), .is (.slice (some ⟨b, off, none⟩) S.ss.length cap), .is (.int .i64 ((n2 : Nat) : Int)), .is (.pointer (some ⟨b, off + n2 * 5, none⟩)), .is (.pointer (some ⟨b, off + n2 * 5, none⟩)), .is (.pointer (some ⟨b, off + n2 * 5 + 2, none⟩)), .is (.agg #[.pointer zt.ptr, .int .i64 zn]), .sat (fun K2 v => SlK K2 1 encI v (dif yL zL)), .sat (fun K2 v => SlK K2 1 encI v (dif yL zL)), .is (.int .i64 0)])
        mixed_ok (by kernel_rfl) rfl rfl ?monob s.drew ?_
      case monob =>
        simp only [List.forall_mem_cons]
        exact ⟨trivial, trivial, trivial, trivial, trivial, trivial, trivial, trivial, trivial, trivial, trivial, trivial, trivial, trivial, trivial, trivial, trivial, trivial, fun _ _ _ hE h => h.keep hE, fun _ _ _ hE h => h.keep hE, trivial, fun _ h => by cases h⟩
      apply RunAllL.is_
      · intro L3 K3 W3 hL3 hE3 hI3 hF3
        go_wp2
        exact step_end ⟨⟨K3, Gh.refl _, hI3⟩, rfl⟩
      · rfl
      apply RunAllL.is_
      · intro L3 K3 W3 hL3 hE3 hI3 hF3
        go_wp2
        exact step_end ⟨⟨K3, Gh.refl _, hI3⟩, rfl⟩
      · rfl
      apply RunAllL.is_
      · intro L3 K3 W3 hL3 hE3 hI3 hF3
        go_wp2
        exact step_end ⟨⟨K3, Gh.refl _, hI3⟩, rfl⟩
      · rfl
      apply RunAllL.is_
      · intro L3 K3 W3 hL3 hE3 hI3 hF3
        go_wp2_with (first | ((with_reducible refine gate_load (T := 48) ?_); refine wpList_loadCell rfl rfl rfl Tryd.underlying48 rfl (hI3.inn.get (hE3 _ _ (hE0 _ _ hb))) rfl ?_) | fail)
        exact step_end ⟨⟨K3, Gh.refl _, hI3⟩, rfl⟩
      · rfl
      apply RunAllL.is_
      · intro L3 K3 W3 hL3 hE3 hI3 hF3
        go_wp2
        exact step_end ⟨⟨K3, Gh.refl _, hI3⟩, rfl⟩
      · rfl
      apply RunAllL.is_
      · intro L3 K3 W3 hL3 hE3 hI3 hF3
        go_wp2
        exact step_end ⟨⟨K3, Gh.refl _, hI3⟩, rfl⟩
      · rfl
      apply RunAllL.is_
      · intro L3 K3 W3 hL3 hE3 hI3 hF3
        go_wp2
        exact step_end ⟨⟨K3, Gh.refl _, hI3⟩, rfl⟩
      · rfl
      apply RunAllL.is_
      · intro L3 K3 W3 hL3 hE3 hI3 hF3
        go_wp2
        exact step_end ⟨⟨K3, Gh.refl _, hI3⟩, rfl⟩
      · rfl
      apply RunAllL.is_
      · intro L3 K3 W3 hL3 hE3 hI3 hF3
        go_wp2_with (first | ((with_reducible refine gate_load (T := 60) ?_); refine wpList_loadAggW (vs := [.pointer yt.ptr, .int .i64 yn]) (off := off + n1 * 5 + 2) rfl rfl rfl Tryd.underlying60 rfl (hI3.inn.get (hE3 _ _ (hE0 _ _ hkb))) (by rw [size_Tree]; rfl) (fun j u hu => Hy.out j u hu) ?_) | fail)
        exact step_end ⟨⟨K3, Gh.refl _, hI3⟩, rfl⟩
      · rfl
      apply RunAllL.is_
      · intro L3 K3 W3 hL3 hE3 hI3 hF3
        go_wp2
        exact step_end ⟨⟨K3, Gh.refl _, hI3⟩, rfl⟩
      · rfl
      apply RunAllL.is_
      · intro L3 K3 W3 hL3 hE3 hI3 hF3
        go_wp2
        exact step_end ⟨⟨K3, Gh.refl _, hI3⟩, rfl⟩
      · rfl
      apply RunAllL.is_
      · intro L3 K3 W3 hL3 hE3 hI3 hF3
        go_wp2
        exact step_end ⟨⟨K3, Gh.refl _, hI3⟩, rfl⟩
      · rfl
      apply RunAllL.is_
      · intro L3 K3 W3 hL3 hE3 hI3 hF3
        go_wp2_with (first | ((with_reducible refine gate_load (T := 48) ?_); refine wpList_loadCell rfl rfl rfl Tryd.underlying48 rfl (hI3.inn.get (hE3 _ _ (hE0 _ _ hb))) rfl ?_) | fail)
        exact step_end ⟨⟨K3, Gh.refl _, hI3⟩, rfl⟩
      · rfl
      apply RunAllL.is_
      · intro L3 K3 W3 hL3 hE3 hI3 hF3
        go_wp2
        exact step_end ⟨⟨K3, Gh.refl _, hI3⟩, rfl⟩
      · rfl
      apply RunAllL.is_
      · intro L3 K3 W3 hL3 hE3 hI3 hF3
        go_wp2
        exact step_end ⟨⟨K3, Gh.refl _, hI3⟩, rfl⟩
      · rfl
      apply RunAllL.is_
      · intro L3 K3 W3 hL3 hE3 hI3 hF3
        go_wp2
        exact step_end ⟨⟨K3, Gh.refl _, hI3⟩, rfl⟩
      · rfl
      apply RunAllL.is_
      · intro L3 K3 W3 hL3 hE3 hI3 hF3
        go_wp2
        exact step_end ⟨⟨K3, Gh.refl _, hI3⟩, rfl⟩
      · rfl
      apply RunAllL.is_
      · intro L3 K3 W3 hL3 hE3 hI3 hF3
        go_wp2_with (first | ((with_reducible refine gate_load (T := 60) ?_); refine wpList_loadAggW (vs := [.pointer zt.ptr, .int .i64 zn]) (off := off + n2 * 5 + 2) rfl rfl rfl Tryd.underlying60 rfl (hI3.inn.get (hE3 _ _ (hE0 _ _ hkb))) (by rw [size_Tree]; rfl) (fun j u hu => Hz.out j u hu) ?_) | fail)
        exact step_end ⟨⟨K3, Gh.refl _, hI3⟩, rfl⟩
      · rfl
      apply RunAllL.sat_
      · intro L3 K3 W3 hL3 hE3 hI3 hF3
        go_wp2_with (first | (go_at_call 29; refine (HD.out _ _ hI3.inn (hE0.trans hE3)).mono ?_; rintro e W5 ⟨v6, K6, rfl, hi, hl, hb6, hx6, hE6⟩) | fail)
        exact step_end ⟨v6, K6, hE6, hI3.call hi hl hb6, rfl, hx6⟩
      · intro v; rfl
      intro v18
      refine RunAllL.sat_ ?h1b (fun v => rfl) ?h3b
      case h1b =>
        intro L3 K3 W3 hL3 hE3 hI3 hF3
        have hsp := hF3.2 rfl
        clear hF3
        go_wp2
        exact step_end ⟨_, K3, Gh.refl _, hI3, rfl, hsp⟩
      intro v19
      simp only [Act.put, Array.setIfInBounds, List.size_toArray, List.length_cons, List.length_nil]
      apply RunAllL.is_
      · intro L3 K3 W3 hL3 hE3 hI3 hF3
        go_wp2
        exact step_end ⟨⟨K3, Gh.refl _, hI3⟩, rfl⟩
      · rfl
      intro L9 K9 W9 hL9 hE9 hI9 hF9
      have hx9 := hF9.2
      have s := hI9
      change wpList _ _ _ List.nil _ _
      go_wp2
      go_ret2
      rw [hres.out]
      exact s.ret ⟨_, rfl, hx9⟩
    · rw [if_neg hlt2] at hv2'
      subst hv2'
      have hnone : S.ss[n2]? = none := List.getElem?_eq_none (by omega)
      have hres2 : Hid (Asp.diff ⟨S.vs.map Vol.abs, S.ss.map Snp.abs⟩ x1 x2 = ([], 12)) := Lib.hid (by
        rw [hres.out, List.getElem?_map, List.getElem?_map, hnone]
        cases S.ss[n1]? <;> rfl)
      have hp1 : decide ((n1 : Int) < 0) = false := by simp
      clear hx h1 h3 h4 f1 f2 hn1 hn2 hix1 hix2 hR1 hR2 hnone hres
      go_enter Tryd.func11, Tryd.ntmps11
      go_wp2
      refine wp_region_runL (m := 14) (n := 47) (I := fun _ K2 W2 => St K w K2 W2) (K0 := K)
        (ws := [.is (.pointer (some ⟨g, 0, none⟩)), .is (.pointer (some ⟨g, 0, none⟩)), .is (.pointer (some ⟨g, 1, none⟩)), .is (.slice a S.ss.length cap), .is (.int .i64 x1), .is (.int .i64 (n1 : Nat)), .is (.pointer (some ⟨g, 0, none⟩)), .is (.pointer (some ⟨g, 0, none⟩)), .is (.pointer (some ⟨g, 1, none⟩)), .is (.slice a S.ss.length cap), .is (.int .i64 x2), .is (.int .i64 (-1)), .is (.int .i64 (n1 : Nat)), .is (.int .i64 (-1))])
        mixed_ok (by kernel_rfl) rfl rfl ?monoa s.drew ?_
      case monoa =>
        simp only [List.forall_mem_cons]
        exact ⟨trivial, trivial, trivial, trivial, trivial, trivial, trivial, trivial, trivial, trivial, trivial, trivial, trivial, trivial, fun _ h => by cases h⟩
      apply RunAllL.is_
      · intro L3 K3 W3 hL3 hE3 hI3 hF3
        go_wp2
        exact step_end ⟨⟨K3, Gh.refl _, hI3⟩, rfl⟩
      · rfl
      apply RunAllL.is_
      · intro L3 K3 W3 hL3 hE3 hI3 hF3
        go_wp2
        exact step_end ⟨⟨K3, Gh.refl _, hI3⟩, rfl⟩
      · rfl
      apply RunAllL.is_
      · intro L3 K3 W3 hL3 hE3 hI3 hF3
        go_wp2
        exact step_end ⟨⟨K3, Gh.refl _, hI3⟩, rfl⟩
      · rfl
      apply RunAllL.is_
      · intro L3 K3 W3 hL3 hE3 hI3 hF3
        go_wp2_with (first | ((with_reducible refine gate_load (T := 48) ?_); refine wpList_loadCell rfl rfl rfl Tryd.underlying48 rfl (hI3.inn.get (hE3 _ _ hb)) rfl ?_) | fail)
        exact step_end ⟨⟨K3, Gh.refl _, hI3⟩, rfl⟩
      · rfl
      apply RunAllL.is_
      · intro L3 K3 W3 hL3 hE3 hI3 hF3
        go_wp2
        exact step_end ⟨⟨K3, Gh.refl _, hI3⟩, rfl⟩
      · rfl
      apply RunAllL.is_
      · intro L3 K3 W3 hL3 hE3 hI3 hF3
        go_wp2_with (first | (go_at_call 25; refine (Hat.out x1 _ _ hI3.inn hE3).mono ?_; rw [hv1.out]; rintro e W4 ⟨rfl, hb4⟩) | fail)
        exact step_end ⟨⟨K3, Gh.refl _, hI3.quiet hb4⟩, rfl⟩
      · rfl
      apply RunAllL.is_
      · intro L3 K3 W3 hL3 hE3 hI3 hF3
        go_wp2
        exact step_end ⟨⟨K3, Gh.refl _, hI3⟩, rfl⟩
      · rfl
      apply RunAllL.is_
      · intro L3 K3 W3 hL3 hE3 hI3 hF3
        go_wp2
        exact step_end ⟨⟨K3, Gh.refl _, hI3⟩, rfl⟩
      · rfl
      apply RunAllL.is_
      · intro L3 K3 W3 hL3 hE3 hI3 hF3
        go_wp2
        exact step_end ⟨⟨K3, Gh.refl _, hI3⟩, rfl⟩
      · rfl
      apply RunAllL.is_
      · intro L3 K3 W3 hL3 hE3 hI3 hF3
        go_wp2_with (first | ((with_reducible refine gate_load (T := 48) ?_); refine wpList_loadCell rfl rfl rfl Tryd.underlying48 rfl (hI3.inn.get (hE3 _ _ hb)) rfl ?_) | fail)
        exact step_end ⟨⟨K3, Gh.refl _, hI3⟩, rfl⟩
      · rfl
      apply RunAllL.is_
      · intro L3 K3 W3 hL3 hE3 hI3 hF3
        go_wp2
        exact step_end ⟨⟨K3, Gh.refl _, hI3⟩, rfl⟩
      · rfl
      apply RunAllL.is_
      · intro L3 K3 W3 hL3 hE3 hI3 hF3
        go_wp2_with (first | (go_at_call 25; refine (Hat.out x2 _ _ hI3.inn hE3).mono ?_; rw [hv2.out]; rintro e W4 ⟨rfl, hb4⟩) | fail)
        exact step_end ⟨⟨K3, Gh.refl _, hI3.quiet hb4⟩, rfl⟩
      · rfl
      apply RunAllL.is_
      · intro L3 K3 W3 hL3 hE3 hI3 hF3
        go_wp2
        exact step_end ⟨⟨K3, Gh.refl _, hI3⟩, rfl⟩
      · rfl
      apply RunAllL.is_
      · intro L3 K3 W3 hL3 hE3 hI3 hF3
        go_wp2
        exact step_end ⟨⟨K3, Gh.refl _, hI3⟩, rfl⟩
      · rfl
      intro L0 K0 W0 hL0 hE0 hI0 hF0
      have s := hI0
      go_wp2
      go_ret2
      rw [hres2.out]
      exact s.ret ⟨_, rfl, SlK.nil _ _ _ _ _⟩
  · rw [if_neg hlt1] at hv1'
    subst hv1'
    have hnone : S.ss[n1]? = none := List.getElem?_eq_none (by omega)
    have hres2 : Hid (Asp.diff ⟨S.vs.map Vol.abs, S.ss.map Snp.abs⟩ x1 x2 = ([], 12)) := Lib.hid (by
      rw [hres.out, List.getElem?_map, List.getElem?_map, hnone]
      rfl)
    clear hx h1 h3 h4 f1 f2 hn1 hn2 hix1 hix2 hR1 hR2 hnone hres hv2'
    go_enter Tryd.func11, Tryd.ntmps11
    go_wp2
    refine wp_region_runL (m := 14) (n := 47) (I := fun _ K2 W2 => St K w K2 W2) (K0 := K)
      (ws := [.is (.pointer (some ⟨g, 0, none⟩)), .is (.pointer (some ⟨g, 0, none⟩)), .is (.pointer (some ⟨g, 1, none⟩)), .is (.slice a S.ss.length cap), .is (.int .i64 x1), .is (.int .i64 (-1)), .is (.pointer (some ⟨g, 0, none⟩)), .is (.pointer (some ⟨g, 0, none⟩)), .is (.pointer (some ⟨g, 1, none⟩)), .is (.slice a S.ss.length cap), .is (.int .i64 x2), .is (.int .i64 i2), .is (.int .i64 (-1)), .is (.int .i64 i2)])
      mixed_ok (by kernel_rfl) rfl rfl ?monoa s.drew ?_
    case monoa =>
      simp only [List.forall_mem_cons]
      exact ⟨trivial, trivial, trivial, trivial, trivial, trivial, trivial, trivial, trivial, trivial, trivial, trivial, trivial, trivial, fun _ h => by cases h⟩
    apply RunAllL.is_
    · intro L3 K3 W3 hL3 hE3 hI3 hF3
      go_wp2
      exact step_end ⟨⟨K3, Gh.refl _, hI3⟩, rfl⟩
    · rfl
    apply RunAllL.is_
    · intro L3 K3 W3 hL3 hE3 hI3 hF3
      go_wp2
      exact step_end ⟨⟨K3, Gh.refl _, hI3⟩, rfl⟩
    · rfl
    apply RunAllL.is_
    · intro L3 K3 W3 hL3 hE3 hI3 hF3
      go_wp2
      exact step_end ⟨⟨K3, Gh.refl _, hI3⟩, rfl⟩
    · rfl
    apply RunAllL.is_
    · intro L3 K3 W3 hL3 hE3 hI3 hF3
      go_wp2_with (first | ((with_reducible refine gate_load (T := 48) ?_); refine wpList_loadCell rfl rfl rfl Tryd.underlying48 rfl (hI3.inn.get (hE3 _ _ hb)) rfl ?_) | fail)
      exact step_end ⟨⟨K3, Gh.refl _, hI3⟩, rfl⟩
    · rfl
    apply RunAllL.is_
    · intro L3 K3 W3 hL3 hE3 hI3 hF3
      go_wp2
      exact step_end ⟨⟨K3, Gh.refl _, hI3⟩, rfl⟩
    · rfl
    apply RunAllL.is_
    · intro L3 K3 W3 hL3 hE3 hI3 hF3
      go_wp2_with (first | (go_at_call 25; refine (Hat.out x1 _ _ hI3.inn hE3).mono ?_; rw [hv1.out]; rintro e W4 ⟨rfl, hb4⟩) | fail)
      exact step_end ⟨⟨K3, Gh.refl _, hI3.quiet hb4⟩, rfl⟩
    · rfl
    apply RunAllL.is_
    · intro L3 K3 W3 hL3 hE3 hI3 hF3
      go_wp2
      exact step_end ⟨⟨K3, Gh.refl _, hI3⟩, rfl⟩
    · rfl
    apply RunAllL.is_
    · intro L3 K3 W3 hL3 hE3 hI3 hF3
      go_wp2
      exact step_end ⟨⟨K3, Gh.refl _, hI3⟩, rfl⟩
    · rfl
    apply RunAllL.is_
    · intro L3 K3 W3 hL3 hE3 hI3 hF3
      go_wp2
      exact step_end ⟨⟨K3, Gh.refl _, hI3⟩, rfl⟩
    · rfl
    apply RunAllL.is_
    · intro L3 K3 W3 hL3 hE3 hI3 hF3
      go_wp2_with (first | ((with_reducible refine gate_load (T := 48) ?_); refine wpList_loadCell rfl rfl rfl Tryd.underlying48 rfl (hI3.inn.get (hE3 _ _ hb)) rfl ?_) | fail)
      exact step_end ⟨⟨K3, Gh.refl _, hI3⟩, rfl⟩
    · rfl
    apply RunAllL.is_
    · intro L3 K3 W3 hL3 hE3 hI3 hF3
      go_wp2
      exact step_end ⟨⟨K3, Gh.refl _, hI3⟩, rfl⟩
    · rfl
    apply RunAllL.is_
    · intro L3 K3 W3 hL3 hE3 hI3 hF3
      go_wp2_with (first | (go_at_call 25; refine (Hat.out x2 _ _ hI3.inn hE3).mono ?_; rw [hv2.out]; rintro e W4 ⟨rfl, hb4⟩) | fail)
      exact step_end ⟨⟨K3, Gh.refl _, hI3.quiet hb4⟩, rfl⟩
    · rfl
    apply RunAllL.is_
    · intro L3 K3 W3 hL3 hE3 hI3 hF3
      go_wp2
      exact step_end ⟨⟨K3, Gh.refl _, hI3⟩, rfl⟩
    · rfl
    apply RunAllL.is_
    · intro L3 K3 W3 hL3 hE3 hI3 hF3
      go_wp2
      exact step_end ⟨⟨K3, Gh.refl _, hI3⟩, rfl⟩
    · rfl
    intro L0 K0 W0 hL0 hE0 hI0 hF0
    have s := hI0
    go_wp2
    go_ret2
    rw [hres2.out]
    exact s.ret ⟨_, rfl, SlK.nil _ _ _ _ _⟩
end Go.Proofs.YtdaagmhkhfcmdaaDoor
