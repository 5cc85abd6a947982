/- The law VolumeCounts. Written by gen_LwB.py. -/
import Derived.Test.YtdaagmhkhfcmdaaLvB
import Derived.Test.YtdaagmhkhfcmdaaVolW
namespace Go.Proofs.Ytdaagmhkhfcmdaa
open Go Go.RowKit
set_option maxHeartbeats 400000

theorem cntL_le (c : Int) : ∀ l : List AP, 0 ≤ cntL c l ∧ cntL c l ≤ tot l
  | [] => ⟨Int.le_refl _, Int.le_refl _⟩
  | a :: l => by
    have h := cntL_le c l
    have h0 : cntC c a.L ≤ a.L.length := List.countP_le_length
    simp only [cntL, tot, List.map_cons, List.sum_cons] at h ⊢
    omega
theorem upTo_bound {f : Int → Int} {B : Int} (h : ∀ c, 0 ≤ f c ∧ f c ≤ B) : ∀ n : Nat, 0 ≤ upTo f n ∧ upTo f n ≤ n * B
  | 0 => by simp [upTo]
  | n + 1 => by
    have h1 := upTo_bound h n
    have h2 := h n
    have e : ((n + 1 : Nat) : Int) * B = n * B + B := by rw [Int.natCast_add, Int.add_mul]; simp
    simp only [upTo]
    rw [e]
    omega
theorem sumE_take {L : Ents} (h : ∀ x ∈ L, 0 ≤ x.2) : ∀ i, 0 ≤ sumE (L.take i) ∧ sumE (L.take i) ≤ sumE L := by
  induction L with
  | nil => intro i; simp [sumE]
  | cons a l ih =>
    intro i
    have h0 := h a (by simp)
    cases i with
    | zero =>
      have := (ih (fun x hx => h x (by simp [hx])) l.length).1
      rw [List.take_length] at this
      have e : sumE (a :: l) = a.2 + sumE l := by simp [sumE]
      have e0 : sumE ((a :: l).take 0) = 0 := rfl
      rw [e, e0]
      omega
    | succ i =>
      have := ih (fun x hx => h x (by simp [hx])) i
      have e : sumE (a :: l) = a.2 + sumE l := by simp [sumE]
      have e2 : sumE ((a :: l).take (i + 1)) = a.2 + sumE (l.take i) := by simp [sumE]
      rw [e, e2]
      omega
theorem VolumesL_ok (K : Fz) (v : Value) (A : Asp) (w : World) (hK : K.In w) (hS : SpA K v A) (hG : Good A) :
    Calls Try.prog 15 #[v] w (Ret K w fun K' u => SlK K' 3 (fun a : AP => [.int .i64 a.id, .int .i64 a.ten, .int .i64 (a.L.length : Nat)]) u A.vs) :=
  (Volumes_list K v A w hK hS hG).mono fun _ _ h => Ret.mono (fun _ _ _ h => h.1) h
theorem SnapsL_ok (K : Fz) (v : Value) (A : Asp) (w : World) (hK : K.In w) (hS : SpA K v A) (hG : Good A) :
    Calls Try.prog 16 #[v] w (Ret K w fun K' u => SlK K' 4 (fun a : AP => [.int .i64 a.id, .int .i64 a.from_, .int .i64 a.ten, .int .i64 (a.L.length : Nat)]) u A.ss) :=
  (Snaps_list K v A w hK hS hG).mono fun _ _ h => Ret.mono (fun _ _ _ h => h.1) h

set_option maxRecDepth 100000 in
set_option maxHeartbeats 8000000 in
theorem Counts_ok (K : Fz) (sv : Value) (os : List Opn) (w : World) (hK : K.In w) (hS : SlK K 4 encP1 sv os) :
    Calls Try.prog 4 #[sv] w fun e w' => e = .returned (.bool true) ∧ Below w.heap.size w w' := by
  obtain ⟨a, cap, rfl, hcap, hx⟩ := hS
  have Hx := Lib.hid hx
  clear hx
  have s := St.start hK
  by_cases hlen : os.length ≤ 60
  · have hB : decide ((60 : Int) < (os.length : Nat)) = false := by simp; omega
    go_enter Try.func4, Try.ntmps4
    go_wp2_with (first | (go_at_call 10; refine (NewA_ok K _ s.inn).mono ?_; rintro e W1 ⟨v0, K1, rfl, hi, hl, hb, hS0⟩; have hE01 := Ext.of_le s.inn hl; replace s := s.call hi hl hb; clear hi hl hb) | fail)
    go_loopw [3, 4] (fun v vi wr => ∃ (i : Nat) (K3 : Fz) (A : Asp), i ≤ os.length ∧ vi = .int .i64 i ∧ St K w K3 wr ∧ Hid (Ext K1 K3) ∧ Hid (SpA K3 v A) ∧ Hid (Good A) ∧ Hid (Low 40 A)) (fun _ vi _ => os.length - (intOf vi).toNat)
    case atStart => exact ⟨0, K1, _, by omega, rfl, s, Lib.hid (Ext.refl _), Lib.hid hS0, Lib.hid Good.nil, Lib.hid (Low.nil _)⟩
    case round =>
      clear s hS0
      obtain ⟨i, K3, A, hi, rfl, s, hE3, hSA, hGA, hLA⟩ := hrel
      obtain ⟨g3, rfl⟩ := SpA.ptr hSA.out
      by_cases hlt : i < os.length
      · obtain ⟨o, ho⟩ : ∃ o, os[i]? = some o := ⟨_, List.getElem?_eq_getElem hlt⟩
        obtain ⟨b, off, cs, ty, fr, rfl, hk, hj⟩ := Hx.out i o ho
        have Hj := Lib.hid hj
        have hk3 := hE3.out _ _ (hE01 _ _ hk)
        have c3 := hj 3 _ rfl
        by_cases hin : 0 ≤ o.c ∧ o.c < 40
        · obtain ⟨hc0, hc1⟩ := hin
          obtain ⟨r, hr⟩ : ∃ r, A.step o = r := ⟨_, rfl⟩
          have hGr : Hid (Good r.1) := Lib.hid (by rw [← hr]; exact hGA.out.step o)
          have hLr : Hid (Low 40 r.1) := Lib.hid (by rw [← hr]; exact hLA.out.step ⟨hc0, hc1⟩)
          have Hr := Lib.hid hr
          obtain ⟨rA, r1, r2⟩ := r
          clear ho hj hk hr
          go_wp2_with (first
            | ((with_reducible refine gate_load (T := 3) ?_); refine wpList_loadCellW (off := off + i * 4 + 3) rfl rfl rfl Try.underlying3 rfl (s.inn.get hk3) c3 ?_)
            | ((with_reducible refine gate_load (T := 30) ?_); refine wpList_loadAgg (vs := encP1 o) (off := off + i * 4) rfl rfl rfl Try.underlying30 rfl (s.inn.get hk3) (by rw [size_LOp]; rfl) (fun j u hu => Hj.out j u hu) ?_)
            | (go_at_call 11; refine (do_at K3 _ _ o _ _ Hr.out s.inn hSA.out hGA.out).mono ?_; rintro e W6 ⟨u6, K6, rfl, hi6, hl6, hb6, v6, rfl, hS6⟩; have hE6 := Ext.of_le s.inn hl6; replace s := s.call hi6 hl6 hb6; have HS6 := Lib.hid hS6; clear hi6 hl6 hb6 hS6)
            | fail)
          go_roundw
          case rel => exact ⟨i + 1, K6, rA, by omega, by go_num, s, Lib.hid (hE3.out.trans hE6), HS6, hGr, hLr⟩
          case measure => simp [intOf]; omega
        · clear ho hj hk
          by_cases hc0 : 0 ≤ o.c
          · have hc1 : ¬ o.c < 40 := fun h => hin ⟨hc0, h⟩
            clear hin
            go_wp2_with (first
              | ((with_reducible refine gate_load (T := 3) ?_); refine wpList_loadCellW (off := off + i * 4 + 3) rfl rfl rfl Try.underlying3 rfl (s.inn.get hk3) c3 ?_)
              | fail)
            go_roundw
            case rel => exact ⟨i + 1, K3, A, by omega, by go_num, s, hE3, hSA, hGA, hLA⟩
            case measure => simp [intOf]; omega
          · clear hin
            go_wp2_with (first
              | ((with_reducible refine gate_load (T := 3) (x := .tmp 28) ?_); refine wpList_loadCellW (off := off + i * 4 + 3) rfl rfl rfl Try.underlying3 rfl (s.inn.get hk3) c3 ?_)
              | fail)
            go_roundw
            case rel => exact ⟨i + 1, K3, A, by omega, by go_num, s, hE3, hSA, hGA, hLA⟩
            case measure => simp [intOf]; omega
      · obtain rfl : i = os.length := by omega
        have hG := hGA.out
        have hl1 : ∀ x ∈ A.vs, x.L.length ≤ 4096 := fun x hx => goodE_len (hG.v.ents hx)
        have hl2 : ∀ x ∈ A.ss, x.L.length ≤ 4096 := fun x hx => goodE_len (hG.s.ents hx)
        have hn1 : A.vs.length ≤ 64 := hG.v.len
        have hn2 : A.ss.length ≤ 256 := hG.s.len
        have hbv : ∀ i, 0 ≤ tot (A.vs.take i) ∧ tot (A.vs.take i) ≤ 300000 := fun i => by
          have := tot_take hl1 i
          omega
        have hbs : ∀ i, 0 ≤ tot (A.ss.take i) ∧ tot (A.ss.take i) ≤ 2000000 := fun i => by
          have := tot_take hl2 i
          omega
        have htv : 0 ≤ tot A.vs ∧ tot A.vs ≤ 300000 := by have := hbv A.vs.length; rwa [List.take_length] at this
        have hts : 0 ≤ tot A.ss ∧ tot A.ss ≤ 2000000 := by have := hbs A.ss.length; rwa [List.take_length] at this
        have Hbv := Lib.hid hbv
        have Hbs := Lib.hid hbs
        have Hl1 := Lib.hid hl1
        have Hl2 := Lib.hid hl2
        have Hend := Lib.hid (upTo_all hG hLA.out)
        have hE3' := hE3.out
        have Hf : Hid (∀ c : Int, 0 ≤ sumN (A.cnt c) 16 ∧ sumN (A.cnt c) 16 ≤ 2300000) := Lib.hid fun c => by
          have h1 := cntL_le c A.vs
          have h2 := cntL_le c A.ss
          rw [sumN_cnt hG]
          omega
        clear hbv hbs hl1 hl2 hE3 hGA hLA Hx
        go_wp2_with (first
          | (go_at_call 15; refine (VolumesL_ok K3 _ A _ s.inn hSA.out hG).mono ?_; rintro e W5 ⟨u5, K5, rfl, hi, hl, hb, ⟨a5, cap5, rfl, hcap5, hx5⟩⟩; have hE5 := Ext.of_le s.inn hl; replace s := s.call hi hl hb; clear hi hl hb)
          | fail)
        have Hx5 := Lib.hid hx5
        clear hx5
        go_loopw [5, 7] (fun vb vi wr => ∃ i : Nat, i ≤ A.vs.length ∧ vb = .int .i64 (tot (A.vs.take i)) ∧ vi = .int .i64 i ∧ St K w K5 wr) (fun _ vi _ => A.vs.length - (intOf vi).toNat)
        case atStart => exact ⟨0, by omega, rfl, rfl, s⟩
        case round =>
          clear s
          obtain ⟨i, hi, rfl, rfl, s⟩ := hrel
          by_cases hlt : i < A.vs.length
          · obtain ⟨y, hy⟩ : ∃ y, A.vs[i]? = some y := ⟨_, List.getElem?_eq_getElem hlt⟩
            obtain ⟨b, off, cs, ty, fr, rfl, hk, hj⟩ := Hx5.out i y hy
            have c2 := hj 2 _ rfl
            have hyl := Hl1.out y (List.mem_of_getElem? hy)
            have hnext : Hid (tot (A.vs.take (i + 1)) = tot (A.vs.take i) + (y.L.length : Nat)) := Lib.hid (by rw [List.take_add_one, hy, Option.toList_some, tot_snoc])
            have hbd := Hbv.out i
            obtain ⟨T, hT⟩ : ∃ T, tot (A.vs.take i) = T := ⟨_, rfl⟩
            rw [hT] at hnext hbd ⊢
            have hw : IntKind.i64.wrap (T + (y.L.length : Nat)) = T + (y.L.length : Nat) := by rw [IntKind.wrap_i64]; omega
            clear hy hj hT
            go_wp2_with (first
              | ((with_reducible refine gate_load (T := 3) ?_); refine wpList_loadCell (off := off + i * 3 + 2) rfl rfl rfl Try.underlying3 rfl (s.inn.get hk) c2 ?_)
              | fail)
            go_roundw
            case rel => exact ⟨i + 1, by omega, by rw [hnext.out], by go_num, s⟩
            case measure => simp [intOf]; omega
          · obtain rfl : i = A.vs.length := by omega
            rw [List.take_length]
            obtain ⟨TV, hTV⟩ : ∃ TV, tot A.vs = TV := ⟨_, rfl⟩
            have HTV := Lib.hid hTV
            rw [hTV] at htv Hend ⊢
            clear hTV Hx5
            go_wp2_with (first
              | (go_at_call 16; refine (SnapsL_ok K5 _ A _ s.inn (hSA.out.ext hE5) hG).mono ?_; rintro e W7 ⟨u7, K7, rfl, hi, hl, hb, ⟨a7, cap7, rfl, hcap7, hx7⟩⟩; have hE7 := Ext.of_le s.inn hl; replace s := s.call hi hl hb; clear hi hl hb)
              | fail)
            have Hx7 := Lib.hid hx7
            clear hx7
            go_loopw [5, 9] (fun vb vi wr => ∃ i : Nat, i ≤ A.ss.length ∧ vb = .int .i64 (TV + tot (A.ss.take i)) ∧ vi = .int .i64 i ∧ St K w K7 wr) (fun _ vi _ => A.ss.length - (intOf vi).toNat)
            case atStart => exact ⟨0, by omega, by simp [tot_nil], rfl, s⟩
            case round =>
              clear s
              obtain ⟨i, hi, rfl, rfl, s⟩ := hrel
              by_cases hlt : i < A.ss.length
              · obtain ⟨y, hy⟩ : ∃ y, A.ss[i]? = some y := ⟨_, List.getElem?_eq_getElem hlt⟩
                obtain ⟨b, off, cs, ty, fr, rfl, hk, hj⟩ := Hx7.out i y hy
                have c3 := hj 3 _ rfl
                have hyl := Hl2.out y (List.mem_of_getElem? hy)
                have hnext : Hid (TV + tot (A.ss.take (i + 1)) = TV + tot (A.ss.take i) + (y.L.length : Nat)) := Lib.hid (by rw [List.take_add_one, hy, Option.toList_some, tot_snoc]; omega)
                have hbd := Hbs.out i
                obtain ⟨T, hT⟩ : ∃ T, TV + tot (A.ss.take i) = T := ⟨_, rfl⟩
                have hbd2 : 0 ≤ T ∧ T ≤ 2300000 := by omega
                rw [hT] at hnext ⊢
                have hw : IntKind.i64.wrap (T + (y.L.length : Nat)) = T + (y.L.length : Nat) := by rw [IntKind.wrap_i64]; omega
                clear hy hj hT hbd
                go_wp2_with (first
                  | ((with_reducible refine gate_load (T := 3) ?_); refine wpList_loadCell (off := off + i * 4 + 3) rfl rfl rfl Try.underlying3 rfl (s.inn.get hk) c3 ?_)
                  | fail)
                go_roundw
                case rel => exact ⟨i + 1, by omega, by rw [hnext.out], by go_num, s⟩
                case measure => simp [intOf]; omega
              · obtain rfl : i = A.ss.length := by omega
                rw [List.take_length]
                obtain ⟨TS, hTS⟩ : ∃ TS, TV + tot A.ss = TS := ⟨_, rfl⟩
                rw [hTS] at Hend ⊢
                clear hTS Hx7 htv hts
                go_wp2
                go_loopw [10, 11] (fun vs vc wr => ∃ (c : Nat) (K8 : Fz), c ≤ 40 ∧ vs = .int .i64 (upTo (fun c => sumN (A.cnt c) 16) c) ∧ vc = .int .i64 c ∧ St K w K8 wr ∧ Hid (Ext K7 K8)) (fun _ vc _ => 40 - (intOf vc).toNat)
                case atStart => exact ⟨0, K7, by omega, rfl, rfl, s, Lib.hid (Ext.refl _)⟩
                case round =>
                  clear s
                  obtain ⟨c, K8, hc, rfl, rfl, s, hE8⟩ := hrel
                  have hub := upTo_bound (f := fun c => sumN (A.cnt c) 16) Hf.out c
                  have hub2 : 0 ≤ upTo (fun c => sumN (A.cnt c) 16) c ∧ upTo (fun c => sumN (A.cnt c) 16) c ≤ 100000000 := by
                    refine ⟨hub.1, Int.le_trans hub.2 ?_⟩
                    have : ((c : Nat) : Int) ≤ 40 := by omega
                    omega
                  by_cases hlt : c < 40
                  · have hlt' : (c : Int) < 40 := by omega
                    have hnext : Hid (upTo (fun c => sumN (A.cnt c) 16) (c + 1) = upTo (fun c => sumN (A.cnt c) 16) c + sumE (refsTo (A.cnt c) 16)) := Lib.hid (by
                      rw [refsTo_sum]
                      · rfl
                      · exact addAll_lo _ _ _ (addAll_lo _ _ _ (fun _ => Int.le_refl _)))
                    have hsm : sumE (refsTo (A.cnt c) 16) ≤ 2300000 := by
                      rw [refsTo_sum]
                      · exact (Hf.out c).2
                      · exact addAll_lo _ _ _ (addAll_lo _ _ _ (fun _ => Int.le_refl _))
                    have hrl := refsTo_len (A.cnt c) 16
                    have hmem : ∀ x ∈ refsTo (A.cnt c) 16, 1 ≤ x.2 := fun x hx => (refsTo_mem hx).1
                    have hnx : ∀ (i : Nat) (x y : Int × Int), (refsTo (A.cnt c) 16)[i]? = some x → (refsTo (A.cnt c) 16)[i + 1]? = some y → x.1 < y.1 := fun i x y h1 h2 => refsTo_next h1 h2
                    have hRef := Lib.hid (fun W (hW : K8.In W) hS => Refs_ok K8 (.pointer (some ⟨g3, 0, none⟩)) A c W hW hS hG)
                    obtain ⟨R, hR⟩ : ∃ R, refsTo (A.cnt c) 16 = R := ⟨_, rfl⟩
                    rw [hR] at hnext hsm hrl hmem hnx hRef
                    obtain ⟨S0, hS0⟩ : ∃ S0, upTo (fun c => sumN (A.cnt c) 16) c = S0 := ⟨_, rfl⟩
                    rw [hS0] at hnext hub2 ⊢
                    have Hmem := Lib.hid hmem
                    have Hnx := Lib.hid hnx
                    clear hR hS0 hub hmem hnx
                    go_wp2_with (first
                      | (go_at_call 17; refine (hRef.out _ s.inn (hSA.out.ext (hE5.trans (hE7.trans hE8.out)))).mono ?_; rintro e W9 ⟨u9, K9, rfl, hi, hl, hb, ⟨a9, cap9, rfl, hcap9, hx9⟩, _⟩; have hE9 := Ext.of_le s.inn hl; replace s := s.call hi hl hb; clear hi hl hb)
                      | fail)
                    have Hx9 := Lib.hid hx9
                    clear hx9
                    go_loopw [10, 13] (fun vs vi wr => ∃ (i : Nat) (K10 : Fz), i ≤ R.length ∧ vs = .int .i64 (S0 + sumE (R.take i)) ∧ vi = .int .i64 i ∧ St K w K10 wr ∧ Hid (Ext K9 K10)) (fun _ vi _ => R.length - (intOf vi).toNat)
                    case atStart => exact ⟨0, K9, by omega, by simp [sumE], rfl, s, Lib.hid (Ext.refl _)⟩
                    case round =>
                      clear s
                      obtain ⟨i, K10, hi, rfl, rfl, s, hE10⟩ := hrel
                      have hst := sumE_take (fun x hx => by have := Hmem.out x hx; omega) i
                      by_cases hlt : i < R.length
                      · obtain ⟨y, hy⟩ : ∃ y, R[i]? = some y := ⟨_, List.getElem?_eq_getElem hlt⟩
                        obtain ⟨b, off, cs, ty, fr, rfl, hk, hj⟩ := Hx9.out i y hy
                        obtain ⟨y1, y2⟩ := y
                        have c0 : cs[off + i * 2]? = some (.int .i64 y1) := hj 0 _ rfl
                        have c1 : cs[off + i * 2 + 1]? = some (.int .i64 y2) := hj 1 _ rfl
                        have hk10 := hE10.out _ _ hk
                        have hy2 : 1 ≤ y2 := Hmem.out _ (List.mem_of_getElem? hy)
                        have hns : Hid (S0 + sumE (R.take (i + 1)) = S0 + sumE (R.take i) + y2) := Lib.hid (by rw [List.take_add_one, hy, Option.toList_some, sumE_snoc]; omega)
                        have hst2 := sumE_take (fun x hx => by have := Hmem.out x hx; omega) (i + 1)
                        obtain ⟨T, hT⟩ : ∃ T, S0 + sumE (R.take i) = T := ⟨_, rfl⟩
                        have hw : IntKind.i64.wrap (T + y2) = T + y2 := by rw [IntKind.wrap_i64]; have := hns.out; omega
                        rw [hT] at hns ⊢
                        clear hj hT hst hst2
                        have hlow : ¬ y2 < 1 := by omega
                        have hdl : decide (y2 < 1) = false := by simp; omega
                        by_cases h0 : i = 0
                        · subst h0
                          clear hy
                          go_wp2
                          refine wp_region_run (m := 23) (n := 129) (I := fun K2 W => St K w K2 W) (K0 := K10)
                            (ws := [.is (.slice (some ⟨b, off, none⟩) R.length cap9), .is (.int .i64 ((0 : Nat) : Int)), .is (.pointer (some ⟨b, off + 0 * 2, none⟩)), .is (.pointer (some ⟨b, off + 0 * 2 + 1, none⟩)), .is (.int .i64 y2), .is (.bool false), .is (.bool false), .is (.int .i64 ((0 : Nat) : Int)), .is (.bool false), .is (.bool false), .is (undef), .is (undef), .is (undef), .is (undef), .is (undef), .is (undef), .is (undef), .is (undef), .is (undef), .is (undef), .is (undef), .is (undef), .is (.bool false)])
                            mixed_ok (by kernel_rfl) rfl rfl ?monoz s.drew ?_
                          case monoz =>
                            simp only [List.forall_mem_cons]
                            exact ⟨trivial, trivial, trivial, trivial, trivial, trivial, trivial, trivial, trivial, trivial, trivial, trivial, trivial, trivial, trivial, trivial, trivial, trivial, trivial, trivial, trivial, trivial, trivial, fun _ h => by cases h⟩
                          apply RunAll.is_
                          · intro K3 W3 hE3 hI3 hF3
                            go_wp2
                            exact step_end ⟨⟨K3, Ext.refl _, hI3⟩, rfl⟩
                          · rfl
                          apply RunAll.is_
                          · intro K3 W3 hE3 hI3 hF3
                            go_wp2
                            exact step_end ⟨⟨K3, Ext.refl _, hI3⟩, rfl⟩
                          · rfl
                          apply RunAll.is_
                          · intro K3 W3 hE3 hI3 hF3
                            go_wp2
                            exact step_end ⟨⟨K3, Ext.refl _, hI3⟩, rfl⟩
                          · rfl
                          apply RunAll.is_
                          · intro K3 W3 hE3 hI3 hF3
                            go_wp2
                            exact step_end ⟨⟨K3, Ext.refl _, hI3⟩, rfl⟩
                          · rfl
                          apply RunAll.is_
                          · intro K3 W3 hE3 hI3 hF3
                            go_wp2_with (first | ((with_reducible refine gate_load (T := 3) ?_); refine wpList_loadCellW (off := off + 0 * 2 + 1) rfl rfl rfl Try.underlying3 rfl (hI3.inn.get (hE3 _ _ hk10)) c1 ?_) | fail)
                            exact step_end ⟨⟨K3, Ext.refl _, hI3⟩, rfl⟩
                          · rfl
                          apply RunAll.is_
                          · intro K3 W3 hE3 hI3 hF3
                            go_wp2
                            exact step_end ⟨⟨K3, Ext.refl _, hI3⟩, rfl⟩
                          · rfl
                          apply RunAll.is_
                          · intro K3 W3 hE3 hI3 hF3
                            go_wp2
                            exact step_end ⟨⟨K3, Ext.refl _, hI3⟩, rfl⟩
                          · rfl
                          apply RunAll.is_
                          · intro K3 W3 hE3 hI3 hF3
                            go_wp2
                            exact step_end ⟨⟨K3, Ext.refl _, hI3⟩, rfl⟩
                          · rfl
                          apply RunAll.is_
                          · intro K3 W3 hE3 hI3 hF3
                            go_wp2
                            exact step_end ⟨⟨K3, Ext.refl _, hI3⟩, rfl⟩
                          · rfl
                          apply RunAll.is_
                          · intro K3 W3 hE3 hI3 hF3
                            go_wp2
                            exact step_end ⟨⟨K3, Ext.refl _, hI3⟩, rfl⟩
                          · rfl
                          apply RunAll.is_
                          · intro K3 W3 hE3 hI3 hF3
                            go_wp2
                            exact step_end ⟨⟨K3, Ext.refl _, hI3⟩, rfl⟩
                          · rfl
                          apply RunAll.is_
                          · intro K3 W3 hE3 hI3 hF3
                            go_wp2
                            exact step_end ⟨⟨K3, Ext.refl _, hI3⟩, rfl⟩
                          · rfl
                          apply RunAll.is_
                          · intro K3 W3 hE3 hI3 hF3
                            go_wp2
                            exact step_end ⟨⟨K3, Ext.refl _, hI3⟩, rfl⟩
                          · rfl
                          apply RunAll.is_
                          · intro K3 W3 hE3 hI3 hF3
                            go_wp2
                            exact step_end ⟨⟨K3, Ext.refl _, hI3⟩, rfl⟩
                          · rfl
                          apply RunAll.is_
                          · intro K3 W3 hE3 hI3 hF3
                            go_wp2
                            exact step_end ⟨⟨K3, Ext.refl _, hI3⟩, rfl⟩
                          · rfl
                          apply RunAll.is_
                          · intro K3 W3 hE3 hI3 hF3
                            go_wp2
                            exact step_end ⟨⟨K3, Ext.refl _, hI3⟩, rfl⟩
                          · rfl
                          apply RunAll.is_
                          · intro K3 W3 hE3 hI3 hF3
                            go_wp2
                            exact step_end ⟨⟨K3, Ext.refl _, hI3⟩, rfl⟩
                          · rfl
                          apply RunAll.is_
                          · intro K3 W3 hE3 hI3 hF3
                            go_wp2
                            exact step_end ⟨⟨K3, Ext.refl _, hI3⟩, rfl⟩
                          · rfl
                          apply RunAll.is_
                          · intro K3 W3 hE3 hI3 hF3
                            go_wp2
                            exact step_end ⟨⟨K3, Ext.refl _, hI3⟩, rfl⟩
                          · rfl
                          apply RunAll.is_
                          · intro K3 W3 hE3 hI3 hF3
                            go_wp2
                            exact step_end ⟨⟨K3, Ext.refl _, hI3⟩, rfl⟩
                          · rfl
                          apply RunAll.is_
                          · intro K3 W3 hE3 hI3 hF3
                            go_wp2
                            exact step_end ⟨⟨K3, Ext.refl _, hI3⟩, rfl⟩
                          · rfl
                          apply RunAll.is_
                          · intro K3 W3 hE3 hI3 hF3
                            go_wp2
                            exact step_end ⟨⟨K3, Ext.refl _, hI3⟩, rfl⟩
                          · rfl
                          apply RunAll.is_
                          · intro K3 W3 hE3 hI3 hF3
                            go_wp2
                            exact step_end ⟨⟨K3, Ext.refl _, hI3⟩, rfl⟩
                          · rfl
                          intro K11 W11 hE11 hI11 hF11
                          change wpList _ _ _ (List.cons _ _) _ _
                          have s11 := hI11
                          have hk11 := hE11 _ _ hk10
                          go_wp2_with (first
                            | ((with_reducible refine gate_load (T := 3) (x := .tmp 120) ?_); refine wpList_loadCell (off := off + 0 * 2 + 1) rfl rfl rfl Try.underlying3 rfl (s11.inn.get hk11) c1 ?_)
                            | fail)
                          go_roundw
                          case rel => exact ⟨0 + 1, K11, by omega, by rw [hns.out], by go_num, s11, Lib.hid (hE10.out.trans hE11)⟩
                          case measure => simp [intOf]; omega
                        · obtain ⟨j, rfl⟩ : ∃ j, i = j + 1 := ⟨i - 1, by omega⟩
                          obtain ⟨z, hz⟩ : ∃ z, R[j]? = some z := ⟨_, List.getElem?_eq_getElem (by omega)⟩
                          obtain ⟨b', off', cs', ty', fr', hbb, hk', hj'⟩ := Hx9.out j z hz
                          cases hbb
                          rw [hk] at hk'
                          cases hk'
                          obtain ⟨z1, z2⟩ := z
                          have d0 : cs[off + j * 2]? = some (.int .i64 z1) := hj' 0 _ rfl
                          have hlt1 : z1 < y1 := Hnx.out j _ _ hz hy
                          have hd1 : decide (y1 ≤ z1) = false := by simp; omega
                          have hpos : (0 : Int) < ((j + 1 : Nat) : Int) := by omega
                          obtain ⟨i, hi'⟩ : ∃ i, j + 1 = i := ⟨_, rfl⟩
                          have hwj : IntKind.i64.wrap ((i : Int) - 1) = (j : Int) := by rw [IntKind.wrap_i64]; omega
                          rw [hi'] at c0 c1 hlt hns hpos hi ⊢
                          have hjl : j < R.length := by omega
                          have hpd : decide (0 < i) = true := by simp; omega
                          have Hi' := Lib.hid hi'
                          clear hz hy hj' h0 hi'
                          go_wp2
                          refine wp_region_run (m := 23) (n := 129) (I := fun K2 W => St K w K2 W) (K0 := K10)
                            (ws := [.is (.slice (some ⟨b, off, none⟩) R.length cap9), .is (.int .i64 ((i : Nat) : Int)), .is (.pointer (some ⟨b, off + i * 2, none⟩)), .is (.pointer (some ⟨b, off + i * 2 + 1, none⟩)), .is (.int .i64 y2), .is (.bool false), .is (.bool false), .is (.int .i64 ((i : Nat) : Int)), .is (.bool true), .is (.bool true), .is (.slice (some ⟨b, off, none⟩) R.length cap9), .is (.int .i64 ((i : Nat) : Int)), .is (.pointer (some ⟨b, off + i * 2, none⟩)), .is (.pointer (some ⟨b, off + i * 2, none⟩)), .is (.int .i64 y1), .is (.slice (some ⟨b, off, none⟩) R.length cap9), .is (.int .i64 ((i : Nat) : Int)), .is (.int .i64 ((j : Nat) : Int)), .is (.pointer (some ⟨b, off + j * 2, none⟩)), .is (.pointer (some ⟨b, off + j * 2, none⟩)), .is (.int .i64 z1), .is (.bool false), .is (.bool false)])
                            mixed_ok (by kernel_rfl) rfl rfl ?monop s.drew ?_
                          case monop =>
                            simp only [List.forall_mem_cons]
                            exact ⟨trivial, trivial, trivial, trivial, trivial, trivial, trivial, trivial, trivial, trivial, trivial, trivial, trivial, trivial, trivial, trivial, trivial, trivial, trivial, trivial, trivial, trivial, trivial, fun _ h => by cases h⟩
                          apply RunAll.is_
                          · intro K3 W3 hE3 hI3 hF3
                            go_wp2
                            exact step_end ⟨⟨K3, Ext.refl _, hI3⟩, rfl⟩
                          · rfl
                          apply RunAll.is_
                          · intro K3 W3 hE3 hI3 hF3
                            go_wp2
                            exact step_end ⟨⟨K3, Ext.refl _, hI3⟩, rfl⟩
                          · rfl
                          apply RunAll.is_
                          · intro K3 W3 hE3 hI3 hF3
                            go_wp2
                            exact step_end ⟨⟨K3, Ext.refl _, hI3⟩, rfl⟩
                          · rfl
                          apply RunAll.is_
                          · intro K3 W3 hE3 hI3 hF3
                            go_wp2
                            exact step_end ⟨⟨K3, Ext.refl _, hI3⟩, rfl⟩
                          · rfl
                          apply RunAll.is_
                          · intro K3 W3 hE3 hI3 hF3
                            go_wp2_with (first | ((with_reducible refine gate_load (T := 3) ?_); refine wpList_loadCellW (off := off + i * 2 + 1) rfl rfl rfl Try.underlying3 rfl (hI3.inn.get (hE3 _ _ hk10)) c1 ?_) | fail)
                            exact step_end ⟨⟨K3, Ext.refl _, hI3⟩, rfl⟩
                          · rfl
                          apply RunAll.is_
                          · intro K3 W3 hE3 hI3 hF3
                            go_wp2
                            exact step_end ⟨⟨K3, Ext.refl _, hI3⟩, rfl⟩
                          · rfl
                          apply RunAll.is_
                          · intro K3 W3 hE3 hI3 hF3
                            go_wp2
                            exact step_end ⟨⟨K3, Ext.refl _, hI3⟩, rfl⟩
                          · rfl
                          apply RunAll.is_
                          · intro K3 W3 hE3 hI3 hF3
                            go_wp2
                            exact step_end ⟨⟨K3, Ext.refl _, hI3⟩, rfl⟩
                          · rfl
                          apply RunAll.is_
                          · intro K3 W3 hE3 hI3 hF3
                            go_wp2
                            exact step_end ⟨⟨K3, Ext.refl _, hI3⟩, rfl⟩
                          · rfl
                          apply RunAll.is_
                          · intro K3 W3 hE3 hI3 hF3
                            go_wp2
                            exact step_end ⟨⟨K3, Ext.refl _, hI3⟩, rfl⟩
                          · rfl
                          apply RunAll.is_
                          · intro K3 W3 hE3 hI3 hF3
                            go_wp2
                            exact step_end ⟨⟨K3, Ext.refl _, hI3⟩, rfl⟩
                          · rfl
                          apply RunAll.is_
                          · intro K3 W3 hE3 hI3 hF3
                            go_wp2
                            exact step_end ⟨⟨K3, Ext.refl _, hI3⟩, rfl⟩
                          · rfl
                          apply RunAll.is_
                          · intro K3 W3 hE3 hI3 hF3
                            go_wp2
                            exact step_end ⟨⟨K3, Ext.refl _, hI3⟩, rfl⟩
                          · rfl
                          apply RunAll.is_
                          · intro K3 W3 hE3 hI3 hF3
                            go_wp2
                            exact step_end ⟨⟨K3, Ext.refl _, hI3⟩, rfl⟩
                          · rfl
                          apply RunAll.is_
                          · intro K3 W3 hE3 hI3 hF3
                            go_wp2_with (first | ((with_reducible refine gate_load (T := 3) ?_); refine wpList_loadCellW (off := off + i * 2) rfl rfl rfl Try.underlying3 rfl (hI3.inn.get (hE3 _ _ hk10)) c0 ?_) | fail)
                            exact step_end ⟨⟨K3, Ext.refl _, hI3⟩, rfl⟩
                          · rfl
                          apply RunAll.is_
                          · intro K3 W3 hE3 hI3 hF3
                            go_wp2
                            exact step_end ⟨⟨K3, Ext.refl _, hI3⟩, rfl⟩
                          · rfl
                          apply RunAll.is_
                          · intro K3 W3 hE3 hI3 hF3
                            go_wp2
                            exact step_end ⟨⟨K3, Ext.refl _, hI3⟩, rfl⟩
                          · rfl
                          apply RunAll.is_
                          · intro K3 W3 hE3 hI3 hF3
                            go_wp2
                            exact step_end ⟨⟨K3, Ext.refl _, hI3⟩, rfl⟩
                          · rfl
                          apply RunAll.is_
                          · intro K3 W3 hE3 hI3 hF3
                            go_wp2
                            exact step_end ⟨⟨K3, Ext.refl _, hI3⟩, rfl⟩
                          · rfl
                          apply RunAll.is_
                          · intro K3 W3 hE3 hI3 hF3
                            go_wp2
                            exact step_end ⟨⟨K3, Ext.refl _, hI3⟩, rfl⟩
                          · rfl
                          apply RunAll.is_
                          · intro K3 W3 hE3 hI3 hF3
                            go_wp2_with (first | ((with_reducible refine gate_load (T := 3) ?_); refine wpList_loadCellW (off := off + j * 2) rfl rfl rfl Try.underlying3 rfl (hI3.inn.get (hE3 _ _ hk10)) d0 ?_) | fail)
                            exact step_end ⟨⟨K3, Ext.refl _, hI3⟩, rfl⟩
                          · rfl
                          apply RunAll.is_
                          · intro K3 W3 hE3 hI3 hF3
                            go_wp2
                            exact step_end ⟨⟨K3, Ext.refl _, hI3⟩, rfl⟩
                          · rfl
                          apply RunAll.is_
                          · intro K3 W3 hE3 hI3 hF3
                            go_wp2
                            exact step_end ⟨⟨K3, Ext.refl _, hI3⟩, rfl⟩
                          · rfl
                          intro K11 W11 hE11 hI11 hF11
                          change wpList _ _ _ (List.cons _ _) _ _
                          have s11 := hI11
                          have hk11 := hE11 _ _ hk10
                          go_wp2_with (first
                            | ((with_reducible refine gate_load (T := 3) (x := .tmp 120) ?_); refine wpList_loadCell (off := off + i * 2 + 1) rfl rfl rfl Try.underlying3 rfl (s11.inn.get hk11) c1 ?_)
                            | fail)
                          go_roundw
                          case rel => exact ⟨i + 1, K11, by omega, by rw [hns.out], by go_num, s11, Lib.hid (hE10.out.trans hE11)⟩
                          case measure => simp [intOf]; omega
                      · obtain rfl : i = R.length := by omega
                        rw [List.take_length]
                        go_wp2
                        go_roundw
                        case rel => exact ⟨c + 1, K10, by omega, by rw [hnext.out], by go_num, s, Lib.hid (hE8.out.trans (hE9.trans hE10.out))⟩
                        case measure => simp [intOf]; omega
                  · obtain rfl : c = 40 := by omega
                    rw [Hend.out]
                    go_wp2_with (first | (go_at_call 9; refine (lsanity_ok K8 _ s.inn).mono ?_; rintro e W9 ⟨rfl, hb9⟩; replace s := s.quiet hb9; clear hb9) | fail)
                    go_ret
                    exact ⟨rfl, s.below⟩
  · have hB : decide ((60 : Int) < (os.length : Nat)) = true := by simp; omega
    go_enter Try.func4, Try.ntmps4
    go_wp2_with (first | (go_at_call 9; refine (lsanity_ok K _ s.inn).mono ?_; rintro e W9 ⟨rfl, hb9⟩; replace s := s.quiet hb9; clear hb9) | fail)
    go_ret
    exact ⟨rfl, s.below⟩
end Go.Proofs.Ytdaagmhkhfcmdaa
