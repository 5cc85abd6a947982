/- What differ does. -/
import Derived.LaidEqlPtr
import Derived.Deep.RegionHeld3
import Derived.Deep.CutBlock
import Derived.Test.YtpfdlpniijgakaaDoorTreeE
import Derived.Test.YtpfdlpniijgakaaDoorDiff0
import Derived.Test.YtpfdlpniijgakaaDoorDrawn
namespace Go.Proofs.YtpfdlpniijgakaaDoor
open Go Go.RowKit
set_option maxHeartbeats 400000

theorem Tab.ext {K K' : Fz} (h : Ext K K') (ht : Tab K) : Tab K' := by obtain ⟨T, fr, hk⟩ := ht; exact ⟨T, fr, h _ _ hk⟩

theorem wrap64_small (x : Int) (h0 : -1000000 ≤ x) (h1 : x ≤ 1000000) : wrap64 x = x := by unfold wrap64; omega
theorem wrap_at (first i L : Nat) (h : first + i * 16 ^ L < 4096) : wrap64 ((first : Int) + wrap64 ((i : Int) * 2 ^ (4 * (L : Int)).toNat)) = ((first + i * 16 ^ L : Nat) : Int) := by
  have e4 : (4 * (L : Int)).toNat = 4 * L := by omega
  have e : ((i : Int) * 2 ^ (4 * L)) = ((i * 16 ^ L : Nat) : Int) := by rw [show (16 : Nat) ^ L = 2 ^ (4 * L) by rw [Nat.pow_mul]]; simp
  rw [e4, e]
  generalize i * 16 ^ L = p at h
  rw [wrap64_small (p : Int) (by omega) (by omega), wrap64_small _ (by omega) (by omega)]
  simp
theorem at_lt {first i L : Nat} (hi : i < 16) (hf : first + 16 ^ (L + 1) ≤ 4096) : first + i * 16 ^ L < 4096 := by
  have h1 : i * 16 ^ L < 16 * 16 ^ L := Nat.mul_lt_mul_of_pos_right hi (Nat.pow_pos (by omega))
  rw [Nat.pow_succ, Nat.mul_comm] at hf
  omega

/-- How differ ends. -/
def DiffEnd (J : List Nat → Fz → World → Prop) (Jx : World → Prop) (K : Fz) (pre : List Nat) (e : Ending) (W : World) : Prop :=
  (e = .returned (.bool true) ∧ ∃ K', Ext K K' ∧ J pre K' W) ∨ (e = .returned (.bool false) ∧ Jx W)

theorem DiffEnd.bool {J : List Nat → Fz → World → Prop} {Jx : World → Prop} {K : Fz} {pre : List Nat} {e : Ending} {W : World} (h : DiffEnd J Jx K pre e W) :
    ∃ t : Bool, e = .returned (.bool t) ∧ Hid (DiffEnd J Jx K pre (.returned (.bool t)) W) := by
  rcases h with ⟨rfl, h⟩ | ⟨rfl, h⟩
  · exact ⟨true, rfl, .inl ⟨rfl, h⟩⟩
  · exact ⟨false, rfl, .inr ⟨rfl, h⟩⟩

def encN (x : Nat) : Array Value := #[.int .i64 (x : Nat)]

theorem follows_mixed : Tryd.prog.follows .mixedOrders = true := by kernel_rfl

theorem run_eql_nil_nil_ptr (w : World) : (binOp .eql 29 (.pointer none) (.pointer none)).run Tryd.prog w = .ok (.bool true) w := by
  have := run_eql_pointer_nil (P := Tryd.prog) w 29 none (by kernel_rfl)
  simpa using this

theorem run_eql_nil_some (w : World) (q : Addr) : (binOp .eql 29 (.pointer none) (.pointer (some q))).run Tryd.prog w = .ok (.bool false) w := by kernel_rfl

theorem node_or {T : Nat} {K : Fz} {a : PT} (_ : True) (ha : Tr T K a) : (a.ptr = none ∧ nodeCells a.has a.kid a.chunk = nodeZ) ∨ ∃ ba, a.ptr = some ⟨ba, 0, none⟩ ∧ K ba = some (.cells (nodeCells a.has a.kid a.chunk) T (0, 0)) := by
  cases a with
  | nil => exact .inl ⟨rfl, rfl⟩
  | node b h k c => exact .inr ⟨b, rfl, ha.1⟩
theorem T0 : True := trivial

section
variable {l : Nat} {xs : List Nat} {J : List Nat → Fz → World → Prop} {Jx : World → Prop}
variable (hIn : ∀ pre K W, J pre K W → K.In W)
variable (hgrow : ∀ pre K W K' W', J pre K W → Below W.heap.size W W' → K'.In W' → K.Le W.heap.size K' → J pre K' W')
variable (hY : ∀ pre x rest K W, pre ++ x :: rest = xs → J pre K W → YieldAt Fence.wide 0 Tryd.prog l (encN x) W fun e W' =>
      (e = .returned (.bool true) ∧ ∃ K', Ext K K' ∧ J (pre ++ [x]) K' W') ∨ (e = .returned (.bool false) ∧ Jx W'))
include hIn hgrow hY

omit hY in
theorem none_made {pre : List Nat} {K : Fz} {W W1 : World} {g : Nat} (hJ : J pre K W) (e : g = W.heap.size) (hn : New W (.cells nodeZ 76 (0, 0)) W1) :
    ∃ K1, Ext K K1 ∧ J pre K1 W1 ∧ K1 g = some (.cells nodeZ 76 (0, 0)) := by
  subst e
  have hi := hIn _ _ _ hJ
  have hb : Below W.heap.size W W1 := hn.below (Below.refl _ _) (Nat.le_refl _)
  refine ⟨K.add W.heap.size (.cells nodeZ 76 (0, 0)), ?_, hgrow _ _ _ _ _ hJ hb ((hn.inn hi).add hn.here) ((Fz.Le.refl _ _).add _ _ (Nat.le_refl _)), Fz.add_self _ _ _⟩
  intro b o hk
  rw [Fz.add_other _ _ (by have := hi.lt hk; omega)]
  exact hk

/-- What is said of differ at a level. -/
def DiffSaid (P : Program) (xs : List Nat) (l : Nat) (J : List Nat → Fz → World → Prop) (Jx : World → Prop) (L : Nat) : Prop :=
  ∀ (a b : PT) (lv : Int) (first : Nat) (pre post : List Nat) (K : Fz) (W : World), lv = L → Tr 76 K a → Tr 76 K b → Tab K → J pre K W →
    pre ++ diffs L a b first ++ post = xs → first + 16 ^ (L + 1) ≤ 4096 →
    Calls P 42 #[.pointer a.ptr, .pointer b.ptr, .int .i64 lv, .int .i64 (first : Nat), .func (.yield l) #[] #[]] W (DiffEnd J Jx K (pre ++ diffs L a b first))

set_option maxRecDepth 100000 in
set_option maxHeartbeats 20000000 in
theorem differ_step (L : Nat) (hL : L ≤ 2) (IH : ∀ M, L = M + 1 → DiffSaid Tryd.prog xs l J Jx M) : DiffSaid Tryd.prog xs l J Jx L := by
  intro a b lv first pre post K W hlv ha hb ht hJ hx hf
  have hK := hIn _ _ _ hJ
  have IH' := Lib.hid IH
  have Hlv := Lib.hid hlv
  have Hx := Lib.hid hx
  have hlv0 : 0 ≤ lv := by omega
  have hlv2 : lv ≤ 2 := by omega
  obtain ⟨j, hj, hz⟩ := Option.map_eq_some_iff.1 size_node
  have hsz : j.size ≠ 0 := by rw [hz]; decide
  clear hz IH hlv hx
  by_cases heq : a.ptr = b.ptr
  · rw [diffs_same L a b first heq] at Hx ⊢
    have hee : (binOp .eql 29 (.pointer a.ptr) (.pointer b.ptr)).run Tryd.prog W = .ok (.bool true) W := by
      rw [← heq]
      cases hp : a.ptr with
      | none => exact run_eql_nil_nil_ptr W
      | some q => exact run_eql_ptr_same W q Tryd.underlying29 hj
    have Heq := Lib.hid heq
    clear heq
    go_enter Tryd.func42, Tryd.ntmps42
    go_wp2_with fail
    go_ret
    exact .inl ⟨rfl, K, Ext.refl K, by simpa using hJ⟩
  · rw [diffs_eq L a b first heq] at Hx ⊢
    rcases node_or T0 ha with ⟨pa, na⟩ | ⟨ba, pa, na⟩ <;> rcases node_or T0 hb with ⟨pb, nb⟩ | ⟨bb, pb, nb⟩
    · exact (heq (pa.trans pb.symm)).elim
    all_goals
      have Hne := Lib.hid heq
      clear heq
    case' neg.inl.inr =>
      have hee := run_eql_nil_some W ⟨bb, 0, none⟩
      go_enter Tryd.func42, Tryd.ntmps42
      go_wp2_with (first
        | ((with_reducible refine gate_alloc (T := 76) ?_); refine wpList_allocG rfl rfl zero_node (cs := nodeZ) rfl ?_; intro ba W1 e hn; obtain ⟨K1, hE, hJ1, na1⟩ := none_made hIn hgrow hJ e hn; clear e hn)
        | fail)
      clear hee
      rw [← na] at na1
      have nb1 := hE _ _ nb
    case' neg.inr.inl =>
      go_enter Tryd.func42, Tryd.ntmps42
      go_wp2_with (first
        | ((with_reducible refine gate_alloc (T := 76) ?_); refine wpList_allocG rfl rfl zero_node (cs := nodeZ) rfl ?_; intro bb W1 e hn; obtain ⟨K1, hE, hJ1, nb1⟩ := none_made hIn hgrow hJ e hn; clear e hn)
        | fail)
      rw [← nb] at nb1
      have na1 := hE _ _ na
    case' neg.inr.inr =>
      have hee : (binOp .eql 29 (.pointer (some ⟨ba, 0, none⟩)) (.pointer (some ⟨bb, 0, none⟩))).run Tryd.prog W = .ok (.bool false) W :=
        run_eql_ptr_other W Tryd.underlying29 hj hsz (fun e => Hne.out (pa.trans ((congrArg some e).trans pb.symm))) (hK.get na) (hK.get nb)
      go_enter Tryd.func42, Tryd.ntmps42
      go_wp2_with (first
        | ((with_reducible refine gate_alloc (T := 76) ?_); refine wpList_allocG rfl rfl zero_node (cs := nodeZ) rfl ?_; intro g W1 e hn; obtain ⟨K1, hE, hJ1, ng⟩ := none_made hIn hgrow hJ e hn; clear e hn)
        | fail)
      clear hee ng
      have nb1 := hE _ _ nb
      have na1 := hE _ _ na
    all_goals
      clear hj hsz hK
      have c0a := ((hIn _ _ _ hJ1).cell na1 0).trans (nodeCells_has _ _ _)
      have c0b := ((hIn _ _ _ hJ1).cell nb1 0).trans (nodeCells_has _ _ _)
      have hor := u16_or_nat _ _ ha.has hb.has
      have hhh : a.has ||| b.has < 65536 := Nat.or_lt_two_pow (n := 16) ha.has hb.has
      go_quiet (fail)
      clear hor c0a c0b
      go_wp2_with fail
      have hJ2 := hgrow _ _ _ _ _ hJ1 ((Below.refl W1.heap.size W1).drewN' nq) ((hIn _ _ _ hJ1).drewN nq) (Fz.Le.refl _ _)
      clear hJ1
      have Hhh := Lib.hid hhh
      clear hhh
      go_loopw [12, 13, 14] (fun x _ _ wr => ∃ (n m : Nat) (K2 : Fz), n ≤ 16 ∧ x = .int .u16 m ∧ Hid (Left (a.has ||| b.has) n m) ∧ Hid (J (pre ++ diffTo L a b first n) K2 wr) ∧ Hid (Ext K1 K2)) (fun x _ _ _ => (intOf x).toNat)
      case' atStart => exact ⟨0, _, K1, by omega, rfl, Left.start _, (by simpa [diffTo] using hJ2 : J (pre ++ diffTo L a b first 0) K1 _), Ext.refl _⟩
      case' round =>
        clear hJ2
        obtain ⟨n, m, K2, hn, rfl, hl, hj2, he2⟩ := hrel
        have hm := hl.out.lt Hhh.out
        by_cases hm0 : m = 0
        · subst hm0
          go_wp2_with fail
          go_ret
          refine .inl ⟨rfl, K2, hE.trans he2.out, ?_⟩
          rw [diffTo_skip L a b first n 16 hn (fun j h1 _ => hl.out.zero j h1)]
          exact hj2.out
        · have hbne : ((m : Int) != 0) = true := by rw [bne_iff_ne]; omega
          have hK2 := hIn _ _ _ hj2.out
          have hT2 := Lib.hid (Tab.ext (hE.trans he2.out) ht)
          have na2 := he2.out _ _ na1
          have nb2 := he2.out _ _ nb1
          have ha2 := Lib.hid (ha.ext (hE.trans he2.out))
          have hb2' := Lib.hid (hb.ext (hE.trans he2.out))
          have hmm : bits BinOp.and IntKind.u16 (m : Int) (IntKind.u16.wrap ((m : Int) - 1)) = ((m &&& (m - 1) : Nat) : Int) := by
            have e : IntKind.u16.wrap ((m : Int) - 1) = ((m - 1 : Nat) : Int) := by rw [IntKind.wrap_u16]; omega
            rw [e, u16_and_nat _ _ hm (by omega)]
          have hmm2 : bits BinOp.and IntKind.u16 (m : Int) ((m : Int) - 1) = ((m &&& (m - 1) : Nat) : Int) := by
            rw [show ((m : Int) - 1) = ((m - 1 : Nat) : Int) by omega, u16_and_nat _ _ hm (by omega)]
          have hmlt : m &&& (m - 1) < m := Nat.lt_of_le_of_lt Nat.and_le_right (by omega)
          by_cases hL0 : L = 0
          · have hlt : ¬ 0 < lv := by have := Hlv.out; omega
            obtain ⟨q, hq⟩ : ∃ q : Nat → Nat, ∀ i, q i = first + i * 16 ^ L := ⟨_, fun _ => rfl⟩
            have e14 : ∀ i : Nat, i < 16 → wrap64 ((first : Int) + wrap64 ((i : Int) * 2 ^ (4 * lv).toNat)) = (q i : Int) := by
              intro i hi
              rw [hq i, Hlv.out]
              exact wrap_at first i L (at_lt hi hf)
            have Hq := Lib.hid hq
            have E14 := Lib.hid e14
            clear hq e14
            go_wp2_with (first
              | (go_at_call 45; refine (tz16_ok K2 m _ hK2 hT2.out hm hm0).mono ?_; rintro e W' ⟨i, rfl, hi16, hb1, hb2, rfl⟩; replace hb1 := Lib.hid hb1; replace hb2 := Lib.hid hb2; have e14 := E14.out i hi16)
              | fail)
            clear e14
            have hxor := u16_xor_nat _ _ ha.has hb.has
            have hbx := bit_ne (a.has ^^^ b.has) i (Nat.xor_lt_two_pow (n := 16) ha.has hb.has)
            have c0a := (hK2.cell na2 0).trans (nodeCells_has _ _ _)
            have c0b := (hK2.cell nb2 0).trans (nodeCells_has _ _ _)
            have c2a := (hK2.cell na2 (17 + i)).trans (nodeCells_chunk _ _ _ i hi16)
            have c2b := (hK2.cell nb2 (17 + i)).trans (nodeCells_chunk _ _ _ i hi16)
            by_cases hbit : (a.has ^^^ b.has).testBit i = true
            · have hpart : diffPart L a b first i = [q i] := by subst hL0; simp [diffPart, hbit, Hq.out]
              have Hpart := Lib.hid hpart
              clear hpart
              rw [hbit] at hbx
              go_quiet (fail)
              clear hxor hbx c0a c0b c2a c2b
              have hj3 := hgrow _ _ _ _ _ hj2.out ((Below.refl wr.heap.size wr).drewN' nq) (hK2.drewN nq) (Fz.Le.refl _ _)
              obtain ⟨nx, ni, nb', nn⟩ := Left.next hl.out hb1.out hb2.out
              have hstep : diffTo L a b first (i + 1) = diffTo L a b first n ++ [q i] := by
                rw [diffTo_succ, if_pos nb', Hpart.out, diffTo_skip L a b first n i ni nn]
              obtain ⟨fnn, tmps, assign, body, hy, hR⟩ : YieldAt Fence.wide 0 Tryd.prog l (encN (q i)) (wr.drewN nq) fun e W' =>
                  (e = .returned (.bool true) ∧ ∃ K', Ext K2 K' ∧ J (pre ++ diffTo L a b first n ++ [q i]) K' W') ∨ (e = .returned (.bool false) ∧ Jx W') := by
                obtain ⟨r, hr⟩ := diffTo_prefix L a b first (i + 1) 16 (by omega)
                refine hY _ (q i) (r ++ post) K2 _ ?_ hj3
                rw [← Hx.out, hr, hstep]
                simp
              dsimp only [encN] at hy
              have Hstep := Lib.hid hstep
              have Nx := Lib.hid nx
              clear hstep nx nb' nn hj3
              go_upto_region 17 with (fail)
              rw [E14.out i hi16]
              refine (wpIn_wide (n := 0)).1 ?_
              gi_wp2_with (first | (refine ⟨rfl, ?_⟩; refine hR.mono ?_; clear hR; rintro e W' (⟨rfl, K3, hs3, hj4⟩ | ⟨rfl, hx4⟩)))
              · have Hj4 := Lib.hid hj4
                have Hs3 := Lib.hid hs3
                clear hj4 hs3 hy
                go_wp2_with fail
                go_roundw
                case rel => exact ⟨i + 1, m &&& (m - 1), K3, by omega, rfl, Nx.out, (by rw [Hstep.out, ← List.append_assoc]; exact Hj4.out : J (pre ++ diffTo L a b first (i + 1)) K3 _), he2.out.trans Hs3.out⟩
                case measure => simp [intOf]; exact hmlt
              · clear hy
                go_wp2_with fail
                go_ret
                exact .inr ⟨rfl, hx4⟩
            · rw [Bool.not_eq_true] at hbit
              rw [hbit] at hbx
              by_cases hch : a.chunk i = b.chunk i
              · have hpart : diffPart L a b first i = [] := by subst hL0; simp [diffPart, hbit, hch]
                have Hpart := Lib.hid hpart
                clear hpart
                have hcb : (a.chunk i != b.chunk i) = false := by simp [hch]
                have Hch := Lib.hid hch
                clear hch
                go_quiet (fail)
                clear hxor hbx c0a c0b c2a c2b hcb
                have hj3 := Lib.hid (hgrow _ _ _ _ _ hj2.out ((Below.refl wr.heap.size wr).drewN' nq) (hK2.drewN nq) (Fz.Le.refl _ _))
                obtain ⟨nx, ni, nb', nn⟩ := Left.next hl.out hb1.out hb2.out
                have hstep : diffTo L a b first (i + 1) = diffTo L a b first n := by
                  rw [diffTo_succ, if_pos nb', Hpart.out, diffTo_skip L a b first n i ni nn, List.append_nil]
                have Hstep := Lib.hid hstep
                have Nx := Lib.hid nx
                clear hstep nx nb' nn
                go_wp2_with fail
                go_roundw
                case rel => exact ⟨i + 1, m &&& (m - 1), K2, by omega, rfl, Nx.out, (by rw [Hstep.out]; exact hj3.out : J (pre ++ diffTo L a b first (i + 1)) K2 _), he2⟩
                case measure => simp [intOf]; exact hmlt
              · have hpart : diffPart L a b first i = [q i] := by subst hL0; simp [diffPart, hbit, hch, Hq.out]
                have Hpart := Lib.hid hpart
                clear hpart
                have hcb : (a.chunk i != b.chunk i) = true := by rw [bne_iff_ne]; exact hch
                clear hch
                go_quiet (fail)
                clear hxor hbx c0a c0b c2a c2b
                have hj3 := hgrow _ _ _ _ _ hj2.out ((Below.refl wr.heap.size wr).drewN' nq) (hK2.drewN nq) (Fz.Le.refl _ _)
                obtain ⟨nx, ni, nb', nn⟩ := Left.next hl.out hb1.out hb2.out
                have hstep : diffTo L a b first (i + 1) = diffTo L a b first n ++ [q i] := by
                  rw [diffTo_succ, if_pos nb', Hpart.out, diffTo_skip L a b first n i ni nn]
                obtain ⟨fnn, tmps, assign, body, hy, hR⟩ : YieldAt Fence.wide 0 Tryd.prog l (encN (q i)) (wr.drewN nq) fun e W' =>
                    (e = .returned (.bool true) ∧ ∃ K', Ext K2 K' ∧ J (pre ++ diffTo L a b first n ++ [q i]) K' W') ∨ (e = .returned (.bool false) ∧ Jx W') := by
                  obtain ⟨r, hr⟩ := diffTo_prefix L a b first (i + 1) 16 (by omega)
                  refine hY _ (q i) (r ++ post) K2 _ ?_ hj3
                  rw [← Hx.out, hr, hstep]
                  simp
                dsimp only [encN] at hy
                have Hstep := Lib.hid hstep
                have Nx := Lib.hid nx
                clear hstep nx nb' nn hj3
                go_upto_region 17 with (fail)
                rw [E14.out i hi16]
                refine (wpIn_wide (n := 0)).1 ?_
                gi_wp2_with (first | (refine ⟨rfl, ?_⟩; refine hR.mono ?_; clear hR; rintro e W' (⟨rfl, K3, hs3, hj4⟩ | ⟨rfl, hx4⟩)))
                · have Hj4 := Lib.hid hj4
                  have Hs3 := Lib.hid hs3
                  clear hj4 hs3 hy
                  go_wp2_with fail
                  go_roundw
                  case rel => exact ⟨i + 1, m &&& (m - 1), K3, by omega, rfl, Nx.out, (by rw [Hstep.out, ← List.append_assoc]; exact Hj4.out : J (pre ++ diffTo L a b first (i + 1)) K3 _), he2.out.trans Hs3.out⟩
                  case measure => simp [intOf]; exact hmlt
                · clear hy
                  go_wp2_with fail
                  go_ret
                  exact .inr ⟨rfl, hx4⟩
          · obtain ⟨M, rfl⟩ : ∃ M, L = M + 1 := ⟨L - 1, by omega⟩
            have hlt : 0 < lv := by have := Hlv.out; omega
            obtain ⟨q, hq⟩ : ∃ q : Nat → Nat, ∀ i, q i = first + i * 16 ^ (M + 1) := ⟨_, fun _ => rfl⟩
            have e14 : ∀ i : Nat, i < 16 → wrap64 ((first : Int) + wrap64 ((i : Int) * 2 ^ (4 * lv).toNat)) = (q i : Int) := by
              intro i hi
              rw [hq i, Hlv.out]
              exact wrap_at first i (M + 1) (at_lt hi hf)
            have Hq := Lib.hid hq
            have E14 := Lib.hid e14
            have Hf := Lib.hid hf
            clear hq e14 hf
            go_wp2_with (first
              | (go_at_call 45; refine (tz16_ok K2 m _ hK2 hT2.out hm hm0).mono ?_; rintro e W' ⟨i, rfl, hi16, hb1, hb2, rfl⟩; replace hb1 := Lib.hid hb1; replace hb2 := Lib.hid hb2)
              | fail)
            rw [E14.out i hi16]
            have c1a := (hK2.cell na2 (1 + i)).trans (nodeCells_kid _ _ _ i hi16)
            have c1b := (hK2.cell nb2 (1 + i)).trans (nodeCells_kid _ _ _ i hi16)
            have hj3 := Lib.hid (hgrow _ _ _ _ _ hj2.out ((Below.refl wr.heap.size wr).drew) hK2.drew (Fz.Le.refl _ _))
            obtain ⟨nx, ni, nb', nn⟩ := Left.next hl.out hb1.out hb2.out
            have hstep : diffTo (M + 1) a b first (i + 1) = diffTo (M + 1) a b first n ++ diffs M (a.kid i) (b.kid i) (q i) := by
              rw [diffTo_succ, if_pos nb', diffTo_skip (M + 1) a b first n i ni nn, Hq.out]
              rfl
            obtain ⟨r, hr⟩ := diffTo_prefix (M + 1) a b first (i + 1) 16 (by omega)
            have hxs : pre ++ diffTo (M + 1) a b first n ++ diffs M (a.kid i) (b.kid i) (q i) ++ (r ++ post) = xs := by
              rw [← Hx.out, hr, hstep]
              simp
            have hbd : q i + 16 ^ (M + 1) ≤ 4096 := by
              rw [Hq.out]
              have h1 : (i + 1) * 16 ^ (M + 1) ≤ 16 * 16 ^ (M + 1) := Nat.mul_le_mul_right _ (by omega)
              have h2 := Hf.out
              rw [Nat.pow_succ 16 (M + 1), Nat.mul_comm] at h2
              rw [Nat.add_mul] at h1
              omega
            have hlm : lv - 1 = M := by have := Hlv.out; omega
            have Hstep := Lib.hid hstep
            have Hxs := Lib.hid hxs
            have Hbd := Lib.hid hbd
            have Hlm := Lib.hid hlm
            have Nx := Lib.hid nx
            clear hstep hxs hbd hlm nx nb' nn hr
            go_region_with (first | (go_at_call 42; refine (IH'.out M rfl (a.kid i) (b.kid i) _ (q i) (pre ++ diffTo (M + 1) a b first n) (r ++ post) K2 _ Hlm.out (ha2.out.kid i) (hb2'.out.kid i) hT2.out (by exact hj3.out) Hxs.out Hbd.out).mono ?_; intro e W' hd; obtain ⟨tt, rfl, hd⟩ := hd.bool))
            all_goals
              clear c1a c1b
              cases tt
            all_goals
              go_wp2_with fail
              first
              | (go_ret
                 rcases hd with ⟨h, _⟩ | ⟨_, h⟩
                 · cases h
                 · exact .inr ⟨rfl, h⟩)
              | (rcases hd with ⟨h, K3, hs3, hj4⟩ | ⟨h, _⟩
                 · go_roundw
                   case rel => exact ⟨i + 1, m &&& (m - 1), K3, by omega, rfl, Nx.out, (by rw [Hstep.out, ← List.append_assoc]; exact hj4 : J (pre ++ diffTo (M + 1) a b first (i + 1)) K3 _), he2.out.trans hs3⟩
                   case measure => simp [intOf]; exact hmlt
                 · cases h)

theorem differ_ok : ∀ L, L ≤ 2 → DiffSaid Tryd.prog xs l J Jx L
  | 0, h => differ_step hIn hgrow hY 0 h (fun M e => by omega)
  | L + 1, h => differ_step hIn hgrow hY (L + 1) h (fun M e => by
      obtain rfl : M = L := by omega
      exact differ_ok M (by omega))
end
end Go.Proofs.YtpfdlpniijgakaaDoor
