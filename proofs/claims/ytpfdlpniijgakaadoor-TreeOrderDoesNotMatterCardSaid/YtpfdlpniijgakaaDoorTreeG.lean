/- What gather and Nodes do. -/
import Derived.Test.YtpfdlpniijgakaaDoorTreeE
import Derived.Test.YtpfdlpniijgakaaDoorMaps
namespace Go.Proofs.YtpfdlpniijgakaaDoor
open Go Go.RowKit
set_option maxHeartbeats 400000

/-- The blocks that have been seen, and those of a tree. -/
def gath : PT → List Nat → List Nat
  | .nil, S => S
  | .node b _ k _, S => if b ∈ S then S else (List.range 16).foldl (fun S i => gath (k i) S) (S ++ [b])

def gathTo (k : Nat → PT) (n : Nat) (S : List Nat) : List Nat := (List.range n).foldl (fun S i => gath (k i) S) S
theorem gathTo_succ (k : Nat → PT) (n : Nat) (S : List Nat) : gathTo k (n + 1) S = gath (k n) (gathTo k n S) := by simp [gathTo, List.range_succ]

/-- All of these blocks are frozen cells. -/
def Seen (K : Fz) (S : List Nat) : Prop := ∀ b ∈ S, ∃ c t, K b = some (.cells c t (0, 0))
theorem Seen.isCells {K : Fz} {S : List Nat} {w : World} (h : Seen K S) (hK : K.In w) : ∀ b ∈ S, IsCells w b := fun b hb => by
  obtain ⟨c, t, hk⟩ := h b hb; exact ⟨c, t, hK.get hk⟩
theorem Seen.gath {T : Nat} {K : Fz} : ∀ {t : PT} {S : List Nat}, Tr T K t → Seen K S → Seen K (gath t S) := by
  intro t
  induction t with
  | nil => intro S _ h; exact h
  | node b h k c ih =>
    rintro S ⟨hb, hh, hk⟩ hS
    unfold Go.Proofs.YtpfdlpniijgakaaDoor.gath
    split
    · exact hS
    · have h1 : Seen K (S ++ [b]) := by
        intro x hx
        rcases List.mem_append.1 hx with hx | hx
        · exact hS x hx
        · obtain rfl := List.mem_singleton.1 hx; exact ⟨_, _, hb⟩
      have : ∀ (l : List Nat) (S : List Nat), Seen K S → Seen K (l.foldl (fun S i => Go.Proofs.YtpfdlpniijgakaaDoor.gath (k i) S) S) := by
        intro l
        induction l with
        | nil => intro S h; exact h
        | cons i l ihl => intro S h; exact ihl _ (ih i (hk i) h)
      exact this _ _ h1

def kidList (h : Nat) (k : Nat → PT) (c : Nat → Int) : List Value := ((nodeCells h k c).toList.drop 1).take 16
theorem kids_get (h : Nat) (k : Nat → PT) (c : Nat → Int) (i : Nat) (hi : i < 16) : (kidList h k c).toArray[i]? = some (.pointer (k i).ptr) := by
  have := nodeCells_kid h k c i hi
  simp [kidList, List.getElem?_take, hi]
  simpa [Nat.add_comm] using this

theorem kids_off {h : Nat} {k : Nat → PT} {c : Nat → Int} (j : Nat) (v : Value) (hv : (kidList h k c)[j]? = some v) : (nodeCells h k c)[1 + j]? = some v := by
  unfold kidList at hv
  rw [List.getElem?_take] at hv
  split at hv
  · rw [Nat.add_comm]; simpa using hv
  · cases hv
theorem size_kids : (Tryd.prog.info? 73).map (·.size) = some 16 := by kernel_rfl
theorem zero_bool {w : World} : (zeroValue 4).run Tryd.prog w = .ok (.bool false) w := by kernel_rfl
theorem _root_.Go.Proofs.YtpfdlpniijgakaaDoor.Upd.trans {w w1 w2 : World} {m : Nat} {o1 o2 : Obj} (h : Upd w m o1 w1) (k : Upd w1 m o2 w2) : Upd w m o2 w2 :=
  ⟨k.os.trans h.os, k.tape.trans h.tape, k.output.trans h.output, k.size.trans h.size, k.here, fun x hx => (k.other x hx).trans (h.other x hx)⟩

theorem not_mem_of {b : Nat} {S : List Nat} (h : decide (b ∈ S) = false) : b ∉ S := of_decide_eq_false h

set_option maxRecDepth 100000 in
theorem gather_ok (t : PT) : ∀ (K : Fz) (S : List Nat) (m : Nat) (w : World), K.In w → Tr 76 K t → Seen K S → w.heap[m]? = some (mapOf S) → K m = none →
    Calls Tryd.prog 31 #[.pointer t.ptr, .map (some m)] w fun e w' => e = .returned (.tuple #[]) ∧ Upd w m (mapOf (gath t S)) w' := by
  induction t with
  | nil =>
    intro K S m w hK ht hS hm hn
    have hp : PT.nil.ptr = none := rfl
    go_enter Tryd.func31, Tryd.ntmps31
    go_wp2
    refine bodyPost_ret (results_none rfl _ _ _) rfl ?_
    exact ⟨rfl, rfl, rfl, rfl, rfl, hm, fun _ _ => rfl⟩
  | node b h k c ih =>
    intro K S m w hK ht hS hm hn
    have IH := Lib.hid ih
    clear ih
    obtain ⟨hb, hh, hk⟩ := ht
    have hp : (PT.node b h k c).ptr = some ⟨b, 0, none⟩ := rfl
    have hbc : IsCells w b := ⟨_, _, hK.get hb⟩
    have hgS : gath (.node b h k c) S = if b ∈ S then S else gathTo k 16 (S ++ [b]) := rfl
    rw [hgS]
    clear hgS
    obtain ⟨j, hj, hz⟩ := Option.map_eq_some_iff.1 size_node
    have hsz : j.size ≠ 0 := by rw [hz]; decide
    clear hz
    have hSc := hS.isCells hK
    by_cases hmem : b ∈ S
    · rw [if_pos hmem]
      have hd := decide_eq_true hmem
      go_enter Tryd.func31, Tryd.ntmps31
      go_wp2_with (first
        | ((with_reducible refine gate_lookup ?_); refine wpList_lookup_ptr rfl rfl rfl rfl Tryd.underlying62 Tryd.underlying29 hj hsz zero_bool hm hSc hbc ?_)
        | fail)
      refine bodyPost_ret (results_none rfl _ _ _) rfl ?_
      exact ⟨rfl, rfl, rfl, rfl, rfl, hm, fun _ _ => rfl⟩
    · rw [if_neg hmem]
      have hd := decide_eq_false hmem
      have hS1 : Seen K (S ++ [b]) := by
        intro x hx
        rcases List.mem_append.1 hx with hx | hx
        · exact hS x hx
        · obtain rfl := List.mem_singleton.1 hx; exact ⟨_, _, hb⟩
      have hSt : ∀ n, Seen K (gathTo k n (S ++ [b])) := by
        intro n
        induction n with
        | zero => exact hS1
        | succ n ihn => rw [gathTo_succ]; exact Seen.gath (hk n) ihn
      have Hmem := Lib.hid hmem
      have HSt := Lib.hid hSt
      clear hmem hSt
      go_enter Tryd.func31, Tryd.ntmps31
      go_wp2_with (first
        | ((with_reducible refine gate_lookup ?_); refine wpList_lookup_ptr rfl rfl rfl rfl Tryd.underlying62 Tryd.underlying29 hj hsz zero_bool hm hSc hbc ?_)
        | ((with_reducible refine gate_mapUpdate ?_); refine wpList_update_ptr rfl rfl rfl rfl rfl Tryd.underlying62 Tryd.underlying29 hj hsz hm hSc hbc Hmem.out ?_; intro W hu)
        | ((with_reducible refine gate_load (T := 73) ?_); refine wpList_loadAgg (vs := kidList h k c) rfl rfl rfl Tryd.underlying73 rfl ((hu.inn hK hn).get hb) (by rw [size_kids]; simp [kidList, nodeCells_size]) kids_off ?_)
        | fail)
      go_loopw [5, 19] (fun _ i wr => ∃ n : Nat, n ≤ 16 ∧ i = .int .i64 n ∧ Hid (Upd w m (mapOf (gathTo k n (S ++ [b]))) wr)) (fun _ i _ => 16 - (intOf i).toNat)
      case atStart => exact ⟨0, by omega, rfl, hu⟩
      case round =>
        obtain ⟨n, hn16, rfl, hU⟩ := hrel
        by_cases hlt : n < 16
        · have hkg := kids_get h k c n hlt
          go_wp2_with (first
            | ((with_reducible refine gate_index ?_); refine wpList_indexAgg (i := n) rfl rfl rfl rfl Tryd.underlying73 Tryd.underlying29 rfl (by kernel_rfl) hlt hkg ?_)
            | (go_at_call 31; refine (IH.out n K _ m _ (hU.out.inn hK hn) (hk n) (HSt.out n) hU.out.here hn).mono ?_; rintro e w' ⟨rfl, hu2⟩)
            | fail)
          go_roundw
          case rel => exact ⟨n + 1, by omega, by go_num, by rw [gathTo_succ]; exact hU.out.trans hu2⟩
          case measure => simp [intOf]; omega
        · obtain rfl : n = 16 := by omega
          go_wp2_with fail
          refine bodyPost_end (results_none rfl _ _ _) rfl ?_
          exact ⟨rfl, hU.out⟩

end Go.Proofs.YtpfdlpniijgakaaDoor
