/- What Nodes does. -/
import Derived.Test.YtpfdlpniijgakaaDoorTreeG
import Derived.Test.YtpfdlpniijgakaaDoorSl
namespace Go.Proofs.YtpfdlpniijgakaaDoor
open Go Go.RowKit
set_option maxHeartbeats 400000

theorem wpList_makeMap {P : Program} {ops : Array Oper} {rest : List Oper} {o : Oper} {a : Act} {w : World} {Q : Exit → Act → World → Prop} {T : TypeId} (hgd : o.guard = none) (ho : o.op = .makeMap T none)
    (h : ∀ g w', g = w.heap.size → New w (.map #[] 0) w' → wpList P ops Q rest (a.put o.dst (.map (some g))) w') : wpList P ops Q (o :: rest) a w :=
  wpList_run hgd (by simp [execOp, ho, Instr.makeMap, run_newObj_alloc]) (h _ _ rfl (New.alloc _ _))

/-- The cells of a tree as a slice's element has it. -/
def encT (x : PT × Int) : List Value := [.pointer x.1.ptr, .int .i64 x.2]

def gathAll (ts : List (PT × Int)) (S : List Nat) : List Nat := ts.foldl (fun S t => gath t.1 S) S
theorem gathAll_take (ts : List (PT × Int)) (i : Nat) (t : PT × Int) (h : ts[i]? = some t) : gathAll (ts.take (i + 1)) [] = gath t.1 (gathAll (ts.take i) []) := by
  rw [List.take_add_one, h]
  simp [gathAll]

set_option maxRecDepth 100000 in
theorem Nodes_ok (K : Fz) (ts : List (PT × Int)) (v : Value) (w : World) (hK : K.In w) (hv : SlK K 2 encT v ts) (ht : ∀ t ∈ ts, Tr 76 K t.1) (hlen : ts.length ≤ 1000000) :
    Calls Tryd.prog 12 #[v] w fun e w' => e = .returned (.int .i64 ((gathAll ts []).length : Nat)) ∧ Below w.heap.size w w' := by
  obtain ⟨a, cap, rfl, hcap, hx⟩ := hv
  have s := St.start hK
  have hSt : ∀ i, Seen K (gathAll (ts.take i) []) := by
    intro i
    induction i with
    | zero => intro b hb; simp [gathAll] at hb
    | succ i ih =>
      cases h : ts[i]? with
      | none => rw [List.take_of_length_le (by have := List.getElem?_eq_none_iff.1 h; omega)]; rw [List.take_of_length_le (by have := List.getElem?_eq_none_iff.1 h; omega)] at ih; exact ih
      | some t => rw [gathAll_take ts i t h]; exact Seen.gath (ht t (List.mem_of_getElem? h)) ih
  have HSt := Lib.hid hSt
  have Hx := Lib.hid hx
  clear hSt hx
  go_enter Tryd.func12, Tryd.ntmps12
  go_wp2_with (first
    | (refine wpList_makeMap rfl rfl ?_; intro m W e hn; have o1 : Own w K W m (mapOf []) := Own.made s e hn; replace s := s.new hn; clear e hn)
    | fail)
  have hl : 0 ≤ ts.length := Nat.zero_le _
  go_loopw [5, 9] (fun _ i wr => ∃ n : Nat, n ≤ ts.length ∧ i = .int .i64 n ∧ St K w K wr ∧ Own w K wr m (mapOf (gathAll (ts.take n) []))) (fun _ i _ => ts.length - (intOf i).toNat)
  case atStart => exact ⟨0, by omega, rfl, s, by simpa [gathAll] using o1⟩
  case round =>
    clear s o1
    obtain ⟨n, hn, rfl, s, o1⟩ := hrel
    by_cases hlt : n < ts.length
    · obtain ⟨t, htn⟩ : ∃ t, ts[n]? = some t := ⟨_, List.getElem?_eq_getElem hlt⟩
      obtain ⟨b, off, cs, ty, fr, rfl, hb, hj⟩ := Hx.out n t htn
      have hT := ht t (List.mem_of_getElem? htn)
      have Htn := Lib.hid htn
      have Hj := Lib.hid hj
      clear htn hj
      go_wp2_with (first
        | ((with_reducible refine gate_load (T := 31) ?_); refine wpList_loadAgg (vs := encT t) (off := off + n * 2) rfl rfl rfl Tryd.underlying31 rfl (s.inn.get hb) (by rw [size_Tree]; rfl) (fun j u hu => Hj.out j u hu) ?_)
        | ((with_reducible refine gate_alloc (T := 31) ?_); refine wpList_allocG rfl rfl zero_Tree (cs := #[.pointer none, .int .i64 0]) rfl ?_; intro g W e hn2; have n1 := Lib.hid (o1.ne e); have o2 := Own.made s e hn2; replace s := s.new hn2; replace o1 := o1.new hn2; clear e hn2)
        | ((with_reducible refine gate_store (T := 31) ?_); refine wpList_storeAll rfl rfl rfl rfl (cs := #[.pointer t.1.ptr, .int .i64 t.2]) rfl o2.at_ rfl (by rw [size_Tree]; rfl) (by simp [Value.oneCell']) ?_; intro W hu; replace s := s.upd o2 hu; replace o1 := o1.other hu n1.out; replace o2 := o2.upd hu; clear hu)
        | ((with_reducible refine gate_load (T := 29) ?_); refine wpList_loadCell rfl rfl rfl Tryd.underlying29 rfl o2.at_ rfl ?_)
        | (go_at_call 31; refine (gather_ok t.1 K _ m _ s.inn hT (HSt.out n) o1.at_ o1.none_).mono ?_; rintro e W ⟨rfl, hu⟩; replace s := s.upd o1 hu; replace o1 := o1.upd hu; clear hu)
        | fail)
      go_roundw
      case rel => exact ⟨n + 1, by omega, by go_num, s, by rw [gathAll_take ts n t Htn.out]; exact o1⟩
      case measure => simp [intOf]; omega
    · obtain rfl : n = ts.length := by omega
      rw [List.take_length] at o1
      go_wp2_with (first
        | ((with_reducible refine gate_len ?_); refine wpList_lenMap rfl rfl rfl Tryd.underlying62 o1.at_ ?_)
        | fail)
      go_ret
      exact ⟨rfl, s.below⟩
end Go.Proofs.YtpfdlpniijgakaaDoor
