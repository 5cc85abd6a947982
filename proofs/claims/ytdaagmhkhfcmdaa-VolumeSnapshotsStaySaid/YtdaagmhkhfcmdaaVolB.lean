/- at: the index of a volume or snapshot by its number. -/
import Derived.Test.YtdaagmhkhfcmdaaVolA
import Derived.Test.YtdaagmhkhfcmdaaDrawn
namespace Go.Proofs.Ytdaagmhkhfcmdaa
open Go Go.RowKit
set_option maxHeartbeats 400000

theorem number_ok (id ten n : Int) (p : Option Addr) (w : World) :
    Calls Try.prog 123 #[.agg #[.int .i64 id, .int .i64 ten, .pointer p, .int .i64 n]] w fun e w' => e = .returned (.int .i64 id) ∧ Below w.heap.size w w' := by
  go_enter Try.func123, Try.ntmps123
  go_wp2
  all_goals go_ret
  exact ⟨rfl, (Below.refl _ _).alloc (Nat.le_refl _) _⟩

theorem vMethod (id ten n : Int) (p : Option Addr) : ∀ (w : World), Sem.run Try.prog
    (method 278 90 (.agg #[.int .i64 id, .int .i64 ten, .pointer p, .int .i64 n]) "solvent/volume.number") w = .ok (123, .agg #[.int .i64 id, .int .i64 ten, .pointer p, .int .i64 n]) w := fun _ => by kernel_rfl
theorem sMethod (id ten n fr : Int) (p : Option Addr) : ∀ (w : World), Sem.run Try.prog
    (method 278 98 (.agg #[.int .i64 id, .int .i64 ten, .pointer p, .int .i64 n, .int .i64 fr]) "solvent/volume.number") w = .ok (123, .agg #[.int .i64 id, .int .i64 ten, .pointer p, .int .i64 n]) w := fun _ => by kernel_rfl

theorem mixed_ok : Try.prog.follows .mixedOrders = true := by kernel_rfl

set_option maxRecDepth 100000 in
/-- The closure of at: is the number of this volume the one looked for? -/
theorem vAt1_ok (v : Vol) (x : Int) (B : Nat) (w : World) (hB : B < w.heap.size) (hc : w.cell? ⟨B, 0, none⟩ = some (.int .i64 x)) :
    Calls Try.prog 81 #[.agg (encV v).toArray, .pointer (some ⟨B, 0, none⟩)] w fun e w' => e = .returned (.bool (v.id == x)) ∧ Below w.heap.size w w' := by
  obtain ⟨id, ten, t, n, L⟩ := v
  have s := St.start (K0 := fun _ => none) (w := w) (fun _ _ h => by cases h)
  have Hc := Lib.hid hc
  clear hc
  show Calls Try.prog 81 #[.agg #[.int .i64 id, .int .i64 ten, .pointer t.ptr, .int .i64 n], _] w _
  go_enter Try.func81, Try.ntmps81
  go_wp2_with (first
    | ((with_reducible refine gate_box (T := 90) (x := .tmp 0) ?_); refine wpList_boxG rfl rfl rfl (cs := #[.int .i64 id, .int .i64 ten, .pointer t.ptr, .int .i64 n]) rfl ?_; intro g1 W1 e hn; have o1 := Own.made s e hn; replace s := s.new hn; clear e hn)
    | fail)
  refine wp_region_run (m := 5) (n := 9) (I := fun K2 W => St (fun _ => none) w K2 W ∧ Own w K2 W g1 (.cells #[.int .i64 id, .int .i64 ten, .pointer t.ptr, .int .i64 n] 90 (0, 0))) (K0 := fun _ => none)
    (ws := [.is (.agg #[.int .i64 id, .int .i64 ten, .pointer t.ptr, .int .i64 n]), .is (.iface 90 (.agg #[.int .i64 id, .int .i64 ten, .pointer t.ptr, .int .i64 n])), .is (.int .i64 id), .is (.int .i64 x), .is (.bool (id == x))])
    mixed_ok (by kernel_rfl) rfl rfl ?mono ⟨s.drew, o1.drew⟩ ?_
  case mono =>
    simp only [List.forall_mem_cons]
    exact ⟨trivial, trivial, trivial, trivial, trivial, fun _ h => by cases h⟩
  apply RunAll.is_
  · intro K3 W3 hE3 hI3 hF3
    go_wp2_with (first | ((with_reducible refine gate_load (T := 90) ?_); refine wpList_load_row rfl 90 _ rfl _ rfl 90 _ _ _ hI3.2.at_ Try.underlying90 rfl (by kernel_rfl) ?_) | fail)
    exact step_end ⟨⟨K3, Ext.refl _, hI3⟩, rfl⟩
  · rfl
  apply RunAll.is_
  · intro K3 W3 hE3 hI3 hF3
    go_wp2
    exact step_end ⟨⟨K3, Ext.refl _, hI3⟩, rfl⟩
  · rfl
  apply RunAll.is_
  · intro K3 W3 hE3 hI3 hF3
    have hm := vMethod id ten n t.ptr
    go_wp2_with (first | (go_at_call 123; refine (number_ok id ten n t.ptr _).mono ?_; rintro e W4 ⟨rfl, hb⟩) | fail)
    exact step_end ⟨⟨K3, Ext.refl _, hI3.1.quiet hb, hI3.2.quiet hb⟩, rfl⟩
  · rfl
  apply RunAll.is_
  · intro K3 W3 hE3 hI3 hF3
    have c2 := (hI3.1.below.cell (p := ⟨B, 0, none⟩) hB).trans Hc.out
    go_wp2
    exact step_end ⟨⟨K3, Ext.refl _, hI3⟩, rfl⟩
  · rfl
  apply RunAll.is_
  · intro K3 W3 hE3 hI3 hF3
    go_wp2
    exact step_end ⟨⟨K3, Ext.refl _, hI3⟩, rfl⟩
  · rfl
  intro K3 W3 hE3 hI3 hF3
  go_wp2
  go_ret
  exact ⟨rfl, hI3.1.below⟩

end Go.Proofs.Ytdaagmhkhfcmdaa
