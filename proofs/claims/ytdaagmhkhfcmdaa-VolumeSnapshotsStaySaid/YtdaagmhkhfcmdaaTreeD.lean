/- What Tree.Set and Tree.Clear do. -/
import Derived.Test.YtdaagmhkhfcmdaaTreeC
import Derived.Test.YtdaagmhkhfcmdaaOps
namespace Go.Proofs.Ytdaagmhkhfcmdaa
open Go Go.RowKit
set_option maxHeartbeats 400000

/-- A tree as Go has it: its root and its length. -/
def treeV (t : PT) (n : Int) : Value := .agg #[.pointer t.ptr, .int .i64 n]

/-- (t', n') is what Set makes of (t, n). -/
def SetT (base : Nat) (t : PT) (n blk ch : Int) (t' : PT) (n' : Int) : Prop :=
  if ¬ (0 ≤ blk ∧ blk < 4096) ∨ t.look blk = (ch, true) then t' = t ∧ n' = n
  else t'.isNil = false ∧ PT.Set 2 base t blk.toNat ch t' ∧ n' = if (t.look blk).2 then n else n + 1

/-- (t', n') is what Clear makes of (t, n). -/
def ClrT (base : Nat) (t : PT) (n blk : Int) (t' : PT) (n' : Int) : Prop :=
  if (t.look blk).2 then PT.Clr 2 base t blk.toNat t' ∧ n' = n - 1 else t' = t ∧ n' = n

theorem zero_Tree (w : World) : (zeroValue 86).run Try.prog w = .ok (.agg #[.pointer none, .int .i64 0]) w := by kernel_rfl
theorem size_Tree : (Try.prog.info? 86).map (·.size) = some 2 := by kernel_rfl

theorem get_at (K : Fz) (t : PT) (n blk : Int) (r : Int × Bool) (w : World) (hr : t.look blk = r) (hK : K.In w) (ht : Tr 153 K t) :
    Calls Try.prog 76 #[.agg #[.pointer t.ptr, .int .i64 n], .int .i64 blk] w fun e w' =>
      e = .returned (.tuple #[.int .i64 r.1, .bool r.2]) ∧ Below w.heap.size w w' := by
  subst hr; exact get_ok K t n blk w hK ht

theorem ret_cell2 {fn : Func} {R : Ending → World → Prop} {P : Program} {tmps : Array Value} {w : World} {p : Tmp} {T t : TypeId} {g : Nat} {cs : Array Value} {d : TypeDesc}
    (h : fn.results = #[.cell p T]) (hp : tmps.getD p undef = .pointer (some ⟨g, 0, none⟩)) (hg : w.heap[g]? = some (.cells cs t (0, 0)))
    (hu : P.underlying T = some d) (hd : (match d with | .struct _ | .array _ _ => true | _ => false) = true) (hi : (P.info? T).map (·.size) = some cs.size)
    (hR : R (.returned (.agg cs)) w) : bodyPost P fn R .ret { tmps := tmps, defers := [] } w :=
  bodyPost_ret (results_cell_row h tmps w g t cs (0, 0) d hp hg hu hd hi) rfl hR

set_option maxRecDepth 100000 in
theorem Set_ok (K : Fz) (t : PT) (n blk ch : Int) (w : World) (hK : K.In w) (ht : Tr 153 K t) (hn0 : -1000000 ≤ n) (hn1 : n ≤ 1000000) :
    Calls Try.prog 39 #[treeV t n, .int .i64 blk, .int .i64 ch] w
      (Ret K w fun K' v => ∃ t' n', v = treeV t' n' ∧ Tr 153 K' t' ∧ SetT w.heap.size t n blk ch t' n') := by
  unfold treeV
  obtain ⟨x, hx⟩ : ∃ x, t.look blk = x := ⟨_, rfl⟩
  obtain ⟨old, is⟩ := x
  have Hx := Lib.hid hx
  clear hx
  have s := St.start hK
  by_cases hv : 0 ≤ blk ∧ blk < 4096
  · obtain ⟨h0, h1⟩ := hv
    have hB0 : decide (0 ≤ blk ∧ blk < 4096) = true := by simp [h0, h1]
    by_cases hsame : is = true ∧ old = ch
    · obtain ⟨rfl, rfl⟩ := hsame
      go_enter Try.func39, Try.ntmps39
      go_wp2_with (first
        | ((with_reducible refine gate_box (T := 86) ?_); refine wpList_boxG rfl rfl rfl (cs := #[.pointer t.ptr, .int .i64 n]) rfl ?_; intro g1 W1 e hn; have o1 := Own.made s e hn; replace s := s.new hn; clear e hn)
        | ((with_reducible refine gate_alloc (T := 86) ?_); refine wpList_allocG rfl rfl zero_Tree (cs := #[.pointer none, .int .i64 0]) rfl ?_; intro g2 W2 e hn; have n1_2 := Lib.hid (o1.ne e); have o2 := Own.made s e hn; replace s := s.new hn; replace o1 := o1.new hn; clear e hn)
        | ((with_reducible refine gate_load (T := 86) (x := .tmp 3) ?_); refine wpList_load_row rfl 86 _ rfl _ rfl 86 _ _ _ o1.at_ Try.underlying86 rfl (by rw [size_Tree]; rfl) ?_)
        | (go_at_call 76; refine (get_at _ _ _ _ (_, _) _ Hx.out s.inn ht).mono ?_; rintro e W ⟨rfl, hb⟩; replace o1 := o1.quiet hb; replace o2 := o2.quiet hb; replace s := s.quiet hb; clear hb)
        | (go_at_call 77; refine (valid_ok _ _).mono ?_; rintro e w' ⟨rfl, rfl⟩)
        | ((with_reducible refine gate_load (T := 3) (x := .tmp 29) ?_); refine wpList_loadCell rfl rfl rfl Try.underlying3 rfl o1.at_ rfl ?_)
        | ((with_reducible refine gate_load (T := 84) (x := .tmp 33) ?_); refine wpList_loadCell rfl rfl rfl Try.underlying84 rfl o1.at_ rfl ?_)
        | ((with_reducible refine gate_store (T := 86) (x := .tmp 6) ?_); refine wpList_storeAll rfl rfl rfl rfl (cs := #[.pointer t.ptr, .int .i64 n]) rfl o2.at_ rfl (by rw [size_Tree]; rfl) (by simp [Value.oneCell']) ?_; intro W hu; replace s := s.upd o2 hu; replace o1 := o1.other hu n1_2.out; replace o2 := o2.upd hu; clear hu)
        | fail)
      refine ret_cell2 rfl rfl o2.at_ Try.underlying86 rfl (by rw [size_Tree]; rfl) ?_
      exact s.ret ⟨t, n, rfl, ht, by unfold SetT; rw [if_pos (.inr Hx.out)]; exact ⟨rfl, rfl⟩⟩
    · have hnot : ¬ (¬ (0 ≤ blk ∧ blk < 4096) ∨ t.look blk = (ch, true)) := by
        rw [Hx.out]
        rintro (h | h)
        · exact h ⟨h0, h1⟩
        · injection h with e1 e2; exact hsame ⟨e2, e1⟩
      have Hnot := Lib.hid hnot
      clear hnot
      cases is with
      | false =>
        clear hsame
        go_enter Try.func39, Try.ntmps39
        go_wp2_with (first
          | ((with_reducible refine gate_box (T := 86) ?_); refine wpList_boxG rfl rfl rfl (cs := #[.pointer t.ptr, .int .i64 n]) rfl ?_; intro g1 W1 e hn; have o1 := Own.made s e hn; replace s := s.new hn; clear e hn)
          | ((with_reducible refine gate_alloc (T := 86) ?_); refine wpList_allocG rfl rfl zero_Tree (cs := #[.pointer none, .int .i64 0]) rfl ?_; intro g2 W2 e hn; have n1_2 := Lib.hid (o1.ne e); have o2 := Own.made s e hn; replace s := s.new hn; replace o1 := o1.new hn; clear e hn)
          | ((with_reducible refine gate_load (T := 86) (x := .tmp 3) ?_); refine wpList_load_row rfl 86 _ rfl _ rfl 86 _ _ _ o1.at_ Try.underlying86 rfl (by rw [size_Tree]; rfl) ?_)
          | (go_at_call 76; refine (get_at _ _ _ _ (_, _) _ Hx.out s.inn ht).mono ?_; rintro e W ⟨rfl, hb⟩; replace o1 := o1.quiet hb; replace o2 := o2.quiet hb; replace s := s.quiet hb; clear hb)
          | (go_at_call 77; refine (valid_ok _ _).mono ?_; rintro e w' ⟨rfl, rfl⟩)
          | ((with_reducible refine gate_load (T := 3) (x := .tmp 29) ?_); refine wpList_loadCell rfl rfl rfl Try.underlying3 rfl o1.at_ rfl ?_)
          | ((with_reducible refine gate_load (T := 84) (x := .tmp 33) ?_); refine wpList_loadCell rfl rfl rfl Try.underlying84 rfl o1.at_ rfl ?_)
          | ((with_reducible refine gate_store (T := 3) (x := .tmp 32) ?_); refine wpList_storeCell rfl rfl rfl (v := .int .i64 (n + 1)) rfl o1.at_ (by simp) (by kernel_rfl) rfl rfl ?_; intro W hu; replace s := s.upd o1 hu; replace o2 := o2.other hu (Ne.symm n1_2.out); replace o1 := o1.upd hu; clear hu)
          | (go_at_call 78; have s1 := Lib.hid s.size; refine (set_ok 2 (by omega) _ _ _ K t _ rfl s.inn ht h0 h1).mono ?_; rintro e W ⟨v, K', rfl, hi, hl, hb, t', rfl, ht', hnil, hset⟩; replace o1 := o1.call hl hb; replace o2 := o2.call hl hb; replace s := s.call hi hl hb; clear hi hl hb)
          | ((with_reducible refine gate_store (T := 84) (x := .tmp 38) ?_); refine wpList_storeCell rfl rfl rfl (v := .pointer t'.ptr) rfl o1.at_ (by simp) (by kernel_rfl) rfl rfl ?_; intro W hu; replace s := s.upd o1 hu; replace o2 := o2.other hu (Ne.symm n1_2.out); replace o1 := o1.upd hu; clear hu)
          | ((with_reducible refine gate_load (T := 86) (x := .tmp 3) ?_); refine wpList_load_row rfl 86 _ rfl _ rfl 86 _ _ _ o1.at_ Try.underlying86 rfl (by rw [size_Tree]; rfl) ?_)
          | ((with_reducible refine gate_store (T := 86) (x := .tmp 6) (y := .tmp 39) ?_); refine wpList_storeAll rfl rfl rfl rfl (cs := #[.pointer t'.ptr, .int .i64 (n + 1)]) rfl o2.at_ rfl (by rw [size_Tree]; rfl) (by simp [Value.oneCell']) ?_; intro W hu; replace s := s.upd o2 hu; replace o1 := o1.other hu n1_2.out; replace o2 := o2.upd hu; clear hu)
          | fail)
        refine ret_cell2 rfl rfl o2.at_ Try.underlying86 rfl (by rw [size_Tree]; rfl) ?_
        refine s.ret ⟨t', n + 1, rfl, ht', ?_⟩
        unfold SetT
        rw [if_neg Hnot.out, Hx.out]
        exact ⟨hnil, hset.mono s1.out, rfl⟩
      | true =>
        have hne : (old == ch) = false := by rw [beq_eq_false_iff_ne]; exact fun h => hsame ⟨rfl, h⟩
        clear hsame
        go_enter Try.func39, Try.ntmps39
        go_wp2_with (first
          | ((with_reducible refine gate_box (T := 86) ?_); refine wpList_boxG rfl rfl rfl (cs := #[.pointer t.ptr, .int .i64 n]) rfl ?_; intro g1 W1 e hn; have o1 := Own.made s e hn; replace s := s.new hn; clear e hn)
          | ((with_reducible refine gate_alloc (T := 86) ?_); refine wpList_allocG rfl rfl zero_Tree (cs := #[.pointer none, .int .i64 0]) rfl ?_; intro g2 W2 e hn; have n1_2 := Lib.hid (o1.ne e); have o2 := Own.made s e hn; replace s := s.new hn; replace o1 := o1.new hn; clear e hn)
          | ((with_reducible refine gate_load (T := 86) (x := .tmp 3) ?_); refine wpList_load_row rfl 86 _ rfl _ rfl 86 _ _ _ o1.at_ Try.underlying86 rfl (by rw [size_Tree]; rfl) ?_)
          | (go_at_call 76; refine (get_at _ _ _ _ (_, _) _ Hx.out s.inn ht).mono ?_; rintro e W ⟨rfl, hb⟩; replace o1 := o1.quiet hb; replace o2 := o2.quiet hb; replace s := s.quiet hb; clear hb)
          | (go_at_call 77; refine (valid_ok _ _).mono ?_; rintro e w' ⟨rfl, rfl⟩)
          | ((with_reducible refine gate_load (T := 3) (x := .tmp 29) ?_); refine wpList_loadCell rfl rfl rfl Try.underlying3 rfl o1.at_ rfl ?_)
          | ((with_reducible refine gate_load (T := 84) (x := .tmp 33) ?_); refine wpList_loadCell rfl rfl rfl Try.underlying84 rfl o1.at_ rfl ?_)
          | (go_at_call 78; have s1 := Lib.hid s.size; refine (set_ok 2 (by omega) _ _ _ K t _ rfl s.inn ht h0 h1).mono ?_; rintro e W ⟨v, K', rfl, hi, hl, hb, t', rfl, ht', hnil, hset⟩; replace o1 := o1.call hl hb; replace o2 := o2.call hl hb; replace s := s.call hi hl hb; clear hi hl hb)
          | ((with_reducible refine gate_store (T := 84) (x := .tmp 38) ?_); refine wpList_storeCell rfl rfl rfl (v := .pointer t'.ptr) rfl o1.at_ (by simp) (by kernel_rfl) rfl rfl ?_; intro W hu; replace s := s.upd o1 hu; replace o2 := o2.other hu (Ne.symm n1_2.out); replace o1 := o1.upd hu; clear hu)
          | ((with_reducible refine gate_load (T := 86) (x := .tmp 3) ?_); refine wpList_load_row rfl 86 _ rfl _ rfl 86 _ _ _ o1.at_ Try.underlying86 rfl (by rw [size_Tree]; rfl) ?_)
          | ((with_reducible refine gate_store (T := 86) (x := .tmp 6) (y := .tmp 39) ?_); refine wpList_storeAll rfl rfl rfl rfl (cs := #[.pointer t'.ptr, .int .i64 n]) rfl o2.at_ rfl (by rw [size_Tree]; rfl) (by simp [Value.oneCell']) ?_; intro W hu; replace s := s.upd o2 hu; replace o1 := o1.other hu n1_2.out; replace o2 := o2.upd hu; clear hu)
          | fail)
        refine ret_cell2 rfl rfl o2.at_ Try.underlying86 rfl (by rw [size_Tree]; rfl) ?_
        refine s.ret ⟨t', n, rfl, ht', ?_⟩
        unfold SetT
        rw [if_neg Hnot.out, Hx.out]
        exact ⟨hnil, hset.mono s1.out, rfl⟩
  · have hB0 : decide (0 ≤ blk ∧ blk < 4096) = false := by simp; omega
    go_enter Try.func39, Try.ntmps39
    go_wp2_with (first
      | ((with_reducible refine gate_box (T := 86) ?_); refine wpList_boxG rfl rfl rfl (cs := #[.pointer t.ptr, .int .i64 n]) rfl ?_; intro g1 W1 e hn; have o1 := Own.made s e hn; replace s := s.new hn; clear e hn)
      | ((with_reducible refine gate_alloc (T := 86) ?_); refine wpList_allocG rfl rfl zero_Tree (cs := #[.pointer none, .int .i64 0]) rfl ?_; intro g2 W2 e hn; have n1_2 := Lib.hid (o1.ne e); have o2 := Own.made s e hn; replace s := s.new hn; replace o1 := o1.new hn; clear e hn)
      | ((with_reducible refine gate_load (T := 86) (x := .tmp 3) ?_); refine wpList_load_row rfl 86 _ rfl _ rfl 86 _ _ _ o1.at_ Try.underlying86 rfl (by rw [size_Tree]; rfl) ?_)
      | (go_at_call 76; refine (get_at _ _ _ _ (_, _) _ Hx.out s.inn ht).mono ?_; rintro e W ⟨rfl, hb⟩; replace o1 := o1.quiet hb; replace o2 := o2.quiet hb; replace s := s.quiet hb; clear hb)
      | (go_at_call 77; refine (valid_ok _ _).mono ?_; rintro e w' ⟨rfl, rfl⟩)
      | ((with_reducible refine gate_load (T := 3) (x := .tmp 29) ?_); refine wpList_loadCell rfl rfl rfl Try.underlying3 rfl o1.at_ rfl ?_)
      | ((with_reducible refine gate_load (T := 84) (x := .tmp 33) ?_); refine wpList_loadCell rfl rfl rfl Try.underlying84 rfl o1.at_ rfl ?_)
      | ((with_reducible refine gate_store (T := 86) (x := .tmp 6) ?_); refine wpList_storeAll rfl rfl rfl rfl (cs := #[.pointer t.ptr, .int .i64 n]) rfl o2.at_ rfl (by rw [size_Tree]; rfl) (by simp [Value.oneCell']) ?_; intro W hu; replace s := s.upd o2 hu; replace o1 := o1.other hu n1_2.out; replace o2 := o2.upd hu; clear hu)
      | fail)
    refine ret_cell2 rfl rfl o2.at_ Try.underlying86 rfl (by rw [size_Tree]; rfl) ?_
    exact s.ret ⟨t, n, rfl, ht, by unfold SetT; rw [if_pos (.inl hv)]; exact ⟨rfl, rfl⟩⟩
end Go.Proofs.Ytdaagmhkhfcmdaa
