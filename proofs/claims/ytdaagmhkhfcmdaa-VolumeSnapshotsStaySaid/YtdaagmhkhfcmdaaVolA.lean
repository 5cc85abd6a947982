/- Volumes, snapshots and spaces as plain data; the small functions: tenantOK, blockOK, New, get. -/
import Derived.Test.YtdaagmhkhfcmdaaTreeD
import Derived.Test.YtdaagmhkhfcmdaaSl
import Derived.Test.YtdaagmhkhfcmdaaVolM
namespace Go.Proofs.Ytdaagmhkhfcmdaa
open Go Go.RowKit
set_option maxHeartbeats 400000

/-- A volume: its number, its tenant, its tree, its count; and what the tree maps. -/
structure Vol where
  id : Int
  ten : Int
  t : PT
  n : Int
  L : Ents
/-- A snapshot: a volume's state and the volume it was made from. -/
structure Snp extends Vol where
  from_ : Int
def encV (v : Vol) : List Value := [.int .i64 v.id, .int .i64 v.ten, .pointer v.t.ptr, .int .i64 v.n]
def encS (s : Snp) : List Value := [.int .i64 s.id, .int .i64 s.ten, .pointer s.t.ptr, .int .i64 s.n, .int .i64 s.from_]
/-- A space: its volumes and its snapshots. -/
structure Spc where
  vs : List Vol
  ss : List Snp
/-- The slice's address, if it has one, is a plain one. -/
def FlatS (v : Value) : Prop := ∀ a n c, v = .slice a n c → a = none ∨ ∃ b off, a = some ⟨b, off, none⟩
theorem FlatS.nil (n c : Nat) : FlatS (.slice none n c) := fun a _ _ h => by cases h; exact .inl rfl
/-- The space lies frozen in the ghost, with all its trees. -/
def SpK (K : Fz) (v : Value) (S : Spc) : Prop :=
  ∃ b t sv ss, v = .pointer (some ⟨b, 0, none⟩) ∧ K b = some (.cells #[sv, ss] t (0, 0)) ∧ SlK K 4 encV sv S.vs ∧ SlK K 5 encS ss S.ss ∧
    (∀ x ∈ S.vs, Tr 153 K x.t) ∧ (∀ x ∈ S.ss, Tr 153 K x.t) ∧ FlatS sv ∧ FlatS ss

theorem SpK.call {K K' : Fz} {W : World} {v : Value} {S : Spc} (h : SpK K v S) (hi : K.In W) (hl : K.Le W.heap.size K') : SpK K' v S := by
  obtain ⟨b, t, sv, ss, hv, hb, h1, h2, h3, h4, h5⟩ := h
  exact ⟨b, t, sv, ss, hv, hl.keep hi (Nat.le_refl _) hb, h1.call hi hl, h2.call hi hl, fun x hx => (h3 x hx).call hi hl, fun x hx => (h4 x hx).call hi hl, h5⟩

theorem blockOK_ok (n : Int) (w : World) : Calls Try.prog 36 #[.int .i64 n] w fun e w' => e = .returned (.bool (decide (0 ≤ n ∧ n < 4096))) ∧ w = w' := by
  by_cases h0 : 0 ≤ n <;> by_cases h1 : n < 4096
  all_goals
    go_enter Try.func36, Try.ntmps36
    go_wp2
    all_goals go_ret
    all_goals simp [h0, h1]

theorem tenantOK_ok (n : Int) (w : World) : Calls Try.prog 67 #[.int .i64 n] w fun e w' => e = .returned (.bool (decide (0 ≤ n ∧ n < 16))) ∧ w = w' := by
  by_cases h0 : 0 ≤ n <;> by_cases h1 : n < 16
  all_goals
    go_enter Try.func67, Try.ntmps67
    go_wp2
    all_goals go_ret
    all_goals simp [h0, h1]

/-- A chunk and an error number. -/
def intErr (r : Int × Int) : Value := .tuple #[.int .i64 r.1, .int .i64 r.2]
/-- What Get says of a block: the chunk; 1 for a bad block, 12 for one that is not mapped. -/
def PT.at_ (t : PT) (blk : Int) : Int × Int := if 0 ≤ blk ∧ blk < 4096 then (if (t.look blk).2 then ((t.look blk).1, 0) else (0, 12)) else (0, 1)

theorem New_ok (K : Fz) (w : World) (hK : K.In w) : Calls Try.prog 10 #[] w (Ret K w fun K' v => SpK K' v ⟨[], []⟩) := by
  have s := St.start hK
  go_enter Try.func10, Try.ntmps10
  go_wp2_with (first
    | ((with_reducible refine gate_build (T := 77) ?_); refine wpList_build0 rfl rfl (v := .agg #[.slice none 0 0, .slice none 0 0]) (fun w => by kernel_rfl) ?_)
    | ((with_reducible refine gate_box (T := 77) ?_); refine wpList_boxG rfl rfl rfl (cs := #[.slice none 0 0, .slice none 0 0]) rfl ?_; intro g1 W1 e hn; have o1 := Own.made s e hn; replace s := s.new hn; clear e hn)
    | fail)
  go_ret
  exact (s.freeze o1).ret ⟨_, _, _, _, rfl, Fz.add_self _ _ _, SlK.nil _ _ _ _ _, SlK.nil _ _ _ _ _, by simp, by simp, FlatS.nil _ _, FlatS.nil _ _⟩

theorem vget_ok (K : Fz) (t : PT) (n blk : Int) (w : World) (hK : K.In w) (ht : Tr 153 K t) :
    Calls Try.prog 43 #[.agg #[.pointer t.ptr, .int .i64 n], .int .i64 blk] w fun e w' => e = .returned (intErr (t.at_ blk)) ∧ Below w.heap.size w w' := by
  have s := St.start hK
  by_cases h0 : 0 ≤ blk ∧ blk < 4096
  · have hb : Hid (decide (0 ≤ blk ∧ blk < 4096) = true) := Lib.hid (by simp [h0])
    have hat : Hid (t.at_ blk = if (t.look blk).2 then ((t.look blk).1, 0) else (0, 12)) := Lib.hid (by rw [PT.at_, if_pos h0])
    obtain ⟨⟨c, ok⟩, hr⟩ : ∃ r, t.look blk = r := ⟨_, rfl⟩
    rw [hr] at hat
    have hg := Lib.hid fun W (hW : K.In W) => get_at K t n blk (c, ok) W hr hW ht
    clear h0 hr ht
    cases ok
    all_goals
      go_enter Try.func43, Try.ntmps43
      go_wp2_with (first
        | ((with_reducible refine gate_box (T := 86) (x := .tmp 0) ?_); refine wpList_boxG rfl rfl rfl (cs := #[.pointer t.ptr, .int .i64 n]) rfl ?_; intro g1 W1 e hn; have o1 := Own.made s e hn; replace s := s.new hn; clear e hn)
        | ((with_reducible refine gate_load (T := 86) ?_); refine wpList_load_row rfl 86 _ rfl _ rfl 86 _ _ _ o1.at_ Try.underlying86 rfl (by kernel_rfl) ?_)
        | (go_at_call 36; refine (blockOK_ok blk _).mono ?_; rw [hb.out]; rintro e W ⟨rfl, rfl⟩)
        | (go_at_call 76; refine (hg.out _ s.inn).mono ?_; rintro e W ⟨rfl, hb2⟩; replace o1 := o1.quiet hb2; replace s := s.quiet hb2; clear hb2)
        | fail)
      go_ret2
      refine ⟨?_, s.below⟩
      rw [hat.out]
      rfl
  · have hb : Hid (decide (0 ≤ blk ∧ blk < 4096) = false) := Lib.hid (by simpa using h0)
    have hat : Hid (t.at_ blk = (0, 1)) := Lib.hid (by rw [PT.at_, if_neg h0])
    clear h0 ht
    go_enter Try.func43, Try.ntmps43
    go_wp2_with (first
      | ((with_reducible refine gate_box (T := 86) (x := .tmp 0) ?_); refine wpList_boxG rfl rfl rfl (cs := #[.pointer t.ptr, .int .i64 n]) rfl ?_; intro g1 W1 e hn; have o1 := Own.made s e hn; replace s := s.new hn; clear e hn)
      | (go_at_call 36; refine (blockOK_ok blk _).mono ?_; rw [hb.out]; rintro e W ⟨rfl, rfl⟩)
      | fail)
    go_ret2
    refine ⟨?_, s.below⟩
    rw [hat.out]
    rfl

end Go.Proofs.Ytdaagmhkhfcmdaa
