/- volumesAre, snapshotsAre: a new space. -/
import Derived.Test.YtdaagmhkhfcmdaaVolE
namespace Go.Proofs.Ytdaagmhkhfcmdaa
open Go Go.RowKit
set_option maxHeartbeats 400000

theorem volumesAre_ok (K : Fz) (v : Value) (S : Spc) (lv : Value) (vs : List Vol) (w : World) (hK : K.In w) (hS : SpK K v S) (hL : SlK K 4 encV lv vs) (hT : ∀ x ∈ vs, Tr 153 K x.t) (hF : FlatS lv) :
    Calls Try.prog 65 #[v, lv] w (Ret K w fun K' u => SpK K' u ⟨vs, S.ss⟩) := by
  obtain ⟨g, T, sv, ss, rfl, hb, h1, h2, h3, h4, f1, f2⟩ := hS
  have s := St.start hK
  have H2 := Lib.hid h2
  have HL := Lib.hid hL
  have H4 := Lib.hid h4
  have HT := Lib.hid hT
  obtain ⟨a, cap, rfl, _, _⟩ := h2
  obtain ⟨a', cap', rfl, _, _⟩ := hL
  clear h1 h3 h4 hT
  go_enter Try.func65, Try.ntmps65
  go_wp2_with (first
    | ((with_reducible refine gate_load (T := 75) ?_); refine wpList_loadCell rfl rfl rfl Try.underlying75 rfl (s.inn.get hb) rfl ?_)
    | ((with_reducible refine gate_box (T := 77) ?_); refine wpList_boxG rfl rfl rfl (cs := #[.slice a' vs.length cap', .slice a S.ss.length cap]) rfl ?_; intro g1 W1 e hn; have o1 := Own.made s e hn; replace s := s.new hn; clear e hn)
    | fail)
  go_ret
  have hk : ∀ b o, K b = some o → (K.add g1 (.cells #[.slice a' vs.length cap', .slice a S.ss.length cap] 77 (0, 0))) b = some o := fun b o h => by
    rw [Fz.add_other _ _ (by rintro rfl; rw [o1.none_] at h; cases h)]; exact h
  have s1 := s.freeze o1
  exact s1.ret ⟨_, _, _, _, rfl, Fz.add_self _ _ _, HL.out.keep hk, H2.out.keep hk, fun x hx => (HT.out x hx).call hK s1.le, fun x hx => (H4.out x hx).call hK s1.le, hF, f2⟩

theorem snapshotsAre_ok (K : Fz) (v : Value) (S : Spc) (lv : Value) (ls : List Snp) (w : World) (hK : K.In w) (hS : SpK K v S) (hL : SlK K 5 encS lv ls) (hT : ∀ x ∈ ls, Tr 153 K x.t) (hF : FlatS lv) :
    Calls Try.prog 70 #[v, lv] w (Ret K w fun K' u => SpK K' u ⟨S.vs, ls⟩) := by
  obtain ⟨g, T, sv, ss, rfl, hb, h1, h2, h3, h4, f1, f2⟩ := hS
  have s := St.start hK
  have H1 := Lib.hid h1
  have HL := Lib.hid hL
  have H3 := Lib.hid h3
  have HT := Lib.hid hT
  obtain ⟨a, cap, rfl, _, _⟩ := h1
  obtain ⟨a', cap', rfl, _, _⟩ := hL
  clear h2 h3 h4 hT
  go_enter Try.func70, Try.ntmps70
  go_wp2_with (first
    | ((with_reducible refine gate_load (T := 74) ?_); refine wpList_loadCell rfl rfl rfl Try.underlying74 rfl (s.inn.get hb) rfl ?_)
    | ((with_reducible refine gate_box (T := 77) ?_); refine wpList_boxG rfl rfl rfl (cs := #[.slice a S.vs.length cap, .slice a' ls.length cap']) rfl ?_; intro g1 W1 e hn; have o1 := Own.made s e hn; replace s := s.new hn; clear e hn)
    | fail)
  go_ret
  have hk : ∀ b o, K b = some o → (K.add g1 (.cells #[.slice a S.vs.length cap, .slice a' ls.length cap'] 77 (0, 0))) b = some o := fun b o h => by
    rw [Fz.add_other _ _ (by rintro rfl; rw [o1.none_] at h; cases h)]; exact h
  have s1 := s.freeze o1
  exact s1.ret ⟨_, _, _, _, rfl, Fz.add_self _ _ _, H1.out.keep hk, HL.out.keep hk, fun x hx => (H3.out x hx).call hK s1.le, fun x hx => (HT.out x hx).call hK s1.le, f1, hF⟩

end Go.Proofs.Ytdaagmhkhfcmdaa
