/- Look and Get. -/
import Derived.Test.YtdaagmhkhfcmdaaVolD
namespace Go.Proofs.Ytdaagmhkhfcmdaa
open Go Go.RowKit
set_option maxHeartbeats 400000

/-- The block of a snapshot's tree. -/
def Spc.look (S : Spc) (x blk : Int) : Int × Int := match S.ss[ixN Snp.num S.ss x]? with
  | some s => s.t.at_ blk
  | none => (0, 12)

theorem vget_at (K : Fz) (t : PT) (n blk : Int) (r : Int × Int) (w : World) (hr : t.at_ blk = r) (hK : K.In w) (ht : Tr 153 K t) :
    Calls Try.prog 43 #[.agg #[.pointer t.ptr, .int .i64 n], .int .i64 blk] w fun e w' => e = .returned (.tuple #[.int .i64 r.1, .int .i64 r.2]) ∧ Below w.heap.size w w' := by
  subst hr; exact vget_ok K t n blk w hK ht

set_option maxRecDepth 100000 in
theorem Look_ok (K : Fz) (v : Value) (S : Spc) (x blk : Int) (w : World) (hK : K.In w) (hS : SpK K v S) (hlen : S.ss.length ≤ 1000000) :
    Calls Try.prog 27 #[v, .int .i64 x, .int .i64 blk] w fun e w' => e = .returned (intErr (S.look x blk)) ∧ Below w.heap.size w w' := by
  obtain ⟨g, T, sv, ss, rfl, hb, h1, h2, h3, h4, f1, f2⟩ := hS
  have s := St.start hK
  have Hat := Lib.hid fun W (hW : K.In W) => sAt_ok K ss S.ss x W hW h2 hlen
  clear h1 h3
  obtain ⟨a, cap, rfl, hcap, hx⟩ := h2
  have hle := ixN_le Snp.num S.ss x
  obtain ⟨n, hn⟩ : ∃ n, ixN Snp.num S.ss x = n := ⟨_, rfl⟩
  rw [hn] at hle
  by_cases hlt : n < S.ss.length
  · obtain ⟨y, hyn⟩ : ∃ y, S.ss[n]? = some y := ⟨_, List.getElem?_eq_getElem hlt⟩
    obtain ⟨r, hr⟩ : ∃ r, y.t.at_ blk = r := ⟨_, rfl⟩
    have hl : Hid (S.look x blk = r) := Lib.hid (by rw [Spc.look, hn, hyn, ← hr])
    have hv : Hid (ixV Snp.num S.ss x = (n : Int)) := Lib.hid (by rw [ixV, hn, if_pos hlt])
    obtain ⟨b, off, cs, ty, fr, rfl, hkb, hj⟩ := hx n y hyn
    have Hj : Hid (∀ (j : Nat) (u : Value), [Value.pointer y.t.ptr, .int .i64 y.n][j]? = some u → cs[off + n * 5 + 2 + j]? = some u) := Lib.hid (by
      intro j u hu
      have := hj (j + 2) u (by
        rcases j with _ | _ | j
        · exact hu
        · exact hu
        · simp at hu)
      rw [← this]
      congr 1
      omega)
    have Ht := Lib.hid fun W (hW : K.In W) => vget_at K y.t y.n blk r W hr hW (h4 y (List.mem_of_getElem? hyn))
    clear hj hyn hx h4 hn hr
    go_enter Try.func27, Try.ntmps27
    go_wp2_with (first
      | ((with_reducible refine gate_load (T := 75) ?_); refine wpList_loadCell rfl rfl rfl Try.underlying75 rfl (s.inn.get hb) rfl ?_)
      | (go_at_call 48; refine (Hat.out _ s.inn).mono ?_; rw [hv.out]; rintro e W4 ⟨rfl, hb4⟩; replace s := s.quiet hb4; clear hb4)
      | ((with_reducible refine gate_load (T := 86) ?_); refine wpList_loadAgg (vs := [.pointer y.t.ptr, .int .i64 y.n]) (off := off + n * 5 + 2) rfl rfl rfl Try.underlying86 rfl (s.inn.get hkb) (by rw [size_Tree]; rfl) (fun j u hu => Hj.out j u hu) ?_)
      | (go_at_call 43; refine (Ht.out _ s.inn).mono ?_; rintro e W5 ⟨rfl, hb4⟩; replace s := s.quiet hb4; clear hb4)
      | fail)
    go_ret2
    exact ⟨by rw [hl.out]; rfl, s.below⟩
  · have hl : Hid (S.look x blk = (0, 12)) := Lib.hid (by rw [Spc.look, hn, List.getElem?_eq_none (by omega)])
    have hv : Hid (ixV Snp.num S.ss x = -1) := Lib.hid (by rw [ixV, hn, if_neg hlt])
    clear hx h4 hn
    go_enter Try.func27, Try.ntmps27
    go_wp2_with (first
      | ((with_reducible refine gate_load (T := 75) ?_); refine wpList_loadCell rfl rfl rfl Try.underlying75 rfl (s.inn.get hb) rfl ?_)
      | (go_at_call 48; refine (Hat.out _ s.inn).mono ?_; rw [hv.out]; rintro e W4 ⟨rfl, hb4⟩; replace s := s.quiet hb4; clear hb4)
      | fail)
    go_ret2
    exact ⟨by rw [hl.out]; rfl, s.below⟩

/-- The block of a volume's tree. -/
def Spc.got (S : Spc) (x blk : Int) : Int × Int := match S.vs[ixN Vol.id S.vs x]? with
  | some s => s.t.at_ blk
  | none => (0, 12)

set_option maxRecDepth 100000 in
theorem Get_ok (K : Fz) (v : Value) (S : Spc) (x blk : Int) (w : World) (hK : K.In w) (hS : SpK K v S) (hlen : S.vs.length ≤ 1000000) :
    Calls Try.prog 14 #[v, .int .i64 x, .int .i64 blk] w fun e w' => e = .returned (intErr (S.got x blk)) ∧ Below w.heap.size w w' := by
  obtain ⟨g, T, sv, ss, rfl, hb, h1, h2, h3, h4, f1, f2⟩ := hS
  have s := St.start hK
  have Hat := Lib.hid fun W (hW : K.In W) => vAt_ok K sv S.vs x W hW h1 hlen
  clear h2 h4
  obtain ⟨a, cap, rfl, hcap, hx⟩ := h1
  have hle := ixN_le Vol.id S.vs x
  obtain ⟨n, hn⟩ : ∃ n, ixN Vol.id S.vs x = n := ⟨_, rfl⟩
  rw [hn] at hle
  by_cases hlt : n < S.vs.length
  · obtain ⟨y, hyn⟩ : ∃ y, S.vs[n]? = some y := ⟨_, List.getElem?_eq_getElem hlt⟩
    obtain ⟨r, hr⟩ : ∃ r, y.t.at_ blk = r := ⟨_, rfl⟩
    have hl : Hid (S.got x blk = r) := Lib.hid (by rw [Spc.got, hn, hyn, ← hr])
    have hv : Hid (ixV Vol.id S.vs x = (n : Int)) := Lib.hid (by rw [ixV, hn, if_pos hlt])
    obtain ⟨b, off, cs, ty, fr, rfl, hkb, hj⟩ := hx n y hyn
    have Hj : Hid (∀ (j : Nat) (u : Value), [Value.pointer y.t.ptr, .int .i64 y.n][j]? = some u → cs[off + n * 4 + 2 + j]? = some u) := Lib.hid (by
      intro j u hu
      have := hj (j + 2) u (by
        rcases j with _ | _ | j
        · exact hu
        · exact hu
        · simp at hu)
      rw [← this]
      congr 1
      omega)
    have Ht := Lib.hid fun W (hW : K.In W) => vget_at K y.t y.n blk r W hr hW (h3 y (List.mem_of_getElem? hyn))
    clear hj hyn hx h3 hn hr
    go_enter Try.func14, Try.ntmps14
    go_wp2_with (first
      | ((with_reducible refine gate_load (T := 74) ?_); refine wpList_loadCell rfl rfl rfl Try.underlying74 rfl (s.inn.get hb) rfl ?_)
      | (go_at_call 42; refine (Hat.out _ s.inn).mono ?_; rw [hv.out]; rintro e W4 ⟨rfl, hb4⟩; replace s := s.quiet hb4; clear hb4)
      | ((with_reducible refine gate_load (T := 86) ?_); refine wpList_loadAgg (vs := [.pointer y.t.ptr, .int .i64 y.n]) (off := off + n * 4 + 2) rfl rfl rfl Try.underlying86 rfl (s.inn.get hkb) (by rw [size_Tree]; rfl) (fun j u hu => Hj.out j u hu) ?_)
      | (go_at_call 43; refine (Ht.out _ s.inn).mono ?_; rintro e W5 ⟨rfl, hb4⟩; replace s := s.quiet hb4; clear hb4)
      | fail)
    go_ret2
    exact ⟨by rw [hl.out]; rfl, s.below⟩
  · have hl : Hid (S.got x blk = (0, 12)) := Lib.hid (by rw [Spc.got, hn, List.getElem?_eq_none (by omega)])
    have hv : Hid (ixV Vol.id S.vs x = -1) := Lib.hid (by rw [ixV, hn, if_neg hlt])
    clear hx h3 hn
    go_enter Try.func14, Try.ntmps14
    go_wp2_with (first
      | ((with_reducible refine gate_load (T := 74) ?_); refine wpList_loadCell rfl rfl rfl Try.underlying74 rfl (s.inn.get hb) rfl ?_)
      | (go_at_call 42; refine (Hat.out _ s.inn).mono ?_; rw [hv.out]; rintro e W4 ⟨rfl, hb4⟩; replace s := s.quiet hb4; clear hb4)
      | fail)
    go_ret2
    exact ⟨by rw [hl.out]; rfl, s.below⟩

end Go.Proofs.Ytdaagmhkhfcmdaa
