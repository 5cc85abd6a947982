/- What Set and Clear of the specification do. -/
import Derived.Test.YtpfdlpniijgakaaDoorRefB
import Derived.Test.YtpfdlpniijgakaaDoorTreeD
namespace Go.Proofs.YtpfdlpniijgakaaDoor
open Go Go.RowKit
set_option maxHeartbeats 400000

/-- A slice that starts in a block of its own right. -/
def Flat (v : Value) : Prop := ∀ a n c, v = .slice a n c → a = none ∨ ∃ b off, a = some ⟨b, off, none⟩
theorem Row.flat {w : World} {K : Fz} {W : World} {e : TypeId} {sz : Nat} {v : Value} {n : Nat} {xs : List Value} (r : Row w K W e sz v n xs) : Flat v := by
  intro a n' c h
  rcases r.own.2 with ⟨rfl, _⟩ | ⟨g, cap, cur, rfl, _⟩
  · cases h; exact .inl rfl
  · cases h; exact .inr ⟨_, _, rfl⟩
/-- A tree of the specification: its value, its list. -/
def RT (K : Fz) (v : Value) (L : Ents) : Prop := ∃ sv, v = .agg #[sv] ∧ SlK K 2 encE sv L ∧ Flat sv
theorem RT.ext {K K' : Fz} {v : Value} {L : Ents} (h : RT K v L) (hE : Ext K K') : RT K' v L := by
  obtain ⟨sv, e, hS, hF⟩ := h
  exact ⟨sv, e, hS.keep hE, hF⟩
def rset (L : Ents) (b c : Int) : Ents := if 0 ≤ b ∧ b ≤ 4095 then L.take (fnd L b) ++ [(b, c)] ++ L.drop (fnd L b + (if hit L b then 1 else 0)) else L
def rclr (L : Ents) (b : Int) : Ents := if hit L b then L.take (fnd L b) ++ L.drop (fnd L b + 1) else L

theorem flat_get {α : Type} {enc : α → List Value} {sz : Nat} (hl : ∀ x, (enc x).length = sz) : ∀ {ys : List α} {j : Nat} {u : Value}, (ys.flatMap enc)[j]? = some u → ∃ (i r : Nat) (x : α), j = i * sz + r ∧ ys[i]? = some x ∧ (enc x)[r]? = some u
  | [], j, u, h => by simp at h
  | y :: ys, j, u, h => by
    rw [List.flatMap_cons] at h
    by_cases hj : j < sz
    · rw [List.getElem?_append_left (by rw [hl]; exact hj)] at h
      exact ⟨0, j, y, by simp, rfl, h⟩
    · rw [List.getElem?_append_right (by rw [hl]; omega), hl] at h
      obtain ⟨i, r, x, e, hi, hr⟩ := flat_get hl h
      exact ⟨i + 1, r, x, by rw [Nat.succ_mul]; omega, by simpa using hi, hr⟩

/-- The cells of a stretch of a frozen slice. -/
theorem SlK.stretch {α : Type} {enc : α → List Value} {sz : Nat} (hl : ∀ x, (enc x).length = sz) {K : Fz} {W : World} {b off cap : Nat} {L : List α} (hi : K.In W) (h : SlK K sz enc (.slice (some ⟨b, off, none⟩) L.length cap) L) (n m : Nat) :
    ∀ ad, some (⟨b, off + n * sz, none⟩ : Addr) = some ad → ∀ (j : Nat) (u : Value), (((L.drop n).take m).flatMap enc)[j]? = some u → W.cell? (ad.add j) = some u := by
  rintro ad ⟨⟩ j u hj
  obtain ⟨i, r, x, rfl, hx, hr⟩ := flat_get hl hj
  obtain ⟨a', cap', e, _, hc⟩ := h
  cases e
  rw [List.getElem?_take] at hx
  split at hx
  · rw [List.getElem?_drop] at hx
    obtain ⟨b2, off2, cs, t, fr, e2, hk, hcell⟩ := hc _ _ hx
    cases e2
    have : (⟨b, off + n * sz, none⟩ : Addr).add (i * sz + r) = ⟨b, off + (n + i) * sz + r, none⟩ := by
      rw [Nat.add_mul]
      unfold Addr.add
      split <;> simp_all
      omega
    rw [this, hi.cell hk]
    exact hcell r u hr
  · cases hx
theorem SlK.head {K : Fz} {W : World} {b off cap : Nat} {L : Ents} (hi : K.In W) (h : SlK K 2 encE (.slice (some ⟨b, off, none⟩) L.length cap) L) (m : Nat) :
    ∀ ad, some (⟨b, off, none⟩ : Addr) = some ad → ∀ (j : Nat) (u : Value), ((L.take m).flatMap encE)[j]? = some u → W.cell? (ad.add j) = some u := by
  have := SlK.stretch (enc := encE) (fun _ => rfl) hi h 0 m
  simpa using this
theorem SlK.tail {K : Fz} {W : World} {b off cap : Nat} {L : Ents} (hi : K.In W) (h : SlK K 2 encE (.slice (some ⟨b, off, none⟩) L.length cap) L) (n : Nat) :
    ∀ ad, some (⟨b, off + n * 2, none⟩ : Addr) = some ad → ∀ (j : Nat) (u : Value), ((L.drop n).flatMap encE)[j]? = some u → W.cell? (ad.add j) = some u := by
  have := SlK.stretch (enc := encE) (fun _ => rfl) hi h n L.length
  rwa [List.take_of_length_le (by simp)] at this
theorem flat_len (ys : Ents) : (ys.flatMap encE).length = ys.length * 2 := by
  induction ys with
  | nil => rfl
  | cons y ys ih => rw [List.flatMap_cons, List.length_append, ih, encE_len, List.length_cons]; omega
theorem flat_one (ys : Ents) : ∀ u ∈ ys.flatMap encE, u.oneCell' = true := by
  intro u hu
  obtain ⟨y, _, hy⟩ := List.mem_flatMap.1 hu
  exact encE_one y u hy

theorem zero_RTree (w : World) : (zeroValue 35).run Tryd.prog w = .ok (.agg #[.slice none 0 0]) w := by kernel_rfl

set_option maxRecDepth 100000 in
set_option maxHeartbeats 1000000 in
theorem rClear_ok (K : Fz) (sv : Value) (L : Ents) (blk : Int) (w : World) (hK : K.In w) (hS : SlK K 2 encE sv L) (hF : Flat sv) (hlen : L.length ≤ 1000000) :
    Calls Tryd.prog 35 #[.agg #[sv], .int .i64 blk] w (Ret K w fun K' v => RT K' v (rclr L blk) ∧ Ext K K') := by
  have hf := fun W (hW : K.In W) => find_ok K sv L blk W hW hS hlen
  have HS := Lib.hid hS
  have HF := Lib.hid hF
  clear hF
  obtain ⟨a, cap, rfl, hcap, hx⟩ := hS
  have s := St.start hK
  clear hx
  have hle := fnd_le L blk
  obtain ⟨n, hn⟩ : ∃ n, fnd L blk = n := ⟨_, rfl⟩
  have Hn := Lib.hid hn
  rw [hn] at hle
  have hfV : Hid (findV L blk = .tuple #[.int .i64 (n : Nat), .bool (hit L blk)]) := Lib.hid (by rw [findV, hn])
  clear hn
  cases hh : hit L blk with
  | false =>
    have hr : Hid (rclr L blk = L) := Lib.hid (by unfold rclr; rw [hh]; rfl)
    rw [hh] at hfV
    clear hh
    go_enter Tryd.func35, Tryd.ntmps35
    go_wp2_with (first
      | ((with_reducible refine gate_box (T := 35) (x := .tmp 0) ?_); refine wpList_boxG rfl rfl rfl (cs := #[.slice a L.length cap]) rfl ?_; intro g1 W1 e hn; have o1 := Own.made s e hn; replace s := s.new hn; clear e hn)
      | ((with_reducible refine gate_alloc (T := 35) ?_); refine wpList_allocG rfl rfl zero_RTree (cs := #[.slice none 0 0]) rfl ?_; intro g2 W2 e hn; have n12 := Lib.hid (o1.ne e); have o2 := Own.made s e hn; replace s := s.new hn; replace o1 := o1.new hn; clear e hn)
      | ((with_reducible refine gate_load (T := 35) ?_); refine wpList_load_row rfl 35 _ rfl _ rfl 35 _ _ _ o1.at_ Tryd.underlying35 rfl (by kernel_rfl) ?_)
      | (go_at_call 40; refine (hf _ s.inn).mono ?_; rw [hfV.out]; rintro e W ⟨rfl, hb⟩; replace o1 := o1.quiet hb; replace o2 := o2.quiet hb; replace s := s.quiet hb; clear hb)
      | ((with_reducible refine gate_store (T := 35) ?_); refine wpList_storeAll rfl rfl rfl rfl (cs := #[.slice a L.length cap]) rfl o2.at_ rfl (by kernel_rfl) (by simp [Value.oneCell']) ?_; intro W hu; replace s := s.upd o2 hu; replace o1 := o1.other hu n12.out; replace o2 := o2.upd hu; clear hu)
      | fail)
    refine ret_cell2 rfl rfl o2.at_ Tryd.underlying35 rfl (by kernel_rfl) ?_
    exact s.ret ⟨⟨_, rfl, by rw [hr.out]; exact HS.out, HF.out⟩, Ext.refl _⟩
  | true =>
    have hr : Hid (rclr L blk = L.take n ++ L.drop (n + 1)) := Lib.hid (by unfold rclr; rw [hh, Hn.out]; rfl)
    obtain ⟨x, hxn⟩ : ∃ x, L[n]? = some x := by
      have e := Hn.out
      unfold hit at hh
      rw [e] at hh
      cases h : L[n]? with
      | none => rw [h] at hh; simp at hh
      | some x => exact ⟨x, rfl⟩
    have hlt : n < L.length := (List.getElem?_eq_some_iff.1 hxn).1
    obtain ⟨b, off, hab⟩ : ∃ b off, a = some ⟨b, off, none⟩ := by
      obtain ⟨a', cap', e, _, hx⟩ := HS.out
      cases e
      obtain ⟨b, off, _, _, _, h, _⟩ := hx n x hxn
      exact ⟨b, off, h⟩
    subst hab
    rw [hh] at hfV
    clear hh hxn
    by_cases hcn : cap = n + 1
    · subst hcn
      go_enter Tryd.func35, Tryd.ntmps35
      go_wp2_with (first
        | ((with_reducible refine gate_box (T := 35) (x := .tmp 0) ?_); refine wpList_boxG rfl rfl rfl (cs := #[.slice (some ⟨b, off, none⟩) L.length (n + 1)]) rfl ?_; intro g1 W1 e hn; have o1 := Own.made s e hn; replace s := s.new hn; clear e hn)
        | ((with_reducible refine gate_alloc (T := 35) ?_); refine wpList_allocG rfl rfl zero_RTree (cs := #[.slice none 0 0]) rfl ?_; intro g2 W2 e hn; have n12 := Lib.hid (o1.ne e); have o2 := Own.made s e hn; replace s := s.new hn; replace o1 := o1.new hn; clear e hn)
        | ((with_reducible refine gate_load (T := 35) ?_); refine wpList_load_row rfl 35 _ rfl _ rfl 35 _ _ _ o1.at_ Tryd.underlying35 rfl (by kernel_rfl) ?_)
        | (go_at_call 40; refine (hf _ s.inn).mono ?_; rw [hfV.out]; rintro e W ⟨rfl, hb⟩; replace o1 := o1.quiet hb; replace o2 := o2.quiet hb; replace s := s.quiet hb; clear hb; have rw0 := Row.nil w K W 59 2; have hn1 : (Value.slice none 0 0).ownBlock ≠ some g1 := (by rintro ⟨⟩); have hn2 : (Value.slice none 0 0).ownBlock ≠ some g2 := (by rintro ⟨⟩))
        | ((with_reducible refine gate_load (T := 33) ?_); refine wpList_loadCell rfl rfl rfl Tryd.underlying33 rfl o1.at_ rfl ?_)
        | ((with_reducible refine gate_append (x := #[.tmp 17, .tmp 21]) ?_); refine wpList_appendRow rfl rfl Tryd.underlying33 info_ent rfl (by decide) rfl s rw0 rfl (news := (L.take n).flatMap encE) (by rw [flat_len, List.length_take, Nat.min_eq_left (by omega)]) (by rintro ⟨⟩) (SlK.head s.inn HS.out n) (flat_one _) (by omega) (by decide) ?_; intro v2 W6 rw2 gr; have hn12 := o1.apart gr hn1; have hn22 := o2.apart gr hn2; replace s := s.grown rw0 gr; replace o1 := o1.grown gr hn1; replace o2 := o2.grown gr hn2; obtain ⟨a2, n2, c2, rfl⟩ := rw2.form; clear gr rw0)
        | ((with_reducible refine gate_append (x := #[.tmp 23, .tmp 28]) ?_); refine wpList_appendRow rfl rfl Tryd.underlying33 info_ent rfl (by decide) rfl s rw2 rfl (news := []) (by first | rfl | (simp; omega)) (by rintro ⟨⟩) (by rintro _ _ _ _ h; simp at h) (by simp) (by omega) (by decide) ?_; intro v3 W7 rw3 gr; have hn13 := o1.apart gr hn12; have hn23 := o2.apart gr hn22; replace s := s.grown rw2 gr; replace o1 := o1.grown gr hn12; replace o2 := o2.grown gr hn22; obtain ⟨a3, n3, c3, rfl⟩ := rw3.form; clear gr rw2)
        | ((with_reducible refine gate_store (T := 35) ?_); refine wpList_storeAll rfl rfl rfl rfl (cs := #[.slice a3 n3 c3]) rfl o2.at_ rfl (by kernel_rfl) (by simp [Value.oneCell']) ?_; intro W hu; replace s := s.upd o2 hu; replace rw3 := rw3.upd hu hn23; replace o2 := o2.upd hu; clear hu o1)
        | fail)
      refine ret_cell2 rfl rfl o2.at_ Tryd.underlying35 rfl (by kernel_rfl) ?_
      obtain ⟨K3, s3, hE3, hS3, hK3⟩ := rw3.fix s (enc := encE) (zs := rclr L blk) (fun _ => rfl) (by rw [hr.out]; simp; omega) (by rw [hr.out, List.flatMap_append]; rw [List.drop_eq_nil_of_le (by omega)]; simp)
      exact s3.ret ⟨⟨_, rfl, hS3, rw3.flat⟩, hE3⟩
    · have hcn2 : ¬ (cap - (n + 1) = 0) := by omega
      go_enter Tryd.func35, Tryd.ntmps35
      go_wp2_with (first
        | ((with_reducible refine gate_box (T := 35) (x := .tmp 0) ?_); refine wpList_boxG rfl rfl rfl (cs := #[.slice (some ⟨b, off, none⟩) L.length cap]) rfl ?_; intro g1 W1 e hn; have o1 := Own.made s e hn; replace s := s.new hn; clear e hn)
        | ((with_reducible refine gate_alloc (T := 35) ?_); refine wpList_allocG rfl rfl zero_RTree (cs := #[.slice none 0 0]) rfl ?_; intro g2 W2 e hn; have n12 := Lib.hid (o1.ne e); have o2 := Own.made s e hn; replace s := s.new hn; replace o1 := o1.new hn; clear e hn)
        | ((with_reducible refine gate_load (T := 35) ?_); refine wpList_load_row rfl 35 _ rfl _ rfl 35 _ _ _ o1.at_ Tryd.underlying35 rfl (by kernel_rfl) ?_)
        | (go_at_call 40; refine (hf _ s.inn).mono ?_; rw [hfV.out]; rintro e W ⟨rfl, hb⟩; replace o1 := o1.quiet hb; replace o2 := o2.quiet hb; replace s := s.quiet hb; clear hb; have rw0 := Row.nil w K W 59 2; have hn1 : (Value.slice none 0 0).ownBlock ≠ some g1 := (by rintro ⟨⟩); have hn2 : (Value.slice none 0 0).ownBlock ≠ some g2 := (by rintro ⟨⟩))
        | ((with_reducible refine gate_load (T := 33) ?_); refine wpList_loadCell rfl rfl rfl Tryd.underlying33 rfl o1.at_ rfl ?_)
        | ((with_reducible refine gate_append (x := #[.tmp 17, .tmp 21]) ?_); refine wpList_appendRow rfl rfl Tryd.underlying33 info_ent rfl (by decide) rfl s rw0 rfl (news := (L.take n).flatMap encE) (by rw [flat_len, List.length_take, Nat.min_eq_left (by omega)]) (by rintro ⟨⟩) (SlK.head s.inn HS.out n) (flat_one _) (by omega) (by decide) ?_; intro v2 W6 rw2 gr; have hn12 := o1.apart gr hn1; have hn22 := o2.apart gr hn2; replace s := s.grown rw0 gr; replace o1 := o1.grown gr hn1; replace o2 := o2.grown gr hn2; obtain ⟨a2, n2, c2, rfl⟩ := rw2.form; clear gr rw0)
        | ((with_reducible refine gate_append (x := #[.tmp 23, .tmp 28]) ?_); refine wpList_appendRow rfl rfl Tryd.underlying33 info_ent rfl (by decide) rfl s rw2 rfl (news := (L.drop (n + 1)).flatMap encE) (by rw [flat_len, List.length_drop]) (by rintro ⟨⟩) (SlK.tail s.inn HS.out (n + 1)) (flat_one _) (by omega) (by decide) ?_; intro v3 W7 rw3 gr; have hn13 := o1.apart gr hn12; have hn23 := o2.apart gr hn22; replace s := s.grown rw2 gr; replace o1 := o1.grown gr hn12; replace o2 := o2.grown gr hn22; obtain ⟨a3, n3, c3, rfl⟩ := rw3.form; clear gr rw2)
        | ((with_reducible refine gate_store (T := 35) ?_); refine wpList_storeAll rfl rfl rfl rfl (cs := #[.slice a3 n3 c3]) rfl o2.at_ rfl (by kernel_rfl) (by simp [Value.oneCell']) ?_; intro W hu; replace s := s.upd o2 hu; replace rw3 := rw3.upd hu hn23; replace o2 := o2.upd hu; clear hu o1)
        | fail)
      refine ret_cell2 rfl rfl o2.at_ Tryd.underlying35 rfl (by kernel_rfl) ?_
      obtain ⟨K3, s3, hE3, hS3, hK3⟩ := rw3.fix s (enc := encE) (zs := rclr L blk) (fun _ => rfl) (by rw [hr.out]; simp; omega) (by rw [hr.out, List.flatMap_append]; simp)
      exact s3.ret ⟨⟨_, rfl, hS3, rw3.flat⟩, hE3⟩
end Go.Proofs.YtpfdlpniijgakaaDoor
