/- What Set and Do of the specification do. -/
import Derived.Test.YtpfdlpniijgakaaDoorRefF
namespace Go.Proofs.YtpfdlpniijgakaaDoor
open Go Go.RowKit
set_option maxHeartbeats 400000

set_option maxRecDepth 100000 in
set_option maxHeartbeats 4000000 in
theorem rSet_ok (K : Fz) (sv : Value) (L : Ents) (blk ch : Int) (w : World) (hK : K.In w) (hS : SlK K 2 encE sv L) (hF : Flat sv) (hlen : L.length ≤ 1000000) :
    Calls Tryd.prog 30 #[.agg #[sv], .int .i64 blk, .int .i64 ch] w (Ret K w fun K' v => RT K' v (rset L blk ch) ∧ Ext K K') := by
  have hf := fun W (hW : K.In W) => find_ok K sv L blk W hW hS hlen
  have HS := Lib.hid hS
  have HF := Lib.hid hF
  clear hF
  obtain ⟨a, cap, rfl, hcap, hx⟩ := hS
  have s := St.start hK
  clear hx
  by_cases h0 : 0 ≤ blk
  · by_cases h1 : blk ≤ 4095
    · have hle := fnd_le L blk
      obtain ⟨n, hn⟩ : ∃ n, fnd L blk = n := ⟨_, rfl⟩
      have Hn := Lib.hid hn
      rw [hn] at hle
      have hfV : Hid (findV L blk = .tuple #[.int .i64 (n : Nat), .bool (hit L blk)]) := Lib.hid (by rw [findV, hn])
      have hr : Hid (rset L blk ch = L.take n ++ [(blk, ch)] ++ L.drop (n + (if hit L blk then 1 else 0))) := Lib.hid (by rw [rset, if_pos ⟨h0, h1⟩, hn])
      clear hn
      by_cases ha : ∃ b off, a = some ⟨b, off, none⟩
      · obtain ⟨b, off, rfl⟩ := ha
        cases hh : hit L blk with
        | false =>
          rw [hh] at hfV hr
          clear hh
          by_cases hcn : n = cap
          · subst hcn
            go_enter Tryd.func30, Tryd.ntmps30
            go_wp2_with (first
              | ((with_reducible refine gate_box (T := 35) (x := .tmp 0) ?_); refine wpList_boxG rfl rfl rfl (cs := #[.slice (some ⟨b, off, none⟩) L.length n]) rfl ?_; intro g1 W1 e hn; have o1 := Own.made s e hn; replace s := s.new hn; clear e hn)
              | ((with_reducible refine gate_alloc (T := 35) ?_); refine wpList_allocG rfl rfl zero_RTree (cs := #[.slice none 0 0]) rfl ?_; intro g2 W2 e hn; have n12 := Lib.hid (o1.ne e); have o2 := Own.made s e hn; replace s := s.new hn; replace o1 := o1.new hn; clear e hn)
              | ((with_reducible refine gate_load (T := 35) ?_); refine wpList_load_row rfl 35 _ rfl _ rfl 35 _ _ _ o1.at_ Tryd.underlying35 rfl (by kernel_rfl) ?_)
              | (go_at_call 40; refine (hf _ s.inn).mono ?_; rw [hfV.out]; rintro e W ⟨rfl, hb⟩; replace o1 := o1.quiet hb; replace o2 := o2.quiet hb; replace s := s.quiet hb; clear hb; have rw0 := Row.nil w K W 59 2; have hn10 : (Value.slice none 0 0).ownBlock ≠ some g1 := (by rintro ⟨⟩); have hn20 : (Value.slice none 0 0).ownBlock ≠ some g2 := (by rintro ⟨⟩))
              | ((with_reducible refine gate_load (T := 33) ?_); refine wpList_loadCell rfl rfl rfl Tryd.underlying33 rfl o1.at_ rfl ?_)
              | ((with_reducible refine gate_buildSlice (T := 33) ?_); refine wpList_buildSlice1 rfl rfl rfl (cs := (encE (blk, ch)).toArray) Tryd.underlying33 info_ent (by decide) (by decide) (by kernel_rfl) ?_; intro gn W5 e hn; have hnew := hn.here; rw [← e] at hnew; replace s := s.new hn; replace o1 := o1.new hn; replace o2 := o2.new hn; replace rw1 := rw1.new hn; clear hn e)
              | ((with_reducible refine gate_append (x := #[.tmp 23, .tmp 27]) ?_); refine wpList_appendRow rfl rfl Tryd.underlying33 info_ent rfl (by decide) rfl s rw0 rfl (news := (L.take n).flatMap encE) (by rw [flat_len, List.length_take, Nat.min_eq_left (by omega)]) (by first | (intro _; rfl) | (rintro ⟨⟩)) (SlK.head s.inn HS.out n) (flat_one _) (by omega) (by decide) ?_; intro v1 W6 rw1 gr; have hn11 := o1.apart gr hn10; have hn21 := o2.apart gr hn20; replace s := s.grown rw0 gr; replace o1 := o1.grown gr hn10; replace o2 := o2.grown gr hn20; obtain ⟨a1, n1, c1, rfl⟩ := rw1.form; clear gr rw0)
              | ((with_reducible refine gate_append (x := #[.tmp 29, .tmp 33]) ?_); refine wpList_appendRow rfl rfl Tryd.underlying33 info_ent rfl (by decide) rfl s rw1 rfl (news := encE (blk, ch)) rfl (by first | (intro _; rfl) | (rintro ⟨⟩)) (cells_here hnew) (encE_one _) (by omega) (by decide) ?_; intro v2 W6 rw2 gr; have hn12 := o1.apart gr hn11; have hn22 := o2.apart gr hn21; replace s := s.grown rw1 gr; replace o1 := o1.grown gr hn11; replace o2 := o2.grown gr hn21; obtain ⟨a2, n2, c2, rfl⟩ := rw2.form; clear gr rw1)
              | ((with_reducible refine gate_append (x := #[.tmp 38, .tmp 42]) ?_); refine wpList_appendRow rfl rfl Tryd.underlying33 info_ent rfl (by decide) rfl s rw2 rfl (news := []) (by first | rfl | (simp; omega)) (by first | (intro _; rfl) | (rintro ⟨⟩)) (by rintro _ _ _ _ h; simp at h) (by simp) (by omega) (by decide) ?_; intro v3 W6 rw3 gr; have hn13 := o1.apart gr hn12; have hn23 := o2.apart gr hn22; replace s := s.grown rw2 gr; replace o1 := o1.grown gr hn12; replace o2 := o2.grown gr hn22; obtain ⟨a3, n3, c3, rfl⟩ := rw3.form; clear gr rw2)
              | ((with_reducible refine gate_store (T := 35) ?_); refine wpList_storeAll rfl rfl rfl rfl (cs := #[.slice a3 n3 c3]) rfl o2.at_ rfl (by kernel_rfl) (by simp [Value.oneCell']) ?_; intro W hu; replace s := s.upd o2 hu; replace rw3 := rw3.upd hu hn23; replace o2 := o2.upd hu; clear hu o1)
              | fail)
            refine ret_cell2 rfl rfl o2.at_ Tryd.underlying35 rfl (by kernel_rfl) ?_
            obtain ⟨K3, s3, hE3, hS3, hK3⟩ := rw3.fix s (enc := encE) (zs := rset L blk ch) (fun _ => rfl) (by rw [hr.out]; first | rfl | (simp; omega) | simp) (by rw [hr.out, List.flatMap_append, List.flatMap_append]; rw [List.drop_eq_nil_of_le (by simp; omega)]; simp [encE])
            exact s3.ret ⟨⟨_, rfl, hS3, rw3.flat⟩, hE3⟩
          · have hcn2 : ¬ (cap - n = 0) := by omega
            go_enter Tryd.func30, Tryd.ntmps30
            go_wp2_with (first
              | ((with_reducible refine gate_box (T := 35) (x := .tmp 0) ?_); refine wpList_boxG rfl rfl rfl (cs := #[.slice (some ⟨b, off, none⟩) L.length cap]) rfl ?_; intro g1 W1 e hn; have o1 := Own.made s e hn; replace s := s.new hn; clear e hn)
              | ((with_reducible refine gate_alloc (T := 35) ?_); refine wpList_allocG rfl rfl zero_RTree (cs := #[.slice none 0 0]) rfl ?_; intro g2 W2 e hn; have n12 := Lib.hid (o1.ne e); have o2 := Own.made s e hn; replace s := s.new hn; replace o1 := o1.new hn; clear e hn)
              | ((with_reducible refine gate_load (T := 35) ?_); refine wpList_load_row rfl 35 _ rfl _ rfl 35 _ _ _ o1.at_ Tryd.underlying35 rfl (by kernel_rfl) ?_)
              | (go_at_call 40; refine (hf _ s.inn).mono ?_; rw [hfV.out]; rintro e W ⟨rfl, hb⟩; replace o1 := o1.quiet hb; replace o2 := o2.quiet hb; replace s := s.quiet hb; clear hb; have rw0 := Row.nil w K W 59 2; have hn10 : (Value.slice none 0 0).ownBlock ≠ some g1 := (by rintro ⟨⟩); have hn20 : (Value.slice none 0 0).ownBlock ≠ some g2 := (by rintro ⟨⟩))
              | ((with_reducible refine gate_load (T := 33) ?_); refine wpList_loadCell rfl rfl rfl Tryd.underlying33 rfl o1.at_ rfl ?_)
              | ((with_reducible refine gate_buildSlice (T := 33) ?_); refine wpList_buildSlice1 rfl rfl rfl (cs := (encE (blk, ch)).toArray) Tryd.underlying33 info_ent (by decide) (by decide) (by kernel_rfl) ?_; intro gn W5 e hn; have hnew := hn.here; rw [← e] at hnew; replace s := s.new hn; replace o1 := o1.new hn; replace o2 := o2.new hn; replace rw1 := rw1.new hn; clear hn e)
              | ((with_reducible refine gate_append (x := #[.tmp 23, .tmp 27]) ?_); refine wpList_appendRow rfl rfl Tryd.underlying33 info_ent rfl (by decide) rfl s rw0 rfl (news := (L.take n).flatMap encE) (by rw [flat_len, List.length_take, Nat.min_eq_left (by omega)]) (by first | (intro _; rfl) | (rintro ⟨⟩)) (SlK.head s.inn HS.out n) (flat_one _) (by omega) (by decide) ?_; intro v1 W6 rw1 gr; have hn11 := o1.apart gr hn10; have hn21 := o2.apart gr hn20; replace s := s.grown rw0 gr; replace o1 := o1.grown gr hn10; replace o2 := o2.grown gr hn20; obtain ⟨a1, n1, c1, rfl⟩ := rw1.form; clear gr rw0)
              | ((with_reducible refine gate_append (x := #[.tmp 29, .tmp 33]) ?_); refine wpList_appendRow rfl rfl Tryd.underlying33 info_ent rfl (by decide) rfl s rw1 rfl (news := encE (blk, ch)) rfl (by first | (intro _; rfl) | (rintro ⟨⟩)) (cells_here hnew) (encE_one _) (by omega) (by decide) ?_; intro v2 W6 rw2 gr; have hn12 := o1.apart gr hn11; have hn22 := o2.apart gr hn21; replace s := s.grown rw1 gr; replace o1 := o1.grown gr hn11; replace o2 := o2.grown gr hn21; obtain ⟨a2, n2, c2, rfl⟩ := rw2.form; clear gr rw1)
              | ((with_reducible refine gate_append (x := #[.tmp 38, .tmp 42]) ?_); refine wpList_appendRow rfl rfl Tryd.underlying33 info_ent rfl (by decide) rfl s rw2 rfl (news := (L.drop n).flatMap encE) (by rw [flat_len, List.length_drop]) (by first | (intro _; rfl) | (rintro ⟨⟩)) (SlK.tail s.inn HS.out n) (flat_one _) (by omega) (by decide) ?_; intro v3 W6 rw3 gr; have hn13 := o1.apart gr hn12; have hn23 := o2.apart gr hn22; replace s := s.grown rw2 gr; replace o1 := o1.grown gr hn12; replace o2 := o2.grown gr hn22; obtain ⟨a3, n3, c3, rfl⟩ := rw3.form; clear gr rw2)
              | ((with_reducible refine gate_store (T := 35) ?_); refine wpList_storeAll rfl rfl rfl rfl (cs := #[.slice a3 n3 c3]) rfl o2.at_ rfl (by kernel_rfl) (by simp [Value.oneCell']) ?_; intro W hu; replace s := s.upd o2 hu; replace rw3 := rw3.upd hu hn23; replace o2 := o2.upd hu; clear hu o1)
              | fail)
            refine ret_cell2 rfl rfl o2.at_ Tryd.underlying35 rfl (by kernel_rfl) ?_
            obtain ⟨K3, s3, hE3, hS3, hK3⟩ := rw3.fix s (enc := encE) (zs := rset L blk ch) (fun _ => rfl) (by rw [hr.out]; first | rfl | (simp; omega) | simp) (by rw [hr.out, List.flatMap_append, List.flatMap_append]; simp [encE])
            exact s3.ret ⟨⟨_, rfl, hS3, rw3.flat⟩, hE3⟩
        | true =>
          have hlt : n < L.length := by
            have e := Hn.out
            unfold hit at hh
            rw [e] at hh
            cases h : L[n]? with
            | none => rw [h] at hh; simp at hh
            | some x => exact (List.getElem?_eq_some_iff.1 h).1
          rw [hh] at hfV hr
          clear hh
          by_cases hcn : cap = n + 1
          · subst hcn
            go_enter Tryd.func30, Tryd.ntmps30
            go_wp2_with (first
              | ((with_reducible refine gate_box (T := 35) (x := .tmp 0) ?_); refine wpList_boxG rfl rfl rfl (cs := #[.slice (some ⟨b, off, none⟩) L.length (n + 1)]) rfl ?_; intro g1 W1 e hn; have o1 := Own.made s e hn; replace s := s.new hn; clear e hn)
              | ((with_reducible refine gate_alloc (T := 35) ?_); refine wpList_allocG rfl rfl zero_RTree (cs := #[.slice none 0 0]) rfl ?_; intro g2 W2 e hn; have n12 := Lib.hid (o1.ne e); have o2 := Own.made s e hn; replace s := s.new hn; replace o1 := o1.new hn; clear e hn)
              | ((with_reducible refine gate_load (T := 35) ?_); refine wpList_load_row rfl 35 _ rfl _ rfl 35 _ _ _ o1.at_ Tryd.underlying35 rfl (by kernel_rfl) ?_)
              | (go_at_call 40; refine (hf _ s.inn).mono ?_; rw [hfV.out]; rintro e W ⟨rfl, hb⟩; replace o1 := o1.quiet hb; replace o2 := o2.quiet hb; replace s := s.quiet hb; clear hb; have rw0 := Row.nil w K W 59 2; have hn10 : (Value.slice none 0 0).ownBlock ≠ some g1 := (by rintro ⟨⟩); have hn20 : (Value.slice none 0 0).ownBlock ≠ some g2 := (by rintro ⟨⟩))
              | ((with_reducible refine gate_load (T := 33) ?_); refine wpList_loadCell rfl rfl rfl Tryd.underlying33 rfl o1.at_ rfl ?_)
              | ((with_reducible refine gate_buildSlice (T := 33) ?_); refine wpList_buildSlice1 rfl rfl rfl (cs := (encE (blk, ch)).toArray) Tryd.underlying33 info_ent (by decide) (by decide) (by kernel_rfl) ?_; intro gn W5 e hn; have hnew := hn.here; rw [← e] at hnew; replace s := s.new hn; replace o1 := o1.new hn; replace o2 := o2.new hn; replace rw1 := rw1.new hn; clear hn e)
              | ((with_reducible refine gate_append (x := #[.tmp 23, .tmp 27]) ?_); refine wpList_appendRow rfl rfl Tryd.underlying33 info_ent rfl (by decide) rfl s rw0 rfl (news := (L.take n).flatMap encE) (by rw [flat_len, List.length_take, Nat.min_eq_left (by omega)]) (by first | (intro _; rfl) | (rintro ⟨⟩)) (SlK.head s.inn HS.out n) (flat_one _) (by omega) (by decide) ?_; intro v1 W6 rw1 gr; have hn11 := o1.apart gr hn10; have hn21 := o2.apart gr hn20; replace s := s.grown rw0 gr; replace o1 := o1.grown gr hn10; replace o2 := o2.grown gr hn20; obtain ⟨a1, n1, c1, rfl⟩ := rw1.form; clear gr rw0)
              | ((with_reducible refine gate_append (x := #[.tmp 29, .tmp 33]) ?_); refine wpList_appendRow rfl rfl Tryd.underlying33 info_ent rfl (by decide) rfl s rw1 rfl (news := encE (blk, ch)) rfl (by first | (intro _; rfl) | (rintro ⟨⟩)) (cells_here hnew) (encE_one _) (by omega) (by decide) ?_; intro v2 W6 rw2 gr; have hn12 := o1.apart gr hn11; have hn22 := o2.apart gr hn21; replace s := s.grown rw1 gr; replace o1 := o1.grown gr hn11; replace o2 := o2.grown gr hn21; obtain ⟨a2, n2, c2, rfl⟩ := rw2.form; clear gr rw1)
              | ((with_reducible refine gate_append (x := #[.tmp 38, .tmp 42]) ?_); refine wpList_appendRow rfl rfl Tryd.underlying33 info_ent rfl (by decide) rfl s rw2 rfl (news := []) (by first | rfl | (simp; omega)) (by first | (intro _; rfl) | (rintro ⟨⟩)) (by rintro _ _ _ _ h; simp at h) (by simp) (by omega) (by decide) ?_; intro v3 W6 rw3 gr; have hn13 := o1.apart gr hn12; have hn23 := o2.apart gr hn22; replace s := s.grown rw2 gr; replace o1 := o1.grown gr hn12; replace o2 := o2.grown gr hn22; obtain ⟨a3, n3, c3, rfl⟩ := rw3.form; clear gr rw2)
              | ((with_reducible refine gate_store (T := 35) ?_); refine wpList_storeAll rfl rfl rfl rfl (cs := #[.slice a3 n3 c3]) rfl o2.at_ rfl (by kernel_rfl) (by simp [Value.oneCell']) ?_; intro W hu; replace s := s.upd o2 hu; replace rw3 := rw3.upd hu hn23; replace o2 := o2.upd hu; clear hu o1)
              | fail)
            refine ret_cell2 rfl rfl o2.at_ Tryd.underlying35 rfl (by kernel_rfl) ?_
            obtain ⟨K3, s3, hE3, hS3, hK3⟩ := rw3.fix s (enc := encE) (zs := rset L blk ch) (fun _ => rfl) (by rw [hr.out]; first | rfl | (simp; omega) | simp) (by rw [hr.out, List.flatMap_append, List.flatMap_append]; rw [List.drop_eq_nil_of_le (by simp; omega)]; simp [encE])
            exact s3.ret ⟨⟨_, rfl, hS3, rw3.flat⟩, hE3⟩
          · have hcn2 : ¬ (cap - (n + 1) = 0) := by omega
            go_enter Tryd.func30, Tryd.ntmps30
            go_wp2_with (first
              | ((with_reducible refine gate_box (T := 35) (x := .tmp 0) ?_); refine wpList_boxG rfl rfl rfl (cs := #[.slice (some ⟨b, off, none⟩) L.length cap]) rfl ?_; intro g1 W1 e hn; have o1 := Own.made s e hn; replace s := s.new hn; clear e hn)
              | ((with_reducible refine gate_alloc (T := 35) ?_); refine wpList_allocG rfl rfl zero_RTree (cs := #[.slice none 0 0]) rfl ?_; intro g2 W2 e hn; have n12 := Lib.hid (o1.ne e); have o2 := Own.made s e hn; replace s := s.new hn; replace o1 := o1.new hn; clear e hn)
              | ((with_reducible refine gate_load (T := 35) ?_); refine wpList_load_row rfl 35 _ rfl _ rfl 35 _ _ _ o1.at_ Tryd.underlying35 rfl (by kernel_rfl) ?_)
              | (go_at_call 40; refine (hf _ s.inn).mono ?_; rw [hfV.out]; rintro e W ⟨rfl, hb⟩; replace o1 := o1.quiet hb; replace o2 := o2.quiet hb; replace s := s.quiet hb; clear hb; have rw0 := Row.nil w K W 59 2; have hn10 : (Value.slice none 0 0).ownBlock ≠ some g1 := (by rintro ⟨⟩); have hn20 : (Value.slice none 0 0).ownBlock ≠ some g2 := (by rintro ⟨⟩))
              | ((with_reducible refine gate_load (T := 33) ?_); refine wpList_loadCell rfl rfl rfl Tryd.underlying33 rfl o1.at_ rfl ?_)
              | ((with_reducible refine gate_buildSlice (T := 33) ?_); refine wpList_buildSlice1 rfl rfl rfl (cs := (encE (blk, ch)).toArray) Tryd.underlying33 info_ent (by decide) (by decide) (by kernel_rfl) ?_; intro gn W5 e hn; have hnew := hn.here; rw [← e] at hnew; replace s := s.new hn; replace o1 := o1.new hn; replace o2 := o2.new hn; replace rw1 := rw1.new hn; clear hn e)
              | ((with_reducible refine gate_append (x := #[.tmp 23, .tmp 27]) ?_); refine wpList_appendRow rfl rfl Tryd.underlying33 info_ent rfl (by decide) rfl s rw0 rfl (news := (L.take n).flatMap encE) (by rw [flat_len, List.length_take, Nat.min_eq_left (by omega)]) (by first | (intro _; rfl) | (rintro ⟨⟩)) (SlK.head s.inn HS.out n) (flat_one _) (by omega) (by decide) ?_; intro v1 W6 rw1 gr; have hn11 := o1.apart gr hn10; have hn21 := o2.apart gr hn20; replace s := s.grown rw0 gr; replace o1 := o1.grown gr hn10; replace o2 := o2.grown gr hn20; obtain ⟨a1, n1, c1, rfl⟩ := rw1.form; clear gr rw0)
              | ((with_reducible refine gate_append (x := #[.tmp 29, .tmp 33]) ?_); refine wpList_appendRow rfl rfl Tryd.underlying33 info_ent rfl (by decide) rfl s rw1 rfl (news := encE (blk, ch)) rfl (by first | (intro _; rfl) | (rintro ⟨⟩)) (cells_here hnew) (encE_one _) (by omega) (by decide) ?_; intro v2 W6 rw2 gr; have hn12 := o1.apart gr hn11; have hn22 := o2.apart gr hn21; replace s := s.grown rw1 gr; replace o1 := o1.grown gr hn11; replace o2 := o2.grown gr hn21; obtain ⟨a2, n2, c2, rfl⟩ := rw2.form; clear gr rw1)
              | ((with_reducible refine gate_append (x := #[.tmp 38, .tmp 42]) ?_); refine wpList_appendRow rfl rfl Tryd.underlying33 info_ent rfl (by decide) rfl s rw2 rfl (news := (L.drop (n + 1)).flatMap encE) (by rw [flat_len, List.length_drop]) (by first | (intro _; rfl) | (rintro ⟨⟩)) (SlK.tail s.inn HS.out (n + 1)) (flat_one _) (by omega) (by decide) ?_; intro v3 W6 rw3 gr; have hn13 := o1.apart gr hn12; have hn23 := o2.apart gr hn22; replace s := s.grown rw2 gr; replace o1 := o1.grown gr hn12; replace o2 := o2.grown gr hn22; obtain ⟨a3, n3, c3, rfl⟩ := rw3.form; clear gr rw2)
              | ((with_reducible refine gate_store (T := 35) ?_); refine wpList_storeAll rfl rfl rfl rfl (cs := #[.slice a3 n3 c3]) rfl o2.at_ rfl (by kernel_rfl) (by simp [Value.oneCell']) ?_; intro W hu; replace s := s.upd o2 hu; replace rw3 := rw3.upd hu hn23; replace o2 := o2.upd hu; clear hu o1)
              | fail)
            refine ret_cell2 rfl rfl o2.at_ Tryd.underlying35 rfl (by kernel_rfl) ?_
            obtain ⟨K3, s3, hE3, hS3, hK3⟩ := rw3.fix s (enc := encE) (zs := rset L blk ch) (fun _ => rfl) (by rw [hr.out]; first | rfl | (simp; omega) | simp) (by rw [hr.out, List.flatMap_append, List.flatMap_append]; simp [encE])
            exact s3.ret ⟨⟨_, rfl, hS3, rw3.flat⟩, hE3⟩
      · obtain ⟨rfl, rfl⟩ : a = none ∧ L = [] := by
          obtain ⟨a', cap', e, _, hx⟩ := HS.out
          cases e
          cases L with
          | cons x xs => obtain ⟨b, off, _, _, _, h, _⟩ := hx 0 x rfl; exact (ha ⟨b, off, h⟩).elim
          | nil =>
            rcases HF.out _ _ _ rfl with h | h
            · exact ⟨h, rfl⟩
            · exact (ha h).elim
        obtain rfl : n = 0 := by simpa using hle
        rw [show hit [] blk = false from rfl] at hfV hr
        go_enter Tryd.func30, Tryd.ntmps30
        go_wp2_with (first
          | ((with_reducible refine gate_box (T := 35) (x := .tmp 0) ?_); refine wpList_boxG rfl rfl rfl (cs := #[.slice none 0 cap]) rfl ?_; intro g1 W1 e hn; have o1 := Own.made s e hn; replace s := s.new hn; clear e hn)
          | ((with_reducible refine gate_alloc (T := 35) ?_); refine wpList_allocG rfl rfl zero_RTree (cs := #[.slice none 0 0]) rfl ?_; intro g2 W2 e hn; have n12 := Lib.hid (o1.ne e); have o2 := Own.made s e hn; replace s := s.new hn; replace o1 := o1.new hn; clear e hn)
          | ((with_reducible refine gate_load (T := 35) ?_); refine wpList_load_row rfl 35 _ rfl _ rfl 35 _ _ _ o1.at_ Tryd.underlying35 rfl (by kernel_rfl) ?_)
          | (go_at_call 40; refine (hf _ s.inn).mono ?_; rw [hfV.out]; rintro e W ⟨rfl, hb⟩; replace o1 := o1.quiet hb; replace o2 := o2.quiet hb; replace s := s.quiet hb; clear hb; have rw0 := Row.nil w K W 59 2; have hn10 : (Value.slice none 0 0).ownBlock ≠ some g1 := (by rintro ⟨⟩); have hn20 : (Value.slice none 0 0).ownBlock ≠ some g2 := (by rintro ⟨⟩))
          | ((with_reducible refine gate_load (T := 33) ?_); refine wpList_loadCell rfl rfl rfl Tryd.underlying33 rfl o1.at_ rfl ?_)
          | ((with_reducible refine gate_buildSlice (T := 33) ?_); refine wpList_buildSlice1 rfl rfl rfl (cs := (encE (blk, ch)).toArray) Tryd.underlying33 info_ent (by decide) (by decide) (by kernel_rfl) ?_; intro gn W5 e hn; have hnew := hn.here; rw [← e] at hnew; replace s := s.new hn; replace o1 := o1.new hn; replace o2 := o2.new hn; replace rw1 := rw1.new hn; clear hn e)
          | ((with_reducible refine gate_append (x := #[.tmp 23, .tmp 27]) ?_); refine wpList_appendRow rfl rfl Tryd.underlying33 info_ent rfl (by decide) rfl s rw0 rfl (news := []) (by first | rfl | (simp; omega)) (by first | (intro _; rfl) | (rintro ⟨⟩)) (by rintro _ _ _ _ h; simp at h) (by simp) (by omega) (by decide) ?_; intro v1 W6 rw1 gr; have hn11 := o1.apart gr hn10; have hn21 := o2.apart gr hn20; replace s := s.grown rw0 gr; replace o1 := o1.grown gr hn10; replace o2 := o2.grown gr hn20; obtain ⟨a1, n1, c1, rfl⟩ := rw1.form; clear gr rw0)
          | ((with_reducible refine gate_append (x := #[.tmp 29, .tmp 33]) ?_); refine wpList_appendRow rfl rfl Tryd.underlying33 info_ent rfl (by decide) rfl s rw1 rfl (news := encE (blk, ch)) rfl (by first | (intro _; rfl) | (rintro ⟨⟩)) (cells_here hnew) (encE_one _) (by omega) (by decide) ?_; intro v2 W6 rw2 gr; have hn12 := o1.apart gr hn11; have hn22 := o2.apart gr hn21; replace s := s.grown rw1 gr; replace o1 := o1.grown gr hn11; replace o2 := o2.grown gr hn21; obtain ⟨a2, n2, c2, rfl⟩ := rw2.form; clear gr rw1)
          | ((with_reducible refine gate_append (x := #[.tmp 38, .tmp 42]) ?_); refine wpList_appendRow rfl rfl Tryd.underlying33 info_ent rfl (by decide) rfl s rw2 rfl (news := []) (by first | rfl | (simp; omega)) (by first | (intro _; rfl) | (rintro ⟨⟩)) (by rintro _ _ _ _ h; simp at h) (by simp) (by omega) (by decide) ?_; intro v3 W6 rw3 gr; have hn13 := o1.apart gr hn12; have hn23 := o2.apart gr hn22; replace s := s.grown rw2 gr; replace o1 := o1.grown gr hn12; replace o2 := o2.grown gr hn22; obtain ⟨a3, n3, c3, rfl⟩ := rw3.form; clear gr rw2)
          | ((with_reducible refine gate_store (T := 35) ?_); refine wpList_storeAll rfl rfl rfl rfl (cs := #[.slice a3 n3 c3]) rfl o2.at_ rfl (by kernel_rfl) (by simp [Value.oneCell']) ?_; intro W hu; replace s := s.upd o2 hu; replace rw3 := rw3.upd hu hn23; replace o2 := o2.upd hu; clear hu o1)
          | fail)
        refine ret_cell2 rfl rfl o2.at_ Tryd.underlying35 rfl (by kernel_rfl) ?_
        obtain ⟨K3, s3, hE3, hS3, hK3⟩ := rw3.fix s (enc := encE) (zs := rset [] blk ch) (fun _ => rfl) (by rw [hr.out]; first | rfl | (simp; omega) | simp) (by rw [hr.out, List.flatMap_append, List.flatMap_append]; simp [encE])
        exact s3.ret ⟨⟨_, rfl, hS3, rw3.flat⟩, hE3⟩
    · have hr : Hid (rset L blk ch = L) := Lib.hid (by rw [rset, if_neg (by omega)])
      go_enter Tryd.func30, Tryd.ntmps30
      go_wp2_with (first
        | ((with_reducible refine gate_box (T := 35) (x := .tmp 0) ?_); refine wpList_boxG rfl rfl rfl (cs := #[.slice a L.length cap]) rfl ?_; intro g1 W1 e hn; have o1 := Own.made s e hn; replace s := s.new hn; clear e hn)
        | ((with_reducible refine gate_alloc (T := 35) ?_); refine wpList_allocG rfl rfl zero_RTree (cs := #[.slice none 0 0]) rfl ?_; intro g2 W2 e hn; have n12 := Lib.hid (o1.ne e); have o2 := Own.made s e hn; replace s := s.new hn; replace o1 := o1.new hn; clear e hn)
        | ((with_reducible refine gate_load (T := 35) ?_); refine wpList_load_row rfl 35 _ rfl _ rfl 35 _ _ _ o1.at_ Tryd.underlying35 rfl (by kernel_rfl) ?_)
        | ((with_reducible refine gate_store (T := 35) ?_); refine wpList_storeAll rfl rfl rfl rfl (cs := #[.slice a L.length cap]) rfl o2.at_ rfl (by kernel_rfl) (by simp [Value.oneCell']) ?_; intro W hu; replace s := s.upd o2 hu; replace o1 := o1.other hu n12.out; replace o2 := o2.upd hu; clear hu)
        | fail)
      refine ret_cell2 rfl rfl o2.at_ Tryd.underlying35 rfl (by kernel_rfl) ?_
      exact s.ret ⟨⟨_, rfl, by rw [hr.out]; exact HS.out, HF.out⟩, Ext.refl _⟩
  · have hr : Hid (rset L blk ch = L) := Lib.hid (by rw [rset, if_neg (by omega)])
    go_enter Tryd.func30, Tryd.ntmps30
    go_wp2_with (first
      | ((with_reducible refine gate_box (T := 35) (x := .tmp 0) ?_); refine wpList_boxG rfl rfl rfl (cs := #[.slice a L.length cap]) rfl ?_; intro g1 W1 e hn; have o1 := Own.made s e hn; replace s := s.new hn; clear e hn)
      | ((with_reducible refine gate_alloc (T := 35) ?_); refine wpList_allocG rfl rfl zero_RTree (cs := #[.slice none 0 0]) rfl ?_; intro g2 W2 e hn; have n12 := Lib.hid (o1.ne e); have o2 := Own.made s e hn; replace s := s.new hn; replace o1 := o1.new hn; clear e hn)
      | ((with_reducible refine gate_load (T := 35) ?_); refine wpList_load_row rfl 35 _ rfl _ rfl 35 _ _ _ o1.at_ Tryd.underlying35 rfl (by kernel_rfl) ?_)
      | ((with_reducible refine gate_store (T := 35) ?_); refine wpList_storeAll rfl rfl rfl rfl (cs := #[.slice a L.length cap]) rfl o2.at_ rfl (by kernel_rfl) (by simp [Value.oneCell']) ?_; intro W hu; replace s := s.upd o2 hu; replace o1 := o1.other hu n12.out; replace o2 := o2.upd hu; clear hu)
      | fail)
    refine ret_cell2 rfl rfl o2.at_ Tryd.underlying35 rfl (by kernel_rfl) ?_
    exact s.ret ⟨⟨_, rfl, by rw [hr.out]; exact HS.out, HF.out⟩, Ext.refl _⟩

end Go.Proofs.YtpfdlpniijgakaaDoor
