/- What Do of the specification does. -/
import Derived.Test.YtpfdlpniijgakaaDoorRefG
import Derived.Test.YtpfdlpniijgakaaDoorDrawn
namespace Go.Proofs.YtpfdlpniijgakaaDoor
open Go Go.RowKit
set_option maxHeartbeats 400000

/-- One change of a script. -/
structure Chg where
  from_ : Int
  clear : Bool
  block : Int
  chunk : Int
def encO (o : Chg) : List Value := [.int .i64 o.from_, .bool o.clear, .int .i64 o.block, .int .i64 o.chunk]
def rdo (L : Ents) (o : Chg) : Ents := if o.clear then rclr L o.block else rset L o.block o.chunk
theorem rset_len (L : Ents) (b c : Int) : (rset L b c).length ≤ L.length + 1 := by
  unfold rset
  have := fnd_le L b
  split
  · split <;> simp <;> omega
  · omega
theorem rclr_len (L : Ents) (b : Int) : (rclr L b).length ≤ L.length := by
  unfold rclr
  have := fnd_le L b
  split
  · simp; omega
  · omega
theorem rdo_len (L : Ents) (o : Chg) : (rdo L o).length ≤ L.length + 1 := by
  unfold rdo
  split
  · exact Nat.le_trans (rclr_len _ _) (by omega)
  · exact rset_len _ _ _

set_option maxRecDepth 100000 in
theorem rDo_ok (K : Fz) (v : Value) (L : Ents) (o : Chg) (w : World) (hK : K.In w) (hR : RT K v L) (hlen : L.length ≤ 1000000) :
    Calls Tryd.prog 16 #[v, .agg (encO o).toArray] w (Ret K w fun K' v' => RT K' v' (rdo L o) ∧ Ext K K') := by
  obtain ⟨sv, rfl, hS, hF⟩ := hR
  have hc := fun W (hW : K.In W) => rClear_ok K sv L o.block W hW hS hF hlen
  have hs := fun W (hW : K.In W) => rSet_ok K sv L o.block o.chunk W hW hS hF hlen
  have HS := Lib.hid hS
  have HF := Lib.hid hF
  obtain ⟨a, cap, rfl, hcap, hx⟩ := hS
  have s := St.start hK
  clear hx hF
  obtain ⟨fm, cl, blk, ch⟩ := o
  cases cl
  all_goals
    go_enter Tryd.func16, Tryd.ntmps16
    go_wp2_with (first
      | ((with_reducible refine gate_box (T := 35) (x := .tmp 0) ?_); refine wpList_boxG rfl rfl rfl (cs := #[.slice a L.length cap]) rfl ?_; intro g1 W1 e hn; have o1 := Own.made s e hn; replace s := s.new hn; clear e hn)
      | ((with_reducible refine gate_box (T := 38) (x := .tmp 1) ?_); refine wpList_boxG rfl rfl rfl (cs := #[.int .i64 fm, .bool _, .int .i64 blk, .int .i64 ch]) rfl ?_; intro g3 W3 e hn; have o3 := Own.made s e hn; replace s := s.new hn; replace o1 := o1.new hn; clear e hn)
      | ((with_reducible refine gate_alloc (T := 35) ?_); refine wpList_allocG rfl rfl zero_RTree (cs := #[.slice none 0 0]) rfl ?_; intro g2 W2 e hn; have n12 := Lib.hid (o1.ne e); have o2 := Own.made s e hn; replace s := s.new hn; replace o1 := o1.new hn; replace o3 := o3.new hn; clear e hn)
      | ((with_reducible refine gate_load (T := 35) ?_); refine wpList_load_row rfl 35 _ rfl _ rfl 35 _ _ _ o1.at_ Tryd.underlying35 rfl (by kernel_rfl) ?_)
      | ((with_reducible refine gate_load (T := 3) ?_); refine wpList_loadCell rfl rfl rfl Tryd.underlying3 rfl o3.at_ rfl ?_)
      | ((with_reducible refine gate_load (T := 4) ?_); refine wpList_loadCell rfl rfl rfl Tryd.underlying4 rfl o3.at_ rfl ?_)
      | (go_at_call 35; refine (hc _ s.inn).mono ?_; rintro e W ⟨v, K', rfl, hi, hl, hb, ⟨sv', rfl, hS', hF'⟩, hE⟩; replace o1 := o1.call hl hb; replace o2 := o2.call hl hb; replace s := s.call hi hl hb; obtain ⟨a', cap', rfl, _, _⟩ := id hS')
      | (go_at_call 30; refine (hs _ s.inn).mono ?_; rintro e W ⟨v, K', rfl, hi, hl, hb, ⟨sv', rfl, hS', hF'⟩, hE⟩; replace o1 := o1.call hl hb; replace o2 := o2.call hl hb; replace s := s.call hi hl hb; obtain ⟨a', cap', rfl, _, _⟩ := id hS')
      | ((with_reducible refine gate_store (T := 35) ?_); refine wpList_storeAll rfl rfl rfl rfl (cs := #[.slice a' _ cap']) rfl o2.at_ rfl (by kernel_rfl) (by simp [Value.oneCell']) ?_; intro W hu; replace s := s.upd o2 hu; replace o2 := o2.upd hu; clear hu)
      | fail)
    refine ret_cell2 rfl rfl o2.at_ Tryd.underlying35 rfl (by kernel_rfl) ?_
    exact s.ret ⟨⟨_, rfl, hS', hF'⟩, hE⟩
end Go.Proofs.YtpfdlpniijgakaaDoor
