/- The references to all chunks add up to the mapped blocks: no program in sight. -/
import Derived.Test.YtdaagmhkhfcmdaaVolRf
import Derived.Test.YtdaagmhkhfcmdaaVolP
namespace Go.Proofs.Ytdaagmhkhfcmdaa
set_option maxHeartbeats 400000

/-- The sum of the first n counts. -/
def sumN (f : Nat → Int) : Nat → Int
  | 0 => 0
  | n + 1 => sumN f n + f n
theorem sumN_zero (n : Nat) : sumN (fun _ => 0) n = 0 := by
  induction n with
  | zero => rfl
  | succ n ih => simp [sumN, ih]
theorem sumN_upd (f : Nat → Int) (k : Nat) (d : Int) : ∀ n, sumN (upd f k (f k + d)) n = sumN f n + if k < n then d else 0
  | 0 => by simp [sumN]
  | n + 1 => by
    simp only [sumN, sumN_upd f k d n, upd]
    by_cases h : n = k
    · subst h
      rw [if_neg (by omega), if_pos rfl, if_pos (by omega)]
      omega
    · rw [if_neg h]
      by_cases h2 : k < n
      · rw [if_pos h2, if_pos (by omega)]; omega
      · rw [if_neg h2, if_neg (by omega)]; omega
theorem sumN_nonneg {f : Nat → Int} (h : ∀ t, 0 ≤ f t) : ∀ n, 0 ≤ sumN f n
  | 0 => by simp [sumN]
  | n + 1 => by have := sumN_nonneg h n; have := h n; simp only [sumN]; omega
/-- How often a list of volumes refers to a chunk. -/
def cntL (c : Int) (l : List AP) : Int := (l.map fun a => (cntC c a.L : Int)).sum
theorem sumN_addAll (c : Int) : ∀ (l : List AP) (f : Nat → Int), (∀ a ∈ l, 0 ≤ a.ten ∧ a.ten < 16) → sumN (addAll c f l) 16 = sumN f 16 + cntL c l
  | [], f, _ => by simp [addAll_nil, cntL]
  | a :: l, f, h => by
    have e : addAll c f (a :: l) = addAll c (addC f a.ten.toNat c a.L) l := rfl
    rw [e, sumN_addAll c l _ (fun x hx => h x (by simp [hx]))]
    unfold addC
    rw [sumN_upd, if_pos (by have := h a (by simp); omega)]
    simp only [cntL, List.map_cons, List.sum_cons]
    omega
theorem sumN_cnt {A : Asp} (h : Good A) (c : Int) : sumN (A.cnt c) 16 = cntL c A.vs + cntL c A.ss := by
  unfold Asp.cnt
  rw [sumN_addAll c A.ss _ h.s.ten, sumN_addAll c A.vs _ h.v.ten, sumN_zero]
  omega
/-- The number of mapped blocks. -/
def tot (l : List AP) : Int := (l.map fun a => (a.L.length : Int)).sum
theorem tot_nil : tot [] = 0 := rfl
theorem tot_snoc (l : List AP) (a : AP) : tot (l ++ [a]) = tot l + a.L.length := by simp [tot]
theorem tot_bound {l : List AP} {m : Nat} (h : ∀ a ∈ l, a.L.length ≤ m) : 0 ≤ tot l ∧ tot l ≤ (l.length : Int) * m := by
  induction l with
  | nil => simp [tot]
  | cons a l ih =>
    obtain ⟨h1, h2⟩ := ih fun x hx => h x (by simp [hx])
    have h3 : ((a.L.length : Nat) : Int) ≤ (m : Nat) := by have := h a (by simp); omega
    have e : tot (a :: l) = (a.L.length : Int) + tot l := by simp [tot]
    rw [e, List.length_cons]
    refine ⟨by omega, ?_⟩
    have e2 : ((l.length + 1 : Nat) : Int) * (m : Int) = (l.length : Int) * m + m := by rw [Int.natCast_add, Int.add_mul]; simp
    rw [e2]
    omega
theorem tot_take {l : List AP} {m : Nat} (h : ∀ a ∈ l, a.L.length ≤ m) (i : Nat) : 0 ≤ tot (l.take i) ∧ tot (l.take i) ≤ (l.length : Int) * m := by
  obtain ⟨h1, h2⟩ := tot_bound (l := l.take i) (m := m) fun a ha => h a (List.mem_of_mem_take ha)
  refine ⟨h1, Int.le_trans h2 (Int.mul_le_mul_of_nonneg_right ?_ (by omega))⟩
  have := List.length_take_le i l
  have : (l.take i).length ≤ l.length := List.length_take_le' i l
  omega
/-- The references to the first n chunks. -/
def upTo (f : Int → Int) : Nat → Int
  | 0 => 0
  | n + 1 => upTo f n + f (n : Int)
theorem upTo_add (f g : Int → Int) : ∀ n, upTo (fun c => f c + g c) n = upTo f n + upTo g n
  | 0 => rfl
  | n + 1 => by simp only [upTo, upTo_add f g n]; omega
theorem upTo_zero : ∀ n, upTo (fun _ => 0) n = 0
  | 0 => rfl
  | n + 1 => by simp [upTo, upTo_zero n]
theorem upTo_one (x : Int) : ∀ n : Nat, upTo (fun c => if x = c then 1 else 0) n = if 0 ≤ x ∧ x < n then 1 else 0
  | 0 => by simp [upTo]
  | n + 1 => by
    simp only [upTo, upTo_one x n]
    by_cases h : x = (n : Int)
    · rw [if_pos h, if_neg (by omega), if_pos (by omega)]; rfl
    · rw [if_neg h]
      by_cases h2 : 0 ≤ x ∧ x < n
      · rw [if_pos h2, if_pos (by omega)]; rfl
      · rw [if_neg h2, if_neg (by omega)]; rfl
theorem cntC_cons (c : Int) (x : Int × Int) (L : Ents) : ((cntC c (x :: L) : Nat) : Int) = cntC c L + if x.2 = c then 1 else 0 := by
  unfold cntC
  rw [List.countP_cons]
  by_cases h : x.2 = c
  · simp [h]
  · simp [h]
theorem upTo_cntC (n : Nat) : ∀ (L : Ents), (∀ x ∈ L, 0 ≤ x.2 ∧ x.2 < n) → upTo (fun c => (cntC c L : Int)) n = L.length
  | [], _ => by
    have e : (fun c : Int => ((cntC c [] : Nat) : Int)) = fun _ => 0 := by funext c; simp [cntC]
    rw [e, upTo_zero]
    rfl
  | x :: L, h => by
    have e : (fun c : Int => ((cntC c (x :: L) : Nat) : Int)) = fun c => (fun c : Int => ((cntC c L : Nat) : Int)) c + (fun c : Int => if x.2 = c then (1 : Int) else 0) c := by funext c; exact cntC_cons c x L
    rw [e, upTo_add, upTo_cntC n L (fun y hy => h y (by simp [hy])), upTo_one, if_pos (h x (by simp))]
    simp
theorem upTo_cntL (n : Nat) : ∀ (l : List AP), (∀ a ∈ l, ∀ x ∈ a.L, 0 ≤ x.2 ∧ x.2 < n) → upTo (fun c => cntL c l) n = tot l
  | [], _ => by
    have e : (fun c : Int => cntL c []) = fun _ => 0 := by funext c; rfl
    rw [e, upTo_zero]
    rfl
  | a :: l, h => by
    have e : (fun c : Int => cntL c (a :: l)) = fun c => (fun c : Int => ((cntC c a.L : Nat) : Int)) c + (fun c : Int => cntL c l) c := by funext c; simp [cntL]
    rw [e, upTo_add, upTo_cntC n a.L (h a (by simp)), upTo_cntL n l (fun b hb => h b (by simp [hb]))]
    simp [tot]
/-- Each chunk is below n. -/
structure Low (n : Nat) (A : Asp) : Prop where
  v : ∀ a ∈ A.vs, ∀ x ∈ a.L, 0 ≤ x.2 ∧ x.2 < n
  s : ∀ a ∈ A.ss, ∀ x ∈ a.L, 0 ≤ x.2 ∧ x.2 < n
theorem upTo_all {A : Asp} (h : Good A) {n : Nat} (hl : Low n A) : upTo (fun c => sumN (A.cnt c) 16) n = tot A.vs + tot A.ss := by
  have e : (fun c => sumN (A.cnt c) 16) = fun c => (fun c => cntL c A.vs) c + (fun c => cntL c A.ss) c := by funext c; exact sumN_cnt h c
  rw [e, upTo_add, upTo_cntL n A.vs hl.v, upTo_cntL n A.ss hl.s]
theorem Low.nil (n : Nat) : Low n ⟨[], []⟩ := ⟨by simp, by simp⟩
theorem Low.change {n : Nat} {A : Asp} (h : Low n A) {x : Int} {ok : Bool} {g : AP → AP} (hg : ∀ a, (∀ x ∈ a.L, 0 ≤ x.2 ∧ x.2 < (n : Int)) → ∀ x ∈ (g a).L, 0 ≤ x.2 ∧ x.2 < (n : Int)) : Low n (A.change x ok g).1 := by
  unfold Asp.change
  split
  · split
    · refine ⟨fun b hb => ?_, h.s⟩
      obtain ⟨a, ha, rfl | rfl⟩ := modify_mem hb
      · exact h.v _ ha
      · exact hg a (h.v a ha)
    · exact h
  · exact h
theorem Low.create {n : Nat} {A : Asp} (h : Low n A) {t : Int} {L : Ents} (hL : ∀ x ∈ L, 0 ≤ x.2 ∧ x.2 < (n : Int)) : Low n (A.create t L).1 := by
  unfold Asp.create
  split
  · split
    · refine ⟨fun b hb => ?_, h.s⟩
      rcases insAt_mem.1 hb with rfl | hb
      · exact hL
      · exact h.v b hb
    · exact h
  · exact h
theorem Low.step {n : Nat} {A : Asp} (h : Low n A) {o : Opn} (ho : 0 ≤ o.c ∧ o.c < n) : Low n (A.step o).1 := by
  unfold Asp.step
  split
  · exact h.create (by simp)
  split
  · unfold Asp.delete
    split
    · exact ⟨fun a ha => h.v a ((List.eraseIdx_sublist _ _).subset ha), h.s⟩
    · exact h
  split
  · exact h.change fun a ha => ha
  split
  · refine h.change fun a ha x hx => ?_
    have hx' : x ∈ rset a.L o.b o.c := hx
    by_cases hb : 0 ≤ o.b ∧ o.b ≤ 4095
    · rw [rset_eq _ _ _ hb] at hx'
      rcases insE_mem hx' with rfl | hx'
      · exact ho
      · exact ha x hx'
    · rw [show rset a.L o.b o.c = a.L by unfold rset; rw [if_neg hb]] at hx'
      exact ha x hx'
  split
  · refine h.change fun a ha x hx => ?_
    have hx' : x ∈ rclr a.L o.b := hx
    rw [rclr_eq] at hx'
    exact ha x (delE_mem hx')
  split
  · unfold Asp.snapshot
    split
    · exact h
    · rename_i v hv
      split
      · refine ⟨h.v, fun b hb => ?_⟩
        rcases insAt_mem.1 hb with rfl | hb
        · exact h.v v (List.mem_of_getElem? hv)
        · exact h.s b hb
      · exact h
  split
  · unfold Asp.drop
    split
    · exact ⟨h.v, fun a ha => h.s a ((List.eraseIdx_sublist _ _).subset ha)⟩
    · exact h
  split
  · unfold Asp.clone
    split
    · exact h
    · rename_i p hp
      exact h.create (h.s p (List.mem_of_getElem? hp))
  split
  · unfold Asp.restore
    split
    · exact h
    · rename_i p hp
      exact h.change fun a _ => h.s p (List.mem_of_getElem? hp)
  exact h
/-- The references of a chunk: their sum, their order. -/
def sumE (L : Ents) : Int := (L.map (·.2)).sum
theorem sumE_snoc (L : Ents) (x : Int × Int) : sumE (L ++ [x]) = sumE L + x.2 := by simp [sumE]
theorem refsTo_sum {f : Nat → Int} (h : ∀ t, 0 ≤ f t) : ∀ n, sumE (refsTo f n) = sumN f n
  | 0 => rfl
  | n + 1 => by
    rw [refsTo_succ]
    by_cases hq : 0 < f n
    · rw [if_pos hq, sumE_snoc, refsTo_sum h n]
      rfl
    · rw [if_neg hq, List.append_nil, refsTo_sum h n]
      have := h n
      simp only [sumN]
      omega
theorem refsTo_mem {f : Nat → Int} {n : Nat} {x : Int × Int} (h : x ∈ refsTo f n) : 1 ≤ x.2 ∧ 0 ≤ x.1 ∧ x.1 < n := by
  unfold refsTo at h
  obtain ⟨t, ht, e⟩ := List.mem_filterMap.1 h
  have := List.mem_range.1 ht
  split at e
  · cases e
    refine ⟨by omega, ?_, ?_⟩
    · show (0 : Int) ≤ (t : Nat); omega
    · show ((t : Nat) : Int) < n; omega
  · cases e
theorem refsTo_inc (f : Nat → Int) : ∀ n, (refsTo f n).Pairwise fun x y => x.1 < y.1
  | 0 => List.Pairwise.nil
  | n + 1 => by
    rw [refsTo_succ]
    refine List.pairwise_append.2 ⟨refsTo_inc f n, ?_, fun a ha b hb => ?_⟩
    · split
      · exact List.pairwise_singleton _ _
      · exact List.Pairwise.nil
    · split at hb
      · rw [List.mem_singleton.1 hb]
        exact (refsTo_mem ha).2.2
      · simp at hb
theorem refsTo_next {f : Nat → Int} {n i : Nat} {x y : Int × Int} (h1 : (refsTo f n)[i]? = some x) (h2 : (refsTo f n)[i + 1]? = some y) : x.1 < y.1 := by
  obtain ⟨hi, e1⟩ := List.getElem?_eq_some_iff.1 h1
  obtain ⟨hj, e2⟩ := List.getElem?_eq_some_iff.1 h2
  have := List.pairwise_iff_getElem.1 (refsTo_inc f n) i (i + 1) hi hj (by omega)
  rw [e1, e2] at this
  exact this
end Go.Proofs.Ytdaagmhkhfcmdaa
