/- The reference's reader of trees says something of any tokens: lists that open and close. (Over the print tool's functions.) -/
import Derived.Test.YtmlkfgoiakcnhaaGreatDoorLexT
namespace Go.Proofs.YtmlkfgoiakcnhaaGreatDoor
open Go Go.RowKit Go.Proofs.YtmlkfgoiakcnhaaGreatDoorW.PrintWords Go.Proofs.YtmlkfgoiakcnhaaGreatDoor.PStackNone

/-- what a token does to the depth -/
def dl (t : S43) : Int := if t.f0 = 1 then 1 else if t.f0 = 2 then -1 else 0
/-- the depth behind the first tokens -/
def dP (l : List S43) (n : Nat) : Int := ((l.take n).map dl).sum
theorem dP_zero (l : List S43) : dP l 0 = 0 := by simp [dP]
theorem dP_succ (l : List S43) (n : Nat) (h : n < l.length) : dP l (n + 1) = dP l n + dl (rd_T43 l n) := by
  unfold dP rd_T43
  rw [List.take_add_one, List.getElem?_eq_getElem h, List.map_append, List.sum_append]
  simp [List.getD, List.getElem?_eq_getElem h]
theorem dl_range (t : S43) : -1 ≤ dl t ∧ dl t ≤ 1 := by unfold dl; split <;> (try split) <;> omega
theorem dP_range (l : List S43) : ∀ n, n ≤ l.length → -(n : Int) ≤ dP l n ∧ dP l n ≤ n
  | 0, _ => by simp [dP_zero]
  | n + 1, h => by
    have := dP_range l n (by omega)
    have h2 := dl_range (rd_T43 l n)
    rw [dP_succ l n (by omega)]
    omega
/-- steps are small: what is passed is met -/
theorem dP_meet (l : List S43) (v : Int) (a : Nat) : ∀ (d : Nat), a + d ≤ l.length → v ≤ dP l a → dP l (a + d) ≤ v → ∃ c, a ≤ c ∧ c ≤ a + d ∧ dP l c = v
  | 0, _, h1, h2 => ⟨a, by omega, by omega, by simp at h2; omega⟩
  | d + 1, hl, h1, h2 => by
    by_cases h : dP l (a + d) ≤ v
    · obtain ⟨c, c1, c2, c3⟩ := dP_meet l v a d (by omega) h1 h
      exact ⟨c, c1, by omega, c3⟩
    · have h3 := dP_succ l (a + d) (by omega)
      have h4 := dl_range (rd_T43 l ((a + d : Nat) : Int))
      refine ⟨a + (d + 1), by omega, by omega, ?_⟩
      rw [show a + (d + 1) = a + d + 1 by omega] at h2 ⊢
      omega
theorem dP_cut (l : List S43) (m n j : Nat) (hn : n ≤ l.length) (h : m + j ≤ n) : dP ((l.take n).drop m) j = dP l (m + j) - dP l m := by
  have e : (l.take (m + j)) = l.take m ++ ((l.take n).drop m).take j := by
    rw [List.take_drop, List.take_take, Nat.min_eq_left (by omega)]
    have := List.take_append_drop m (l.take (m + j))
    rw [List.take_take, Nat.min_eq_left (by omega)] at this
    exact this.symm
  unfold dP
  rw [e, List.map_append, List.sum_append]
  omega
/-- where the list ends that opens at a place -/
def EndR (l : List S43) (a : Nat) (r : Int) : Prop :=
  (r = -1 ∧ ∀ j, a < j → j ≤ l.length → dP l j ≠ dP l a) ∨ ∃ n : Nat, r = n ∧ a < n ∧ n ≤ l.length ∧ dP l n = dP l a ∧ ∀ j, a < j → j < n → dP l j ≠ dP l a
theorem EndR.of {l : List S43} {a n : Nat} (h1 : a < n) (h2 : n ≤ l.length) (h3 : dP l n = dP l a) (h4 : ∀ j, a < j → j < n → dP l j ≠ dP l a) : EndR l a (n : Int) := Or.inr ⟨n, rfl, h1, h2, h3, h4⟩
theorem end_loop (l : List S43) (hl : l.length ≤ 1048576) (a : Nat) : ∀ (d k i : Nat) (o : Int), i + d = l.length → a ≤ i → o = dP l i - dP l a → (∀ j, a < j → j ≤ i → dP l j ≠ dP l a) → 2 * d + 2 ≤ k →
    ∃ r, juristref04_end.l0 k l o i = some r ∧ EndR l a r := by
  intro d
  induction d with
  | zero =>
    intro k i o hd ha ho hn hk
    obtain ⟨k, rfl⟩ : ∃ m, k = m + 1 := ⟨k - 1, by omega⟩
    simp only [juristref04_end.l0]
    rw [if_neg (by omega)]
    exact ⟨_, rfl, .inl ⟨rfl, fun j h1 h2 => hn j h1 (by omega)⟩⟩
  | succ d ih =>
    intro k i o hd ha ho hn hk
    obtain ⟨k, rfl⟩ : ∃ m, k = m + 2 := ⟨k - 2, by omega⟩
    have hd' : i + 1 + d = l.length := by omega
    have hk' : 2 * d + 2 ≤ k := by omega
    have hil : i < l.length := by omega
    have hal : a ≤ l.length := by omega
    have g1 : (i : Int) < (l.length : Int) := by omega
    have g2 : (0 : Int) ≤ (i : Int) := by omega
    have w1 : wrap64 ((i : Int) + 1) = ((i + 1 : Nat) : Int) := by rw [wrap_id (by omega)]; omega
    have hs := dP_succ l i hil
    have r1 := dP_range l i (Nat.le_of_lt hil)
    have r2 := dP_range l a hal
    have fin : dP l (i + 1) = dP l a → EndR l a ((i + 1 : Nat) : Int) := fun h => EndR.of (n := i + 1) (Nat.lt_succ_of_le ha) hil h (fun j h1 h2 => hn j h1 (Nat.le_of_lt_succ h2))
    have go : ∀ o', o' = dP l (i + 1) - dP l a → o' ≠ 0 → ∃ r, juristref04_end.l0 k l o' ((i + 1 : Nat) : Int) = some r ∧ EndR l a r := fun o' h1 h2 =>
      ih k (i + 1) o' hd' (Nat.le_succ_of_le ha) h1 (fun j h3 h4 => by
        rcases Nat.lt_or_ge i j with h | h
        · have e : j = i + 1 := Nat.le_antisymm h4 h
          rw [e]
          intro e2
          rw [e2, Int.sub_self] at h1
          exact h2 h1
        · exact hn j h3 h) hk'
    clear ih hn
    unfold dl at hs
    generalize dP l (i + 1) = P1 at hs fin go
    generalize dP l i = Pi at hs r1 ho
    generalize dP l a = Pa at ho r2 fin go
    have hj1 : ∀ o' : Int, juristref04_end.j1 (k + 1) l o' i = if 0 ≤ (i : Int) then (if (i : Int) < (l.length : Int) then (if ((rd_T43 l i).f0) = 2 then (if (wrap64 (o' - 1)) = 0 then (some (wrap64 ((i : Int) + 1))) else (juristref04_end.l0 k l (wrap64 (o' - 1)) (wrap64 ((i : Int) + 1)))) else (if o' = 0 then (some (wrap64 ((i : Int) + 1))) else (juristref04_end.l0 k l o' (wrap64 ((i : Int) + 1))))) else (none)) else (none) := fun o' => by rw [juristref04_end.j1]
    have hl0 : juristref04_end.l0 (k + 2) l o i = if (i : Int) < (l.length : Int) then (if 0 ≤ (i : Int) then (if ((rd_T43 l i).f0) = 1 then (juristref04_end.j1 (k + 1) l (wrap64 (o + 1)) i) else (juristref04_end.j1 (k + 1) l o i)) else (none)) else (some (-1)) := by rw [juristref04_end.l0]
    rw [hl0, hj1, hj1, if_pos g1, if_pos g2]
    clear hj1 hl0
    by_cases h1 : (rd_T43 l (i : Int)).f0 = 1
    · have h2 : ¬ (rd_T43 l (i : Int)).f0 = 2 := by omega
      rw [if_pos h1] at hs ⊢
      rw [if_pos g2, if_pos g1, if_neg h2, w1, wrap_id (n := o + 1) (by omega)]
      split
      · exact ⟨_, rfl, fin (by omega)⟩
      · exact go _ (by omega) (by omega)
    · rw [if_neg h1] at hs ⊢
      rw [if_pos g2, if_pos g1, w1]
      by_cases h2 : (rd_T43 l (i : Int)).f0 = 2
      · rw [if_pos h2] at hs ⊢
        rw [wrap_id (n := o - 1) (by omega)]
        split
        · exact ⟨_, rfl, fin (by omega)⟩
        · exact go _ (by omega) (by omega)
      · rw [if_neg h2] at hs ⊢
        split
        · exact ⟨_, rfl, fin (by omega)⟩
        · exact go _ (by omega) (by omega)
theorem end_tot (l : List S43) (hl : l.length ≤ 1048576) (a k : Nat) (ha : a ≤ l.length) (hk : 2 * l.length + 2 ≤ k) : ∃ r, juristref04_end.f k l a = some r ∧ EndR l a r :=
  end_loop l hl a (l.length - a) k a 0 (by omega) (Nat.le_refl _) (by omega) (fun j h1 h2 => by omega) (by omega)
theorem most_loop (l : List S43) (hl : l.length ≤ 1048576) : ∀ (d k i : Nat) (o t : Int), i + d = l.length → -(i : Int) ≤ o → o ≤ i → 2 * d + 2 ≤ k → ∃ r, juristref04_most.l0 k l o t i = some r
  | 0, k, i, o, t, hd, h1, h2, hk => by
    obtain ⟨k, rfl⟩ : ∃ m, k = m + 1 := ⟨k - 1, by omega⟩
    simp only [juristref04_most.l0]
    rw [if_neg (by omega)]
    exact ⟨_, rfl⟩
  | d + 1, k, i, o, t, hd, h1, h2, hk => by
    obtain ⟨k, rfl⟩ : ∃ m, k = m + 2 := ⟨k - 2, by omega⟩
    have w1 : wrap64 ((i : Int) + 1) = ((i + 1 : Nat) : Int) := by rw [wrap_id (by omega)]; omega
    have go : ∀ o' t', -((i : Int) + 1) ≤ o' → o' ≤ i + 1 → ∃ r, juristref04_most.l0 k l o' t' ((i + 1 : Nat) : Int) = some r := fun o' t' h3 h4 => most_loop l hl d k (i + 1) o' t' (by omega) (by omega) (by omega) (by omega)
    have p1 : (0 : Int) ≤ (i : Int) := by omega
    have p2 : (i : Int) < (l.length : Int) := by omega
    have hj1 : ∀ o' t' : Int, juristref04_most.j1 (k + 1) l o' t' i = if o' > t' then (if 0 ≤ (i : Int) then (if (i : Int) < (l.length : Int) then (if ((rd_T43 l i).f0) = 2 then (juristref04_most.l0 k l (wrap64 (o' - 1)) o' (wrap64 ((i : Int) + 1))) else (juristref04_most.l0 k l o' o' (wrap64 ((i : Int) + 1)))) else (none)) else (none)) else (if 0 ≤ (i : Int) then (if (i : Int) < (l.length : Int) then (if ((rd_T43 l i).f0) = 2 then (juristref04_most.l0 k l (wrap64 (o' - 1)) t' (wrap64 ((i : Int) + 1))) else (juristref04_most.l0 k l o' t' (wrap64 ((i : Int) + 1)))) else (none)) else (none)) := fun o' t' => by rw [juristref04_most.j1]
    have hl0 : juristref04_most.l0 (k + 2) l o t i = if (i : Int) < (l.length : Int) then (if 0 ≤ (i : Int) then (if ((rd_T43 l i).f0) = 1 then (juristref04_most.j1 (k + 1) l (wrap64 (o + 1)) t i) else (juristref04_most.j1 (k + 1) l o t i)) else (none)) else (some t) := by rw [juristref04_most.l0]
    rw [hl0, hj1, hj1, if_pos p2, if_pos p1, w1]
    clear hj1 hl0
    by_cases e1 : (rd_T43 l (i : Int)).f0 = 1
    · have e2 : ¬ (rd_T43 l (i : Int)).f0 = 2 := by omega
      rw [if_pos e1, wrap_id (n := o + 1) (by omega)]
      simp only [if_pos p1, if_pos p2, if_neg e2]
      split <;> exact go _ _ (by omega) (by omega)
    · rw [if_neg e1]
      simp only [if_pos p1, if_pos p2]
      rw [wrap_id (n := o - 1) (by omega)]
      split <;> split <;> exact go _ _ (by omega) (by omega)
theorem most_tot (l : List S43) (hl : l.length ≤ 1048576) (k : Nat) (hk : 2 * l.length + 2 ≤ k) : ∃ r, juristref04_most.f k l = some r :=
  most_loop l hl l.length k 0 0 0 (by omega) (by omega) (by omega) hk
/-- tokens that are just one tree's -/
def Good (l : List S43) : Prop := 1 ≤ l.length ∧ ((rd_T43 l 0).f0 = 1 → (∀ j, 0 < j → j < l.length → 1 ≤ dP l j) ∧ dP l l.length = 0)
theorem good_cut (l : List S43) (a n : Nat) (h1 : a < n) (h2 : n ≤ l.length) (h3 : dP l n = dP l a) (h4 : ∀ j, a < j → j < n → dP l j ≠ dP l a) : Good ((l.take n).drop a) := by
  have hlen : ((l.take n).drop a).length = n - a := by rw [List.length_drop, List.length_take]; omega
  refine ⟨by omega, fun h0 => ⟨fun j j1 j2 => ?_, ?_⟩⟩
  · rw [dP_cut l a n j h2 (by omega)]
    have hr : rd_T43 ((l.take n).drop a) 0 = rd_T43 l a := by
      unfold rd_T43
      simp only [List.getD, List.getElem?_drop, List.getElem?_take]
      rw [if_pos (by simp; omega)]
      simp
    rw [hr] at h0
    have hs := dP_succ l a (by omega)
    unfold dl at hs
    rw [if_pos h0] at hs
    rcases Int.lt_or_le 0 (dP l (a + j) - dP l a) with h | h
    · omega
    · obtain ⟨c, c1, c2, c3⟩ := dP_meet l (dP l a) (a + 1) (j - 1) (by omega) (by omega) (by rw [show a + 1 + (j - 1) = a + j by omega]; omega)
      exact absurd c3 (h4 c (by omega) (by omega))
  · rw [hlen, dP_cut l a n (n - a) h2 (by omega), show a + (n - a) = n by omega]
    omega
theorem tree_tot (M : Nat) (hM : M ≤ 1048576) : ∀ (m : Nat) (l : List S43), l.length = m → m ≤ M → Good l → ∀ k, 8 * m + 2 * M + 20 ≤ k → ∃ r, juristref04_tree.f k l = some r := by
  intro m
  induction m using Nat.strongRecOn with
  | _ m ih =>
  intro l hl hm hG k hk
  obtain ⟨k, rfl⟩ : ∃ n, k = n + 1 := ⟨k - 1, by omega⟩
  obtain ⟨g1, g2⟩ := hG
  simp only [juristref04_tree.f]
  rw [if_pos (by omega)]
  by_cases h1 : (rd_T43 l 0).f0 = 1
  · rw [if_pos h1]
    obtain ⟨g3, g4⟩ := g2 h1
    have hs := dP_succ l 0 (by omega)
    have hs0 := dP_zero l
    unfold dl at hs
    rw [show ((0 : Nat) : Int) = 0 by rfl, if_pos h1] at hs
    have hs1 : dP l 1 = 1 := by simpa [hs0] using hs
    have hm2 : 2 ≤ m := by
      rcases Nat.lt_or_ge 1 m with h | h
      · exact h
      · have : m = 1 := by omega
        rw [← hl] at this; rw [this] at g4; omega
    -- the depth behind the last but one
    have hlast : dP l (m - 1) = 1 := by
      have h2 := dP_succ l (m - 1) (by omega)
      rw [show m - 1 + 1 = m by omega, ← hl, g4] at h2
      have h3 := dl_range (rd_T43 l ((l.length - 1 : Nat) : Int))
      have h4 := g3 (m - 1) (by omega) (by omega)
      rw [← hl] at h4 ⊢
      omega
    have w1 : wrap64 ((l.length : Int) - 1) = ((m - 1 : Nat) : Int) := by rw [wrap_id (by omega)]; omega
    have loop : ∀ (d k at_ : Nat) (x0 : Bool) (x1 : Int) (x2 : ByteArray) (x3 : Int) (ks : List S46), at_ + d = m - 1 → 1 ≤ at_ → dP l at_ = 1 → ks.length ≤ at_ → 8 * d + 2 * M + 28 ≤ k → ∃ r, juristref04_tree.l0 k l at_ x0 x1 x2 x3 ks = some r := by
      intro d
      induction d using Nat.strongRecOn with
      | _ d ihd =>
      intro k at_ x0 x1 x2 x3 ks hd ha hP hks hk
      obtain ⟨k, rfl⟩ : ∃ n, k = n + 1 := ⟨k - 1, by omega⟩
      simp only [juristref04_tree.l0, w1]
      by_cases hlt : (at_ : Int) < ((m - 1 : Nat) : Int)
      · rw [if_pos hlt]
        obtain ⟨r, hr, hE⟩ := end_tot l (by omega) at_ k (by omega) (by omega)
        rw [hr, Option.bind_some]
        rcases hE with ⟨_, hE⟩ | ⟨n, rfl, n1, n2, n3, n4⟩
        · exact absurd (hlast.trans hP.symm) (hE (m - 1) (by omega) (by omega))
        · have hnm : n ≤ m - 1 := by
            rcases Nat.lt_or_ge n m with h | h
            · omega
            · have : n = l.length := by omega
              rw [this, g4] at n3; omega
          rw [if_pos (by omega), if_pos (by omega), if_pos (by omega)]
          have hc := good_cut l at_ n n1 n2 n3 n4
          have hlen : ((l.take n).drop at_).length = n - at_ := by rw [List.length_drop, List.length_take]; omega
          obtain ⟨q, hq⟩ := ih (n - at_) (by omega) ((l.take n).drop at_) hlen (by omega) hc k (by omega)
          rw [show ((n : Int)).toNat = n by omega, show ((at_ : Int)).toNat = at_ by omega, hq, Option.bind_some, if_pos (by omega)]
          exact ihd (m - 1 - n) (by omega) k n _ _ _ _ _ (by omega) (by omega) (n3.trans hP) (by simp; omega) (by omega)
      · rw [if_neg hlt]; exact ⟨_, rfl⟩
    exact loop (m - 2) k 1 _ _ _ _ _ (by omega) (by omega) hs1 (by simp) (by omega)
  · rw [if_neg h1]; exact ⟨_, rfl⟩
theorem next_tot (l : List S43) (hl : l.length ≤ 1048576) : ∃ k r, juristref04_Next.f k l 0 = some r := by
  refine ⟨10 * l.length + 30, ?_⟩
  unfold juristref04_Next.f
  rw [if_neg (by omega)]
  obtain ⟨k, hk⟩ : ∃ k, 10 * l.length + 30 = k + 1 := ⟨10 * l.length + 29, by omega⟩
  rw [hk]
  simp only [juristref04_Next.j0]
  have hno : ¬ (decide ((0 : Int) > (l.length : Int)) = true) := by simp
  rw [if_neg hno]
  by_cases h0 : (0 : Int) = (l.length : Int)
  · rw [if_pos h0]; exact ⟨_, rfl⟩
  · rw [if_neg h0, if_pos (by omega), if_pos (by omega)]
    split
    · exact ⟨_, rfl⟩
    · obtain ⟨r, hr, hE⟩ := end_tot l hl 0 k (by omega) (by omega)
      rw [show ((0 : Nat) : Int) = 0 by rfl] at hr
      rw [hr, Option.bind_some]
      rcases hE with ⟨rfl, _⟩ | ⟨n, rfl, n1, n2, n3, n4⟩
      · rw [if_pos (by omega)]; exact ⟨_, rfl⟩
      · rw [if_neg (by omega), if_pos (by omega), if_pos (by omega)]
        have hlen : ((l.take n).drop 0).length = n := by rw [List.length_drop, List.length_take]; omega
        rw [show ((n : Int)).toNat = n by omega, show ((0 : Int)).toNat = 0 by rfl]
        obtain ⟨t, ht⟩ := most_tot ((l.take n).drop 0) (by omega) k (by omega)
        obtain ⟨q, hq⟩ := tree_tot l.length hl n ((l.take n).drop 0) hlen n2 (good_cut l 0 n n1 n2 n3 n4) k (by omega)
        rw [ht, Option.bind_some]
        split
        · exact ⟨_, rfl⟩
        · rw [hq, Option.bind_some]; exact ⟨_, rfl⟩
end Go.Proofs.YtmlkfgoiakcnhaaGreatDoor
