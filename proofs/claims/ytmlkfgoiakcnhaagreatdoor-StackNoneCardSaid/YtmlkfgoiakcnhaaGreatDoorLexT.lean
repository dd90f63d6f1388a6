/- The reference's lexer says something of any text of at most so many bytes: its letters, words, numbers, quoted texts, tokens. (Over the print tool's functions.) -/
import Derived.Test.YtmlkfgoiakcnhaaGreatDoorPStackNonex7
namespace Go.Proofs.YtmlkfgoiakcnhaaGreatDoor
open Go Go.RowKit Go.Proofs.YtmlkfgoiakcnhaaGreatDoorW.PrintWords Go.Proofs.YtmlkfgoiakcnhaaGreatDoor.PStackNone

theorem wrap_id {n : Int} (h : -9223372036854775808 ≤ n ∧ n ≤ 9223372036854775807) : wrap64 n = n := by unfold wrap64; omega
theorem son_size (l : List Int) : (strOfNums l).size = l.length := by simp [strOfNums, ByteArray.size]
theorem ite_tot {α : Type} {c : Prop} [Decidable c] {a b : Option α} (h : c → ∃ r, a = some r) (k : ¬ c → ∃ r, b = some r) : ∃ r, (if c then a else b) = some r := by
  by_cases e : c
  · rw [if_pos e]; exact h e
  · rw [if_neg e]; exact k e
theorem digit_tot (a : Int) : ∃ r, juristref03_digit.f a = some r := by
  unfold juristref03_digit.f
  split <;> exact ⟨_, rfl⟩
theorem blank_tot (a : Int) : ∃ r, juristref03_blank.f a = some r := by
  unfold juristref03_blank.f
  repeat' split
  all_goals exact ⟨_, rfl⟩
theorem inner_tot (a : Int) : ∃ r, juristref03_inner.f a = some r := by
  obtain ⟨b, hb⟩ := blank_tot a
  unfold juristref03_inner.f
  rw [hb, Option.bind_some]
  repeat' split
  all_goals exact ⟨_, rfl⟩
theorem letter_loop (c : Int) (s : ByteArray) (hs : s.size ≤ 2000000) : ∀ (d k : Nat) (i : Int), 0 ≤ i → (s.size : Int) - i = d → d < k → ∃ r, juristref03_letter.l0 k c s i = some r
  | 0, k, i, h0, h1, hk => by
    obtain ⟨k, rfl⟩ : ∃ m, k = m + 1 := ⟨k - 1, by omega⟩
    obtain ⟨b, hb⟩ := digit_tot c
    simp only [juristref03_letter.l0]
    rw [if_neg (by omega)]
    simp only [hb, Option.bind_some]
    repeat' split
    all_goals exact ⟨_, rfl⟩
  | d + 1, k, i, h0, h1, hk => by
    obtain ⟨k, rfl⟩ : ∃ m, k = m + 1 := ⟨k - 1, by omega⟩
    obtain ⟨r, h⟩ := letter_loop c s hs d k (i + 1) (by omega) (by omega) (by omega)
    simp only [juristref03_letter.l0]
    rw [if_pos (by omega), if_pos h0, wrap_id (by omega), h]
    split <;> exact ⟨_, rfl⟩
theorem letter_tot (c : Int) (k : Nat) (hk : 18 ≤ k) : ∃ r, juristref03_letter.f k c = some r := letter_loop c _ (by decide) 17 k 0 (by omega) (by decide) (by omega)
/-- a word's length -/
theorem word_loop (l : List Int) (at_ : Int) (hl : l.length ≤ 1048576) (ha : 0 ≤ at_) : ∀ (d k : Nat) (n : Int), 0 ≤ n → (l.length : Int) - (at_ + n) = d → d + 20 ≤ k → ∃ r, juristref03_word.l0 k l at_ n = some r ∧ n ≤ r ∧ at_ + r ≤ l.length
  | 0, k, n, h0, h1, hk => by
    obtain ⟨k, rfl⟩ : ∃ m, k = m + 1 := ⟨k - 1, by omega⟩
    simp only [juristref03_word.l0]
    rw [wrap_id (n := at_ + n) (by omega), if_neg (by omega)]
    exact ⟨_, rfl, by omega, by omega⟩
  | d + 1, k, n, h0, h1, hk => by
    obtain ⟨k, rfl⟩ : ∃ m, k = m + 1 := ⟨k - 1, by omega⟩
    obtain ⟨b, hb⟩ := letter_tot (rd l (at_ + n)) k (by omega)
    obtain ⟨r, h, h2, h3⟩ := word_loop l at_ hl ha d k (n + 1) (by omega) (by omega) (by omega)
    simp only [juristref03_word.l0]
    rw [wrap_id (n := at_ + n) (by omega), if_pos (by omega), if_pos (by omega), hb, Option.bind_some]
    split
    · rw [wrap_id (by omega), h]; exact ⟨r, rfl, by omega, h3⟩
    · exact ⟨n, rfl, by omega, by omega⟩
theorem word_tot (l : List Int) (at_ : Int) (k : Nat) (hl : l.length ≤ 1048576) (ha : 0 ≤ at_) (hle : at_ ≤ l.length) (hk : l.length + 20 ≤ k) : ∃ r, juristref03_word.f k l at_ = some r ∧ 0 ≤ r ∧ at_ + r ≤ l.length :=
  word_loop l at_ hl ha ((l.length : Int) - at_).toNat k 0 (by omega) (by omega) (by omega)
theorem number_loop (s : ByteArray) (hs : s.size ≤ 2000000) (h1s : 0 < s.size) : ∀ (d k : Nat) (i : Int), 0 ≤ i → (s.size : Int) - i = d → d < k → ∃ r, juristref03_number.l0 k s i = some r
  | 0, k, i, h0, h1, hk => by
    obtain ⟨k, rfl⟩ : ∃ m, k = m + 1 := ⟨k - 1, by omega⟩
    simp only [juristref03_number.l0]
    rw [if_neg (by omega)]
    exact ⟨_, rfl⟩
  | d + 1, k, i, h0, h1, hk => by
    obtain ⟨k, rfl⟩ : ∃ m, k = m + 1 := ⟨k - 1, by omega⟩
    obtain ⟨b, hb⟩ := digit_tot (bt s i)
    obtain ⟨r, h⟩ := number_loop s hs h1s d k (i + 1) (by omega) (by omega) (by omega)
    have hp : (0 : Int) < (s.size : Int) := by omega
    simp only [juristref03_number.l0]
    rw [if_pos (by omega), if_pos h0, hb, Option.bind_some]
    have w1 : wrap64 (i + 1) = i + 1 := wrap_id (by omega)
    rw [w1, h]
    generalize bt s i = c
    generalize bt s 0 = e
    repeat' first
      | exact ⟨_, rfl⟩
      | (refine ite_tot (fun _ => ?_) (fun _ => ?_))
      | exact absurd hp (by assumption)
theorem number_tot (s : ByteArray) (k : Nat) (hs : s.size ≤ 2000000) (hk : s.size < k) : ∃ r, juristref03_number.f k s = some r := by
  unfold juristref03_number.f
  split
  · exact ⟨_, rfl⟩
  · exact number_loop s hs (by omega) (s.size - 1) k 1 (by omega) (by omega) (by omega)
theorem numeral_loop (s : ByteArray) (hs : s.size ≤ 2000000) : ∀ (d k : Nat) (i : Int), 0 ≤ i → (s.size : Int) - i = d → d < k → ∃ r, juristref03_numeral.l0 k s i = some r
  | 0, k, i, h0, h1, hk => by
    obtain ⟨k, rfl⟩ : ∃ m, k = m + 1 := ⟨k - 1, by omega⟩
    simp only [juristref03_numeral.l0]
    rw [if_neg (by omega)]
    split
    · exact ⟨_, rfl⟩
    · split
      · rw [if_pos (by omega)]; exact ⟨_, rfl⟩
      · exact ⟨_, rfl⟩
  | d + 1, k, i, h0, h1, hk => by
    obtain ⟨k, rfl⟩ : ∃ m, k = m + 1 := ⟨k - 1, by omega⟩
    obtain ⟨b, hb⟩ := digit_tot (bt s i)
    obtain ⟨r, h⟩ := numeral_loop s hs d k (i + 1) (by omega) (by omega) (by omega)
    simp only [juristref03_numeral.l0]
    rw [if_pos (by omega), if_pos h0, hb, Option.bind_some, wrap_id (by omega), h]
    split <;> exact ⟨_, rfl⟩
theorem numeral_tot (s : ByteArray) (k : Nat) (hs : s.size ≤ 2000000) (hk : s.size < k) : ∃ r, juristref03_numeral.f k s = some r :=
  numeral_loop s hs s.size k 0 (by omega) (by omega) (by omega)
theorem decimal_l1 (s : ByteArray) (hs : s.size ≤ 2000000) : ∀ (d k : Nat) (i : Int), 0 ≤ i → (s.size : Int) - i ≤ d → d < k → ∃ r, juristref03_decimal.l1 k s i = some r
  | 0, k, i, h0, h1, hk => by
    obtain ⟨k, rfl⟩ : ∃ m, k = m + 1 := ⟨k - 1, by omega⟩
    simp only [juristref03_decimal.l1]
    rw [if_neg (by omega)]
    exact ⟨_, rfl⟩
  | d + 1, k, i, h0, h1, hk => by
    obtain ⟨k, rfl⟩ : ∃ m, k = m + 1 := ⟨k - 1, by omega⟩
    simp only [juristref03_decimal.l1]
    by_cases hlt : i < (s.size : Int)
    · obtain ⟨b, hb⟩ := digit_tot (bt s i)
      obtain ⟨r, h⟩ := decimal_l1 s hs d k (i + 1) (by omega) (by omega) (by omega)
      rw [if_pos hlt, if_pos h0, hb, Option.bind_some, wrap_id (by omega), h]
      split <;> exact ⟨_, rfl⟩
    · rw [if_neg hlt]; exact ⟨_, rfl⟩
theorem decimal_j2 (s : ByteArray) (hs : s.size ≤ 2000000) (k : Nat) (i : Int) (b : Bool) (h0 : 0 ≤ i) (hi : i ≤ s.size) (hk : s.size + 2 ≤ k) : ∃ r, juristref03_decimal.j2 k s i b = some r := by
  obtain ⟨k, rfl⟩ : ∃ m, k = m + 1 := ⟨k - 1, by omega⟩
  simp only [juristref03_decimal.j2]
  split
  · exact ⟨_, rfl⟩
  · rw [wrap_id (by omega)]
    exact decimal_l1 s hs s.size k (i + 1) (by omega) (by omega) (by omega)
theorem decimal_j1 (s : ByteArray) (hs : s.size ≤ 2000000) (k : Nat) (i : Int) (h0 : 0 ≤ i) (hi : i ≤ s.size) (hk : s.size + 3 ≤ k) : ∃ r, juristref03_decimal.j1 k s i = some r := by
  obtain ⟨k, rfl⟩ : ∃ m, k = m + 1 := ⟨k - 1, by omega⟩
  simp only [juristref03_decimal.j1]
  have hx : (s.extract 0 i.toNat).size ≤ s.size := by simp [ByteArray.size_extract]; omega
  obtain ⟨b, hb⟩ := numeral_tot (s.extract 0 i.toNat) k (by omega) (by omega)
  split
  · exact decimal_j2 s hs k i true h0 hi (by omega)
  · (try rw [if_pos h0, if_pos hi])
    rw [hb, Option.bind_some]
    exact decimal_j2 s hs k i (!b) h0 hi (by omega)
theorem decimal_loop (s : ByteArray) (hs : s.size ≤ 2000000) : ∀ (d k : Nat) (i : Int), 0 ≤ i → (s.size : Int) - i = d → d + s.size + 4 ≤ k → ∃ r, juristref03_decimal.l0 k s i = some r
  | 0, k, i, h0, h1, hk => by
    obtain ⟨k, rfl⟩ : ∃ m, k = m + 1 := ⟨k - 1, by omega⟩
    simp only [juristref03_decimal.l0]
    rw [if_neg (by omega)]
    exact decimal_j1 s hs k i h0 (by omega) (by omega)
  | d + 1, k, i, h0, h1, hk => by
    obtain ⟨k, rfl⟩ : ∃ m, k = m + 1 := ⟨k - 1, by omega⟩
    simp only [juristref03_decimal.l0]
    rw [if_pos (by omega), if_pos h0]
    split
    · exact decimal_j1 s hs k i h0 (by omega) (by omega)
    · rw [wrap_id (by omega)]
      exact decimal_loop s hs d k (i + 1) (by omega) (by omega) (by omega)
theorem decimal_tot (s : ByteArray) (k : Nat) (hs : s.size ≤ 2000000) (hk : 2 * s.size + 4 ≤ k) : ∃ r, juristref03_decimal.f k s = some r :=
  decimal_loop s hs s.size k 0 (by omega) (by omega) (by omega)
theorem cut_size (l : List Int) (a b : Nat) : (strOfNums ((l.take b).drop a)).size ≤ l.length := by
  rw [son_size, List.length_drop, List.length_take]; omega
/-- a quoted text; what it answers, and how many bytes that takes -/
def QuoR (l : List Int) (at_ : Int) (r : ByteArray × Int × Int) : Prop := r.2.2 = 0 → 1 ≤ r.2.1 ∧ at_ + r.2.1 ≤ l.length
theorem quoted_loop (l : List Int) (at_ m : Int) (hl : l.length ≤ 1048576) (ha : 0 ≤ at_) : ∀ (d k : Nat) (s : ByteArray) (i : Int), at_ < i → i ≤ l.length → (l.length : Int) - i = d → (s.size : Int) ≤ i → 2 * d + 2 ≤ k →
    ∃ r, juristref03_quoted.l0 k l at_ m s i = some r ∧ QuoR l at_ r := by
  intro d
  induction d using Nat.strongRecOn with
  | _ d ih =>
  intro k s i hi hle hd hs hk
  obtain ⟨k, rfl⟩ : ∃ n, k = n + 1 := ⟨k - 1, by omega⟩
  simp only [juristref03_quoted.l0]
  by_cases hlt : i < (l.length : Int)
  · rw [if_pos hlt, if_pos (by omega)]
    have hj : ∀ b : Bool, (b = true → i + 2 ≤ l.length) → ∃ r, juristref03_quoted.j1 k l at_ m s i (rd l i) b = some r ∧ QuoR l at_ r := by
      intro b hb
      obtain ⟨k, rfl⟩ : ∃ n, k = n + 1 := ⟨k - 1, by omega⟩
      have hc : (strOfNums ((l.take (i + 1).toNat).drop i.toNat)).size = 1 := by rw [son_size, List.length_drop, List.length_take]; omega
      have hap : ∀ t : ByteArray, (s ++ t).size = s.size + t.size := fun t => ByteArray.size_append
      simp only [juristref03_quoted.j1]
      have w1 : wrap64 (i + 1) = i + 1 := wrap_id (by omega)
      have w2 : wrap64 (i + 2) = i + 2 := wrap_id (by omega)
      simp only [w1, w2]
      have g1 : (0 : Int) ≤ i := by omega
      have g2 : i ≤ i + 1 := by omega
      have g3 : i + 1 ≤ (l.length : Int) := by omega
      have g4 : s.size + (strOfNums ((l.take (i + 1).toNat).drop i.toNat)).size ≤ 9223372036854775807 := by rw [hc]; omega
      obtain ⟨v, hv⟩ := inner_tot (rd l i)
      cases b with
      | true =>
        have := hb rfl
        rw [if_pos rfl, if_pos g1, if_pos g2, if_pos g3, if_pos g4]
        exact ih (d - 2) (by omega) k _ (i + 2) (by omega) (by omega) (by omega) (by rw [hap, hc]; omega) (by omega)
      | false =>
        rw [if_neg (by simp)]
        by_cases e1 : rd l i = m
        · rw [if_pos e1]
          refine ⟨_, rfl, fun _ => ?_⟩
          simp only
          rw [wrap_id (by omega)]
          omega
        · rw [if_neg e1, hv, Option.bind_some]
          have next : ∃ r, juristref03_quoted.l0 k l at_ m (s ++ strOfNums ((l.take (i + 1).toNat).drop i.toNat)) (i + 1) = some r ∧ QuoR l at_ r :=
            ih (d - 1) (by omega) k _ (i + 1) (by omega) (by omega) (by omega) (by rw [hap, hc]; omega) (by omega)
          split
          · split
            · split
              · exact ⟨_, rfl, fun h => by simp at h⟩
              · (try rw [if_pos g1, if_pos g2, if_pos g3, if_pos g4])
                exact next
            · (try rw [if_pos g1, if_pos g2, if_pos g3, if_pos g4])
              exact next
          · exact ⟨_, rfl, fun h => by simp at h⟩
    split
    · split
      · rw [wrap_id (n := i + 1) (by omega)]
        split
        · rename_i h1 h2 h3
          rw [if_pos (by omega)]
          exact hj _ (fun _ => by omega)
        · exact hj _ (fun h => by cases h)
      · exact hj _ (fun h => by cases h)
    · exact hj _ (fun h => by cases h)
  · rw [if_neg hlt]
    exact ⟨_, rfl, fun h => by simp at h⟩
theorem quoted_tot (l : List Int) (at_ m : Int) (k : Nat) (hl : l.length ≤ 1048576) (ha : 0 ≤ at_) (hlt : at_ < l.length) (hk : 2 * l.length + 2 ≤ k) : ∃ r, juristref03_quoted.f k l at_ m = some r ∧ QuoR l at_ r := by
  unfold juristref03_quoted.f
  rw [wrap_id (by omega)]
  exact quoted_loop l at_ m hl ha ((l.length : Int) - (at_ + 1)).toNat k _ (at_ + 1) (by omega) (by omega) (by omega) (by show ((0 : Nat) : Int) ≤ _; omega) (by omega)
/-- what the token at a place answers: if nothing is wrong, it takes bytes -/
def OneR (l : List Int) (at_ : Int) (r : Int × ByteArray × Int × Int × Int) : Prop := r.2.2.2.2 = 0 → 1 ≤ r.2.2.2.1 ∧ at_ + r.2.2.2.1 ≤ l.length
theorem one_j1 (l : List Int) (at_ : Int) (c : Int) (b : Bool) (y0 : Int) (y1 : ByteArray) (y2 : Int) (k : Nat) (hl : l.length ≤ 1048576) (ha : 0 ≤ at_) (hlt : at_ < l.length) (hk : 2 * l.length + 30 ≤ k) : ∃ r, juristref03_One.j1 k l at_ c b y0 y1 y2 = some r ∧ OneR l at_ r := by
  obtain ⟨k, rfl⟩ : ∃ n, k = n + 1 := ⟨k - 1, by omega⟩
  have w1 : wrap64 (at_ + 1) = at_ + 1 := wrap_id (by omega)
  obtain ⟨n, hn, n0, n1⟩ := word_tot l (at_ + 1) k hl (by omega) (by omega) (by omega)
  obtain ⟨m, hm, m0, m1⟩ := word_tot l at_ k hl ha (by omega) (by omega)
  have w2 : wrap64 (at_ + 1 + n) = at_ + 1 + n := wrap_id (by omega)
  have w3 : wrap64 (at_ + m) = at_ + m := wrap_id (by omega)
  have w4 : wrap64 (n + 1) = n + 1 := wrap_id (by omega)
  simp only [juristref03_One.j1, w1, hn, hm, Option.bind_some, w2, w3, w4]
  by_cases hb : b = true
  · rw [if_pos hb]
    by_cases e0 : n = 0
    · rw [if_pos e0]; exact ⟨_, rfl, fun h => by simp at h⟩
    · have hc := cut_size l (at_ + 1).toNat (at_ + 1 + n).toNat
      obtain ⟨v, hv⟩ := number_tot (strOfNums ((l.take (at_ + 1 + n).toNat).drop (at_ + 1).toNat)) k (by omega) (by omega)
      have g1 : 0 ≤ at_ + 1 := by omega
      have g2 : at_ + 1 ≤ at_ + 1 + n := by omega
      have g3 : at_ + 1 + n ≤ (l.length : Int) := by omega
      have g4 : 1 + (strOfNums ((l.take (at_ + 1 + n).toNat).drop (at_ + 1).toNat)).size ≤ 9223372036854775807 := by omega
      rw [if_neg e0, if_pos g1, if_pos g2, if_pos g3, hv, Option.bind_some, if_pos g4]
      have ok : 1 ≤ n + 1 ∧ at_ + (n + 1) ≤ l.length := by omega
      by_cases e1 : c = 35
      · rw [if_pos e1]
        by_cases e2 : v = true
        · rw [if_pos e2]; exact ⟨_, rfl, fun _ => ok⟩
        · rw [if_neg e2]; exact ⟨_, rfl, fun h => by simp at h⟩
      · rw [if_neg e1]; exact ⟨_, rfl, fun _ => ok⟩
  · rw [if_neg hb]
    by_cases e0 : m = 0
    · rw [if_pos e0]; exact ⟨_, rfl, fun h => by simp at h⟩
    · have hc := cut_size l at_.toNat (at_ + m).toNat
      obtain ⟨v, hv⟩ := digit_tot c
      obtain ⟨u, hu⟩ := numeral_tot (strOfNums ((l.take (at_ + m).toNat).drop at_.toNat)) k (by omega) (by omega)
      obtain ⟨t, ht⟩ := decimal_tot (strOfNums ((l.take (at_ + m).toNat).drop at_.toNat)) k (by omega) (by omega)
      have g2 : at_ ≤ at_ + m := by omega
      rw [if_neg e0, if_pos ha, if_pos g2, if_pos m1, hv, Option.bind_some, hu, Option.bind_some, ht, Option.bind_some]
      have ok : 1 ≤ m ∧ at_ + m ≤ l.length := by omega
      by_cases e1 : v = true
      · rw [if_pos e1]
        by_cases e2 : u = true
        · rw [if_pos e2]; exact ⟨_, rfl, fun _ => ok⟩
        · rw [if_neg e2]
          by_cases e3 : t = true
          · rw [if_pos e3]; exact ⟨_, rfl, fun _ => ok⟩
          · rw [if_neg e3]; exact ⟨_, rfl, fun h => by simp at h⟩
      · rw [if_neg e1]; exact ⟨_, rfl, fun _ => ok⟩
theorem one_j0 (l : List Int) (at_ : Int) (c : Int) (b : Bool) (y0 : Int) (y1 : ByteArray) (y2 : Int) (k : Nat) (hl : l.length ≤ 1048576) (ha : 0 ≤ at_) (hlt : at_ < l.length) (hk : 2 * l.length + 31 ≤ k) : ∃ r, juristref03_One.j0 k l at_ c b y0 y1 y2 = some r ∧ OneR l at_ r := by
  obtain ⟨k, rfl⟩ : ∃ n, k = n + 1 := ⟨k - 1, by omega⟩
  simp only [juristref03_One.j0]
  obtain ⟨q, hq, hr⟩ := quoted_tot l at_ c k hl ha hlt (by omega)
  split
  · rw [hq, Option.bind_some]
    split <;> exact ⟨_, rfl, hr⟩
  · split
    · exact one_j1 l at_ c _ y0 y1 y2 k hl ha hlt (by omega)
    · exact one_j1 l at_ c _ y0 y1 y2 k hl ha hlt (by omega)
theorem one_tot (l : List Int) (at_ : Int) (k : Nat) (hl : l.length ≤ 1048576) (ha : 0 ≤ at_) (hlt : at_ < l.length) (hk : 2 * l.length + 31 ≤ k) : ∃ r, juristref03_One.f k l at_ = some r ∧ OneR l at_ r := by
  unfold juristref03_One.f
  rw [if_pos ha, if_pos hlt]
  split
  · exact ⟨_, rfl, fun _ => by simp only; omega⟩
  split
  · exact ⟨_, rfl, fun _ => by simp only; omega⟩
  split <;> exact one_j0 l at_ _ _ _ _ _ k hl ha hlt hk
theorem blank_10 : juristref03_blank.f 10 = some true := by decide
theorem tokens_loop (l : List Int) (hl : l.length ≤ 1048576) : ∀ (d k : Nat) (ts : List S43) (i : Int), 0 ≤ i → (l.length : Int) - i = d → (ts.length : Int) ≤ i → 4 * d + 2 * l.length + 40 ≤ k →
    (∃ r, juristref03_Tokens.l0 k l ts i = some r ∧ (r.1.length : Int) ≤ l.length) ∧ (∃ r, juristref03_Tokens.l1 k l ts i = some r ∧ (r.1.length : Int) ≤ l.length) := by
  intro d
  induction d using Nat.strongRecOn with
  | _ d ih =>
  intro k ts i h0 hd hts hk
  have w1 : wrap64 (i + 1) = i + 1 := wrap_id (by omega)
  have one : ∀ (k : Nat), 4 * d + 2 * l.length + 39 ≤ k → (i < (l.length : Int)) → (∃ r, juristref03_Tokens.l0 k l ts (i + 1) = some r ∧ (r.1.length : Int) ≤ l.length) ∧ ∃ r, juristref03_Tokens.l1 k l ts (i + 1) = some r ∧ (r.1.length : Int) ≤ l.length :=
    fun k hk hlt => ih (d - 1) (by omega) k ts (i + 1) (by omega) (by omega) (by omega) (by omega)
  by_cases hlt : i < (l.length : Int)
  · have l1ok : ∀ (k : Nat), 4 * d + 2 * l.length + 39 ≤ k → rd l i ≠ 10 → ∃ r, juristref03_Tokens.l1 k l ts i = some r ∧ (r.1.length : Int) ≤ l.length := by
      intro k hk hne
      obtain ⟨k, rfl⟩ : ∃ n, k = n + 1 := ⟨k - 1, by omega⟩
      simp only [juristref03_Tokens.l1]
      rw [if_pos hlt, if_pos h0, if_neg hne, w1]
      exact (ih (d - 1) (by omega) k ts (i + 1) (by omega) (by omega) (by omega) (by omega)).2
    have l0ok : ∀ (k : Nat), 4 * d + 2 * l.length + 39 ≤ k → ∃ r, juristref03_Tokens.l0 k l ts i = some r ∧ (r.1.length : Int) ≤ l.length := by
      intro k hk
      obtain ⟨k, rfl⟩ : ∃ n, k = n + 1 := ⟨k - 1, by omega⟩
      simp only [juristref03_Tokens.l0]
      rw [if_pos hlt, if_pos h0]
      obtain ⟨b, hb⟩ := blank_tot (rd l i)
      rw [hb, Option.bind_some]
      split
      · rw [w1]
        exact (ih (d - 1) (by omega) k ts (i + 1) (by omega) (by omega) (by omega) (by omega)).1
      · split
        · rename_i h59
          obtain ⟨k, rfl⟩ : ∃ n, k = n + 1 := ⟨k - 1, by omega⟩
          simp only [juristref03_Tokens.l1]
          rw [if_pos hlt, if_pos h0, if_neg (by omega), w1]
          exact (ih (d - 1) (by omega) k ts (i + 1) (by omega) (by omega) (by omega) (by omega)).2
        · obtain ⟨r, hr, h1⟩ := one_tot l i k hl h0 hlt (by omega)
          rw [hr, Option.bind_some]
          split
          · rename_i he
            obtain ⟨q1, q2⟩ := h1 he
            rw [if_pos (by omega), wrap_id (by omega)]
            exact (ih (d - r.2.2.2.1.toNat) (by omega) k _ (i + r.2.2.2.1) (by omega) (by omega) (by simp; omega) (by omega)).1
          · exact ⟨_, rfl, by simp only; omega⟩
    refine ⟨l0ok k (by omega), ?_⟩
    by_cases h10 : rd l i = 10
    · obtain ⟨k, rfl⟩ : ∃ n, k = n + 1 := ⟨k - 1, by omega⟩
      simp only [juristref03_Tokens.l1]
      rw [if_pos hlt, if_pos h0, if_pos h10]
      exact l0ok k (by omega)
    · exact l1ok k (by omega) h10
  · have hend : ∀ k, 1 ≤ k → ∃ r, juristref03_Tokens.l0 k l ts i = some r ∧ (r.1.length : Int) ≤ l.length := by
      intro k hk
      obtain ⟨k, rfl⟩ : ∃ n, k = n + 1 := ⟨k - 1, by omega⟩
      simp only [juristref03_Tokens.l0]
      rw [if_neg hlt]
      exact ⟨_, rfl, by simp only; omega⟩
    refine ⟨hend k (by omega), ?_⟩
    obtain ⟨k, rfl⟩ : ∃ n, k = n + 1 := ⟨k - 1, by omega⟩
    simp only [juristref03_Tokens.l1]
    rw [if_neg hlt]
    exact hend k (by omega)
theorem tokens_tot (l : List Int) : ∃ k r, juristref03_Tokens.f k l = some r ∧ r.1.length ≤ 1048576 := by
  by_cases hl : l.length ≤ 1048576
  · refine ⟨6 * l.length + 40, ?_⟩
    unfold juristref03_Tokens.f
    rw [if_neg (by omega)]
    obtain ⟨r, h1, h2⟩ := (tokens_loop l hl l.length (6 * l.length + 40) [] 0 (by omega) (by omega) (by simp) (by omega)).1
    exact ⟨r, h1, by omega⟩
  · refine ⟨0, ([], 0, 3), ?_, Nat.zero_le _⟩
    unfold juristref03_Tokens.f
    rw [if_pos (by omega)]
end Go.Proofs.YtmlkfgoiakcnhaaGreatDoor
