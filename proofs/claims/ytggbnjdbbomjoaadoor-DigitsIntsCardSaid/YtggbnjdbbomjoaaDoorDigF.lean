/- Plain laws of numerals: what is read of a text, and the text of what is read. -/
import Derived.Test.YtggbnjdbbomjoaaDoorNm
namespace Go.Proofs.YtggbnjdbbomjoaaDoor
open Go.RowKit
theorem numD_app (acc : Nat) (l r : List UInt8) : numD acc (l ++ r) = numD (numD acc l) r := by
  induction l generalizing acc with
  | nil => rfl
  | cons c l ih => exact ih _
theorem digit_of (k : Nat) (h : k < 10) : (UInt8.ofNat (48 + k)).toNat = 48 + k := by simp [UInt8.toNat_ofNat']; omega
theorem digit_isD (k : Nat) (h : k < 10) : isD (UInt8.ofNat (48 + k)) = true := by rw [isD_iff, digit_of k h]; omega
theorem dec_isD (n : Nat) : (Lib.decDigits n).all isD = true := by
  induction n using Nat.strongRecOn with
  | _ n ih =>
    by_cases hn : n < 10
    · rw [Lib.decDigits_one hn, List.all_cons, digit_isD n hn]; rfl
    · rw [dec_snoc n hn, List.all_append, ih (n / 10) (by omega), List.all_cons, digit_isD (n % 10) (by omega)]; rfl
theorem numD_one (acc : Nat) (c : UInt8) : numD acc [c] = acc * 10 + (c.toNat - 48) := rfl
theorem dec_num (n : Nat) : numD 0 (Lib.decDigits n) = n := by
  induction n using Nat.strongRecOn with
  | _ n ih =>
    by_cases hn : n < 10
    · rw [Lib.decDigits_one hn, numD_one, digit_of n hn]; omega
    · rw [dec_snoc n hn, numD_app, ih (n / 10) (by omega), numD_one, digit_of (n % 10) (by omega)]; omega
theorem dec_nil (n : Nat) : Lib.decDigits n ≠ [] := by
  by_cases hn : n < 10
  · rw [Lib.decDigits_one hn]; simp
  · rw [dec_snoc n hn]; simp
theorem dec_head (n : Nat) (h : n ≠ 0) : (Lib.decDigits n).head? ≠ some 48 := by
  induction n using Nat.strongRecOn with
  | _ n ih =>
    by_cases hn : n < 10
    · rw [Lib.decDigits_one hn]
      intro e
      have e2 : UInt8.ofNat (48 + n) = 48 := by simpa using e
      have := congrArg UInt8.toNat e2
      rw [digit_of n hn] at this
      simp at this; omega
    · rw [dec_snoc n hn]
      have h1 := ih (n / 10) (by omega) (by omega)
      have h2 := dec_nil (n / 10)
      cases hd : Lib.decDigits (n / 10) with
      | nil => exact absurd hd h2
      | cons c r => rw [hd] at h1; simpa using h1
theorem dec_form (n : Nat) : ¬ (Lib.decDigits n = [] ∨ (1 < (Lib.decDigits n).length ∧ (Lib.decDigits n).head? = some 48) ∨ (Lib.decDigits n).all isD = false) := by
  intro q
  rcases q with q | ⟨q1, q2⟩ | q
  · exact dec_nil n q
  · by_cases h : n = 0
    · subst h; rw [Lib.decDigits_one (by omega)] at q1; simp at q1
    · exact dec_head n h q2
  · rw [dec_isD] at q; cases q
/-- a number that is in the range of numerals is read out of its text; no other one is -/
theorem read_text (n : Int) : readP (Lib.itoa n) = if 0 ≤ n then (if n ≤ 4611686018427387903 then (n, 0) else (0, 6)) else (0, 5) := by
  by_cases h : 0 ≤ n
  · obtain ⟨m, rfl⟩ := Int.eq_ofNat_of_zero_le h
    rw [if_pos h, Lib.itoa_nonneg, readP_num _ (dec_form m), dec_num]
    by_cases h1 : m ≤ 4611686018427387903
    · rw [if_pos h1, if_pos (by omega)]
    · rw [if_neg h1, if_neg (by omega)]
  · obtain ⟨m, hm⟩ : ∃ m : Nat, n = -((m + 1 : Nat) : Int) := ⟨(-n - 1).toNat, by omega⟩
    rw [if_neg h, hm, Lib.itoa_neg _ (by omega)]
    exact if_pos (Or.inr (Or.inr rfl))
theorem num_pos (l : List UInt8) (h : l.all isD = true) (hl : l ≠ []) (h0 : l.head? ≠ some 48) : 1 ≤ numD 0 l := by
  cases l with
  | nil => exact absurd rfl hl
  | cons c r =>
    rw [List.all_cons, Bool.and_eq_true] at h
    have hc := (isD_iff c).1 h.1
    have : c ≠ 48 := fun e => h0 (by rw [e]; rfl)
    have h1 : c.toNat ≠ 48 := fun e => this (UInt8.toNat_inj.mp e)
    have := numD_le (0 * 10 + (c.toNat - 48)) r
    show 1 ≤ numD (0 * 10 + (c.toNat - 48)) r
    omega
/-- digits without a leading zero are the numeral of what they spell -/
theorem dec_read (k : Nat) : ∀ l : List UInt8, l.length = k → l.all isD = true → l ≠ [] → ¬ (1 < l.length ∧ l.head? = some 48) → Lib.decDigits (numD 0 l) = l := by
  induction k with
  | zero => intro l hk _ hl; exact absurd (List.length_eq_zero_iff.1 hk) hl
  | succ k ih =>
    intro l hk hd hl h0
    obtain ⟨r, c, rfl⟩ : ∃ r c, l = r ++ [c] := ⟨l.dropLast, l.getLast hl, (List.dropLast_concat_getLast hl).symm⟩
    rw [List.all_append, Bool.and_eq_true] at hd
    have hc := (isD_iff c).1 (by simpa using hd.2)
    have hcc : UInt8.ofNat (48 + (c.toNat - 48)) = c := by rw [show 48 + (c.toNat - 48) = c.toNat by omega]; simp
    rw [numD_app, numD_one]
    by_cases hr : r = []
    · subst hr
      rw [List.nil_append, show numD 0 [] = 0 from rfl, Lib.decDigits_one (by omega), show 0 * 10 + (c.toNat - 48) = c.toNat - 48 by omega, hcc]
    · have hh : r.head? ≠ some 48 := fun e => h0 ⟨by
        have : r.length ≠ 0 := fun q => hr (List.length_eq_zero_iff.1 q)
        simp; omega, by cases r with
        | nil => exact absurd rfl hr
        | cons a t => simpa using e⟩
      have hp := num_pos r hd.1 hr hh
      rw [dec_snoc _ (by omega), show (numD 0 r * 10 + (c.toNat - 48)) / 10 = numD 0 r by omega, show (numD 0 r * 10 + (c.toNat - 48)) % 10 = c.toNat - 48 by omega, hcc,
        ih r (by simpa using hk) hd.1 hr (fun q => hh q.2)]
/-- what is read has just that text -/
theorem text_read (l : List UInt8) (h : (readP l).2 = 0) : Lib.itoa (readP l).1 = l ∧ I64 (readP l).1 := by
  by_cases q : l = [] ∨ (1 < l.length ∧ l.head? = some 48) ∨ l.all isD = false
  · rw [show readP l = (0, 5) from if_pos q] at h; cases h
  · have e := readP_num l q
    by_cases h1 : numD 0 l ≤ 4611686018427387903
    · rw [if_pos h1] at e
      rw [e]
      refine ⟨?_, by unfold I64; omega⟩
      rw [Lib.itoa_nonneg]
      refine dec_read _ l rfl ?_ (fun r => q (Or.inl r)) (fun r => q (Or.inr (Or.inl r)))
      cases hd : l.all isD with
      | true => rfl
      | false => exact absurd (Or.inr (Or.inr hd)) q
    · rw [if_neg h1] at e; rw [e] at h; cases h
theorem readP_i64 (l : List UInt8) : I64 (readP l).1 := by
  by_cases q : l = [] ∨ (1 < l.length ∧ l.head? = some 48) ∨ l.all isD = false
  · rw [show readP l = (0, 5) from if_pos q]; exact ⟨by decide, by decide⟩
  · rw [readP_num l q]; split
    · unfold I64; simp; omega
    · exact ⟨by decide, by decide⟩
end Go.Proofs.YtggbnjdbbomjoaaDoor
