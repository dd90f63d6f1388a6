/- What rows of digits are worth: plain arithmetic. -/
import Derived.Test.YtggbnjdbbomjoaaDoorRefE
import Derived.Test.YtggbnjdbbomjoaaDoorRefF
import Derived.Test.YtggbnjdbbomjoaaDoorDigD
namespace Go.Proofs.YtggbnjdbbomjoaaDoor
open Go.RowKit

def vD (d : Nat → Int) : Nat → Int
  | 0 => 0
  | n + 1 => vD d n + d n * 65536 ^ n
theorem pw_pos (n : Nat) : (0 : Int) < 65536 ^ n := Int.pow_pos (by decide)
theorem pw_succ (n : Nat) : (65536 : Int) ^ (n + 1) = 65536 ^ n * 65536 := Int.pow_succ _ _
theorem vD_bd {d : Nat → Int} (h : Dig d) : ∀ n, n ≤ 10 → 0 ≤ vD d n ∧ vD d n < 65536 ^ n
  | 0, _ => by simp [vD]
  | n + 1, hn => by
    obtain ⟨a, b⟩ := vD_bd h n (by omega)
    obtain ⟨c, e⟩ := h n (by omega)
    have hp := pw_pos n
    simp only [vD, pw_succ]
    generalize (65536 : Int) ^ n = p at *
    have h1 : 0 ≤ d n * p := Int.mul_nonneg c (by omega)
    have h2 : d n * p ≤ 65535 * p := Int.mul_le_mul_of_nonneg_right (by omega) (by omega)
    constructor <;> omega
theorem sum_val (a b : Nat → Int) : ∀ n, vD (sumD a b) n + sumC a b n * 65536 ^ n = vD a n + vD b n
  | 0 => by simp [vD, sumC]
  | n + 1 => by
    have ih := sum_val a b n
    simp only [vD, pw_succ, sumC, sumD]
    generalize (65536 : Int) ^ n = p at *
    have e : sumC a b n + a n + b n = (sumC a b n + a n + b n) % 65536 + (sumC a b n + a n + b n) / 65536 * 65536 := by omega
    generalize (sumC a b n + a n + b n) % 65536 = r at *
    generalize (sumC a b n + a n + b n) / 65536 = q at *
    have e2 : q * (p * 65536) + r * p = (sumC a b n + a n + b n) * p := by rw [e]; rw [Int.add_mul, Int.mul_assoc, Int.mul_comm 65536 p]; omega
    rw [Int.add_mul, Int.add_mul] at e2
    omega
theorem dif_val (a b : Nat → Int) : ∀ n, vD (difD a b) n - difB a b n * 65536 ^ n = vD a n - vD b n
  | 0 => by simp [vD, difB]
  | n + 1 => by
    have ih := dif_val a b n
    simp only [vD, pw_succ, difB, difD]
    generalize (65536 : Int) ^ n = p at *
    have e : 65536 + a n - b n - difB a b n = (65536 + a n - b n - difB a b n) % 65536 + (65536 + a n - b n - difB a b n) / 65536 * 65536 := by omega
    generalize (65536 + a n - b n - difB a b n) % 65536 = r at *
    generalize (65536 + a n - b n - difB a b n) / 65536 = q at *
    have e2 : q * (p * 65536) + r * p = (65536 + a n - b n - difB a b n) * p := by rw [e, Int.add_mul, Int.mul_assoc, Int.mul_comm 65536 p]; omega
    rw [Int.sub_mul, Int.sub_mul, Int.add_mul] at e2
    have e3 : (1 - q) * (p * 65536) = p * 65536 - q * (p * 65536) := by rw [Int.sub_mul, Int.one_mul]
    rw [e3]
    omega
theorem sumD_dig (a b : Nat → Int) : Dig (sumD a b) := fun i _ => by unfold sumD; omega
theorem difD_dig (a b : Nat → Int) : Dig (difD a b) := fun i _ => by unfold difD; omega
theorem lt_val {a b : Nat → Int} (ha : Dig a) (hb : Dig b) : ∀ n, n ≤ 10 → (ltD a b n = true ↔ vD a n < vD b n)
  | 0, _ => by simp [ltD, vD]
  | n + 1, hn => by
    have ih := lt_val ha hb n (by omega)
    obtain ⟨a1, a2⟩ := vD_bd ha n (by omega)
    obtain ⟨b1, b2⟩ := vD_bd hb n (by omega)
    have hp := pw_pos n
    simp only [ltD, vD]
    by_cases e : a n = b n
    · rw [if_pos e, ih, e]; omega
    · rw [if_neg e, decide_eq_true_iff]
      generalize (65536 : Int) ^ n = p at *
      rcases Int.lt_or_gt_of_ne e with h | h
      · have : a n * p + p ≤ b n * p := by have := Int.mul_le_mul_of_nonneg_right (show a n + 1 ≤ b n by omega) (show 0 ≤ p by omega); rw [Int.add_mul, Int.one_mul] at this; exact this
        constructor
        · intro _; omega
        · intro _; exact h
      · have : b n * p + p ≤ a n * p := by have := Int.mul_le_mul_of_nonneg_right (show b n + 1 ≤ a n by omega) (show 0 ≤ p by omega); rw [Int.add_mul, Int.one_mul] at this; exact this
        constructor
        · intro _; omega
        · intro _; omega
theorem zero_val {d : Nat → Int} (h : Dig d) : ∀ n, n ≤ 10 → ((∀ i, i < n → d i = 0) ↔ vD d n = 0)
  | 0, _ => by simp [vD]
  | n + 1, hn => by
    have ih := zero_val h n (by omega)
    obtain ⟨a1, a2⟩ := vD_bd h n (by omega)
    obtain ⟨c, e⟩ := h n (by omega)
    have hp := pw_pos n
    simp only [vD]
    constructor
    · intro hz
      rw [ih.1 (fun i hi => hz i (by omega)), hz n (by omega)]; omega
    · intro hz
      have h1 : 0 ≤ d n * 65536 ^ n := Int.mul_nonneg c (by omega)
      have h2 : d n = 0 := by
        rcases Int.lt_or_le 0 (d n) with h' | h'
        · have := Int.mul_pos h' hp; omega
        · omega
      have h3 := ih.2 (by omega)
      intro i hi
      rcases Nat.lt_or_ge i n with h' | h'
      · exact h3 i h'
      · have : i = n := by omega
        subst this; exact h2
theorem zeroB_val {d : Nat → Int} (h : Dig d) : zeroB d = true ↔ vD d 10 = 0 := by
  rw [← zero_val h 10 (by omega)]
  unfold zeroB eq10
  simp

/-- the worth of a number -/
def vL (x : Lg) : Int := if x.m = true then -(vD x.d 10) else vD x.d 10
/-- no zero has a sign -/
def Can (x : Lg) : Prop := x.m = true → vD x.d 10 ≠ 0
def W160 : Int := 65536 ^ 10
theorem negL_val {x : Lg} (h : Dig x.d) : vL (negL x) = -(vL x) ∧ Can (negL x) := by
  obtain ⟨m, d⟩ := x
  have hz := zeroB_val h
  unfold negL vL Can
  cases hb : zeroB d <;> cases m <;> simp [hb] at hz ⊢ <;> omega
theorem addL_val {x y : Lg} (hx : Dig x.d) (hy : Dig y.d) (cx : Can x) (cy : Can y) (h1 : -W160 < vL x + vL y) (h2 : vL x + vL y < W160) : vL (addL x y) = vL x + vL y ∧ Can (addL x y) ∧ Dig (addL x y).d := by
  obtain ⟨m, d⟩ := x
  obtain ⟨m', d'⟩ := y
  have hx' : Dig d := hx
  have hy' : Dig d' := hy
  clear hx hy
  have b1 := vD_bd hx' 10 (by omega)
  have b2 := vD_bd hy' 10 (by omega)
  unfold addL
  by_cases hm : m = m'
  · subst hm
    rw [if_pos rfl]
    have hs := sum_val d d' 10
    have hc := sumC_bd hx' hy' 10 (by omega)
    have b3 := vD_bd (sumD_dig d d') 10 (by omega)
    have hc0 : sumC d d' 10 = 0 := by
      unfold vL W160 at h1 h2
      rcases (by omega : sumC d d' 10 = 0 ∨ sumC d d' 10 = 1) with h | h
      · exact h
      · rw [h] at hs
        cases m <;> simp at h1 h2 b1 b2 <;> omega
    rw [hc0] at hs
    refine ⟨?_, ?_, sumD_dig _ _⟩
    · unfold vL; cases m <;> simp <;> omega
    · intro hmt
      have q1 := cx hmt
      have q2 := cy hmt
      simp only at q1 q2 b1 b2 ⊢
      omega
  · rw [if_neg hm]
    have hl := lt_val hx' hy' 10 (by omega)
    by_cases hlt : ltD d d' 10 = true
    · rw [if_pos hlt]
      have hs := dif_val d' d 10
      have hb := difB_bd hy' hx' 10 (by omega)
      have b3 := vD_bd (difD_dig d' d) 10 (by omega)
      have hlt' := hl.1 hlt
      have hz := zeroB_val (difD_dig d' d)
      have hb0 : difB d' d 10 = 0 := by
        rcases (by omega : difB d' d 10 = 0 ∨ difB d' d 10 = 1) with h | h
        · exact h
        · rw [h] at hs; omega
      rw [hb0] at hs
      have hnz : zeroB (difD d' d) = false := by
        cases hq : zeroB (difD d' d) with
        | false => rfl
        | true => have := hz.1 hq; omega
      refine ⟨?_, ?_, difD_dig _ _⟩
      · unfold vL; rw [hnz]; cases m <;> cases m' <;> simp at hm ⊢ <;> omega
      · intro _; simp only at hlt' ⊢; omega
    · rw [if_neg hlt]
      have hs := dif_val d d' 10
      have hb := difB_bd hx' hy' 10 (by omega)
      have b3 := vD_bd (difD_dig d d') 10 (by omega)
      have hge : ¬ vD d 10 < vD d' 10 := fun h => hlt (hl.2 h)
      have hz := zeroB_val (difD_dig d d')
      have hb0 : difB d d' 10 = 0 := by
        rcases (by omega : difB d d' 10 = 0 ∨ difB d d' 10 = 1) with h | h
        · exact h
        · rw [h] at hs; omega
      rw [hb0] at hs
      refine ⟨?_, ?_, difD_dig _ _⟩
      · unfold vL
        cases hq : zeroB (difD d d') with
        | false => cases m <;> cases m' <;> simp at hm ⊢ <;> omega
        | true => have := hz.1 hq; cases m <;> cases m' <;> simp at hm ⊢ <;> omega
      · intro hmt
        simp only [Bool.and_eq_true, Bool.not_eq_true'] at hmt
        intro h0
        have := hz.2 h0
        rw [this] at hmt
        exact absurd hmt.2 (by decide)

/-! ### small numbers, and integers of two words -/
def vN (N : Nat) : Nat → Int
  | 0 => 0
  | n + 1 => vN N n + dgN N n * 65536 ^ n
theorem vN_eq (N : Nat) : ∀ n, vN N n = ((N % 65536 ^ n : Nat) : Int)
  | 0 => by simp [vN, Nat.mod_one]
  | n + 1 => by
    have ih := vN_eq N n
    simp only [vN, ih]
    unfold dgN
    have h := Nat.mod_mul (x := N) (a := 65536 ^ n) (b := 65536)
    rw [Nat.pow_succ, h, Int.natCast_add, Int.natCast_mul, Int.natCast_pow, Int.mul_comm]
    rfl
theorem vD_ofD (N u : Nat) : ∀ n, vD (ofD N u) (u + n) = 65536 ^ u * vN N n
  | 0 => by
    have key : ∀ m, m ≤ u → vD (ofD N u) m = 0 := by
      intro m
      induction m with
      | zero => intro _; rfl
      | succ m ih =>
        intro hm
        simp only [vD, ih (by omega)]
        unfold ofD; rw [if_pos (by omega)]; simp
    rw [Nat.add_zero, key u (Nat.le_refl _)]; simp [vN]
  | n + 1 => by
    have ih := vD_ofD N u n
    rw [← Nat.add_assoc]
    show vD (ofD N u) (u + n) + ofD N u (u + n) * 65536 ^ (u + n) = 65536 ^ u * (vN N n + dgN N n * 65536 ^ n)
    rw [ih]
    unfold ofD; rw [if_neg (by omega), show u + n - u = n by omega, Int.pow_add, Int.mul_add]
    rw [Int.mul_left_comm]
theorem ofL_val (n : Int) (u : Nat) (hn : I64 n) (hu : u ≤ 3) : vL (ofL n u) = n * 65536 ^ u ∧ Can (ofL n u) := by
  obtain ⟨h1, h2⟩ := hn
  have e1 := vD_ofD n.natAbs u (10 - u)
  rw [show u + (10 - u) = 10 by omega, vN_eq] at e1
  have e2 : n.natAbs % 65536 ^ (10 - u) = n.natAbs := by
    refine Nat.mod_eq_of_lt ?_
    have : 65536 ^ 7 ≤ 65536 ^ (10 - u) := Nat.pow_le_pow_right (by omega) (by omega)
    have : n.natAbs < 65536 ^ 7 := by omega
    omega
  rw [e2] at e1
  have e3 : vD (ofL n u).d 10 = 65536 ^ u * (n.natAbs : Int) := e1
  have hp := pw_pos u
  unfold vL Can
  constructor
  · rw [e3]
    show (if decide (n < 0) = true then _ else _) = _
    by_cases h : n < 0
    · rw [if_pos (by simpa using h), show (n.natAbs : Int) = -n by omega, Int.mul_neg, Int.neg_neg, Int.mul_comm]
    · rw [if_neg (by simpa using h), show (n.natAbs : Int) = n by omega, Int.mul_comm]
  · intro hm
    have h : n < 0 := by simpa [ofL] using hm
    rw [e3]
    have : 0 < 65536 ^ u * (n.natAbs : Int) := Int.mul_pos hp (by omega)
    omega

def dblL : Nat → Lg → Lg
  | 0, x => x
  | k + 1, x => addL (dblL k x) (dblL k x)
/-- a number that fits, its sign as it must be -/
structure OkL (x : Lg) : Prop where
  dig : Dig x.d
  can : Can x
theorem dblL_val {x : Lg} (h : OkL x) (B : Int) (hB : 0 ≤ B) (h1 : -B ≤ vL x) (h2 : vL x ≤ B) : ∀ k, B * 2 ^ k < W160 → vL (dblL k x) = vL x * 2 ^ k ∧ OkL (dblL k x)
  | 0, _ => ⟨by simp [dblL], h⟩
  | k + 1, hk => by
    have hp : (0 : Int) < 2 ^ k := Int.pow_pos (by decide)
    rw [Int.pow_succ, ← Int.mul_assoc] at hk
    have hBk : 0 ≤ B * 2 ^ k := Int.mul_nonneg hB (by omega)
    obtain ⟨e, ok⟩ := dblL_val h B hB h1 h2 k (by omega)
    have l1 : -(B * 2 ^ k) ≤ vL x * 2 ^ k := by rw [← Int.neg_mul]; exact Int.mul_le_mul_of_nonneg_right h1 (by omega)
    have l2 : vL x * 2 ^ k ≤ B * 2 ^ k := Int.mul_le_mul_of_nonneg_right h2 (by omega)
    obtain ⟨a, b, c⟩ := addL_val ok.dig ok.dig ok.can ok.can (by rw [e]; omega) (by rw [e]; omega)
    refine ⟨?_, ⟨c, b⟩⟩
    simp only [dblL]
    rw [a, e, Int.pow_succ, ← Int.mul_assoc]; omega
def numL (hi lo : Int) : Lg := addL (dblL 14 (ofL hi 3)) (ofL lo 0)
theorem numL_val (hi lo : Int) (h1 : I64 hi) (h2 : I64 lo) : vL (numL hi lo) = val hi lo ∧ OkL (numL hi lo) := by
  obtain ⟨e1, c1⟩ := ofL_val hi 3 h1 (by omega)
  obtain ⟨e2, c2⟩ := ofL_val lo 0 h2 (by omega)
  obtain ⟨a1, a2⟩ := h1
  obtain ⟨b1, b2⟩ := h2
  obtain ⟨e3, ok⟩ := dblL_val ⟨ofL_dig hi 3, c1⟩ (9223372036854775808 * 65536 ^ 3) (by decide) (by rw [e1]; omega) (by rw [e1]; omega) 14 (by decide)
  rw [e1] at e3
  have e4 : vL (dblL 14 (ofL hi 3)) + vL (ofL lo 0) = val hi lo := by rw [e3, e2]; unfold val M62; omega
  have hb : -W160 < val hi lo ∧ val hi lo < W160 := by unfold val M62 W160; omega
  obtain ⟨a, b, c⟩ := addL_val ok.dig (ofL_dig lo 0) ok.can c2 (by rw [e4]; exact hb.1) (by rw [e4]; exact hb.2)
  exact ⟨a.trans e4, ⟨c, b⟩⟩
end Go.Proofs.YtggbnjdbbomjoaaDoor
