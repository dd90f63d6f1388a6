/- The reference's functions by the numbers that they are of. -/
import Derived.Test.YtggbnjdbbomjoaaDoorRefG
namespace Go.Proofs.YtggbnjdbbomjoaaDoor
open Go.RowKit
/-- a number v, rightly written -/
structure Lw (v : Int) (x : Lg) : Prop where
  dig : Dig x.d
  can : Can x
  val : vL x = v
theorem W160_eq : W160 = 1461501637330902918203684832716283019655932542976 := by decide
/-- a number that leaves room -/
def Bd (v : Int) : Prop := -365375409332725729550921208179070754913983135744 ≤ v ∧ v ≤ 365375409332725729550921208179070754913983135744
theorem Lw.neg {v : Int} {x : Lg} (A : Lw v x) : Lw (-v) (negL x) := by
  have h := negL_val A.dig
  exact ⟨A.dig, h.2, by rw [h.1, A.val]⟩
theorem Lw.add {u v s : Int} {x y : Lg} (A : Lw u x) (B : Lw v y) (bu : Bd u) (bv : Bd v) (e : u + v = s) : Lw s (addL x y) := by
  obtain ⟨_, _⟩ := bu; obtain ⟨_, _⟩ := bv
  have h := addL_val A.dig B.dig A.can B.can (by rw [A.val, B.val, W160_eq]; omega) (by rw [A.val, B.val, W160_eq]; omega)
  exact ⟨h.2.2, h.2.1, by rw [h.1, A.val, B.val, e]⟩
theorem Bd.neg {v : Int} (b : Bd v) : Bd (-v) := by obtain ⟨_, _⟩ := b; unfold Bd; omega
theorem Lw.minus {v : Int} {x : Lg} (A : Lw v x) : x.m = decide (v < 0) := by
  have hb := vD_bd A.dig 10 (by omega)
  have hv := A.val
  have hc := A.can
  unfold vL at hv
  unfold Can at hc
  cases hm : x.m with
  | true => rw [hm] at hv; have := hc hm; simp at hv; symm; rw [decide_eq_true_iff]; omega
  | false => rw [hm] at hv; simp at hv; symm; rw [decide_eq_false_iff_not]; omega
theorem Lw.zero {v : Int} {x : Lg} (A : Lw v x) : zeroB x.d = decide (v = 0) := by
  have hz := zeroB_val A.dig
  have hv := A.val
  unfold vL at hv
  cases h : zeroB x.d with
  | true => have := hz.1 h; rw [this] at hv; symm; rw [decide_eq_true_iff]; split at hv <;> omega
  | false =>
    symm; rw [decide_eq_false_iff_not]
    intro e
    have : vD x.d 10 = 0 := by split at hv <;> omega
    rw [hz.2 this] at h; cases h
theorem less_val {u v : Int} {x y : Lg} (A : Lw u x) (B : Lw v y) (bu : Bd u) (bv : Bd v) : (addL x (negL y)).m = decide (u < v) := by
  rw [(A.add B.neg bu bv.neg rfl).minus]
  by_cases h : u < v
  · rw [decide_eq_true h, decide_eq_true_iff]; omega
  · rw [decide_eq_false h, decide_eq_false_iff_not]; omega
theorem same_val {u v : Int} {x y : Lg} (A : Lw u x) (B : Lw v y) (bu : Bd u) (bv : Bd v) : zeroB (addL x (negL y)).d = decide (u = v) := by
  rw [(A.add B.neg bu bv.neg rfl).zero]
  by_cases h : u = v
  · rw [decide_eq_true h, decide_eq_true_iff]; omega
  · rw [decide_eq_false h, decide_eq_false_iff_not]; omega
theorem lw_num (hi lo : Int) (h1 : I64 hi) (h2 : I64 lo) {v : Int} (e : val hi lo = v) : Lw v (numL hi lo) := by
  have h := numL_val hi lo h1 h2
  exact ⟨h.2.dig, h.2.can, by rw [h.1, e]⟩
theorem lw_of (n : Int) (h : I64 n) : Lw n (ofL n 0) := by
  have := ofL_val n 0 h (by omega)
  exact ⟨ofL_dig n 0, this.2, by rw [this.1]; simp⟩
end Go.Proofs.YtggbnjdbbomjoaaDoor
