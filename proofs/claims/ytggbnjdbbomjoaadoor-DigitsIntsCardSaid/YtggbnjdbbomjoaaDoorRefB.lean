/- Walks of the reference of layer 1: differences, comparisons. -/
import Derived.Test.YtggbnjdbbomjoaaDoorRefA
namespace Go.Proofs.YtggbnjdbbomjoaaDoor
open Go.RowKit

def difB (a b : Nat → Int) : Nat → Int
  | 0 => 0
  | i + 1 => 1 - (65536 + a i - b i - difB a b i) / 65536
def difD (a b : Nat → Int) (i : Nat) : Int := (65536 + a i - b i - difB a b i) % 65536
theorem difB_bd {a b : Nat → Int} (ha : Dig a) (hb : Dig b) : ∀ i, i ≤ 10 → 0 ≤ difB a b i ∧ difB a b i ≤ 1
  | 0, _ => by simp [difB]
  | i + 1, h => by
    have := difB_bd ha hb i (by omega); have h1 := ha i (by omega); have h2 := hb i (by omega)
    simp only [difB]; omega

set_option maxRecDepth 100000 in
set_option maxHeartbeats 1000000 in
theorem difference_any (a b : Nat → Int) (ha : Dig a) (hb : Dig b) (w : World) :
    Calls Tryd.prog 35 #[arr a, arr b] w fun e w' => e = .returned (arr (difD a b)) ∧ Below w.heap.size w w' := by
  go_enter Tryd.func35, Tryd.ntmps35
  go_wp2
  go_loopw [6, 7] (fun c i wr => ∃ k : Nat, k ≤ 10 ∧ i = .int .i64 k ∧ c = .int .i64 (difB a b k) ∧ Row wr w.heap.size a ∧ Row wr (w.heap.size + 1) b ∧ RowW wr (w.heap.size + 1 + 1) (fun _ => 0) ∧ RowW wr (w.heap.size + 1 + 1 + 1) (fun j => if j < k then difD a b j else 0) ∧ Below w.heap.size w wr)
    (fun _ i _ => 10 - (intOf i).toNat)
  case atStart =>
    refine ⟨0, by omega, rfl, rfl, ?_, ?_, ?_, ?_, by (repeat (first | (with_reducible exact Below.refl _ _) | ((with_reducible refine Below.alloc ?_ ?_ _); rotate_left; focus (first | (simp; done) | (simp; omega))) | ((with_reducible refine Below.setCell ?_ ?_ _); rotate_left; focus (first | (simp; done) | (simp; omega))) | (with_reducible refine Below.drew ?_) | (with_reducible refine Below.drewN' ?_ _)))⟩
    · refine Row.below (row_of_alloc w a 28) (B := w.heap.size + 1) ?_ (by omega); (repeat (first | (with_reducible exact Below.refl _ _) | ((with_reducible refine Below.alloc ?_ ?_ _); rotate_left; focus (first | (simp; done) | (simp; omega))) | ((with_reducible refine Below.setCell ?_ ?_ _); rotate_left; focus (first | (simp; done) | (simp; omega))) | (with_reducible refine Below.drew ?_) | (with_reducible refine Below.drewN' ?_ _)))
    · refine Row.below (B := w.heap.size + 1 + 1) (w := (w.alloc (.cells (arrC a) 28)).alloc (.cells (arrC b) 28)) ?_ ?_ (by omega)
      · have := row_of_alloc (w.alloc (.cells (arrC a) 28)) b 28; simpa using this
      · (repeat (first | (with_reducible exact Below.refl _ _) | ((with_reducible refine Below.alloc ?_ ?_ _); rotate_left; focus (first | (simp; done) | (simp; omega))) | ((with_reducible refine Below.setCell ?_ ?_ _); rotate_left; focus (first | (simp; done) | (simp; omega))) | (with_reducible refine Below.drew ?_) | (with_reducible refine Below.drewN' ?_ _)))
    · refine all10 ?_
      simp [go_sem]
    · refine all10 ?_
      simp [go_sem]
  case round =>
    obtain ⟨k, hk, rfl, rfl, ra, rb, rz, rc, hbr⟩ := hrel
    by_cases hk10 : k < 10
    · have ca := ra k hk10
      have cb := rb k hk10
      have cc := rc k hk10
      obtain ⟨s0, s1⟩ := difB_bd ha hb k hk
      obtain ⟨a0, a1⟩ := ha k hk10
      obtain ⟨b0, b1⟩ := hb k hk10
      have RA := Lib.hid ra; have RB := Lib.hid rb; have RC := Lib.hid rc; have RZ := Lib.hid rz; clear ra rb rc rz
      obtain ⟨cc1, cc2⟩ := cc
      go_wp2
      go_quiet (fail)
      go_wp2
      refine ⟨⟨k + 1, by omega, by go_num, by rfl, RA.out.below (B := w.heap.size + 1 + 1) (by (repeat (first | (with_reducible exact Below.refl _ _) | ((with_reducible refine Below.alloc ?_ ?_ _); rotate_left; focus (first | (simp; done) | (simp; omega))) | ((with_reducible refine Below.setCell ?_ ?_ _); rotate_left; focus (first | (simp; done) | (simp; omega))) | (with_reducible refine Below.drew ?_) | (with_reducible refine Below.drewN' ?_ _)))) (by omega), RB.out.below (B := w.heap.size + 1 + 1) (by (repeat (first | (with_reducible exact Below.refl _ _) | ((with_reducible refine Below.alloc ?_ ?_ _); rotate_left; focus (first | (simp; done) | (simp; omega))) | ((with_reducible refine Below.setCell ?_ ?_ _); rotate_left; focus (first | (simp; done) | (simp; omega))) | (with_reducible refine Below.drew ?_) | (with_reducible refine Below.drewN' ?_ _)))) (by omega), RZ.out.below (B := w.heap.size + 1 + 1 + 1) (by (repeat (first | (with_reducible exact Below.refl _ _) | ((with_reducible refine Below.alloc ?_ ?_ _); rotate_left; focus (first | (simp; done) | (simp; omega))) | ((with_reducible refine Below.setCell ?_ ?_ _); rotate_left; focus (first | (simp; done) | (simp; omega))) | (with_reducible refine Below.drew ?_) | (with_reducible refine Below.drewN' ?_ _)))) (by omega), (RC.out.drewN nq).set k _ hk10 ?_, (hbr.trans (by (repeat (first | (with_reducible exact Below.refl _ _) | ((with_reducible refine Below.alloc ?_ ?_ _); rotate_left; focus (first | (simp; done) | (simp; omega))) | ((with_reducible refine Below.setCell ?_ ?_ _); rotate_left; focus (first | (simp; done) | (simp; omega))) | (with_reducible refine Below.drew ?_) | (with_reducible refine Below.drewN' ?_ _)))) : Below w.heap.size w _)⟩, by simp [intOf]; omega⟩
      intro i hi
      by_cases e : i = k
      · subst e; simp [difD]
      · rw [if_neg e]
        by_cases e2 : i < k
        · rw [if_pos e2, if_pos (by omega)]
        · rw [if_neg e2, if_neg (by omega)]
    · have hk : k = 10 := by omega
      subst hk
      obtain ⟨⟨c0, cf0⟩, ⟨c1, cf1⟩, ⟨c2, cf2⟩, ⟨c3, cf3⟩, ⟨c4, cf4⟩, ⟨c5, cf5⟩, ⟨c6, cf6⟩, ⟨c7, cf7⟩, ⟨c8, cf8⟩, ⟨c9, cf9⟩⟩ := inst10 rc; simp at c0 c1 c2 c3 c4 c5 c6 c7 c8 c9; clear cf0 cf1 cf2 cf3 cf4 cf5 cf6 cf7 cf8 cf9
      have RZ := Lib.hid rz
      obtain ⟨⟨z0, zf0⟩, ⟨z1, zf1⟩, ⟨z2, zf2⟩, ⟨z3, zf3⟩, ⟨z4, zf4⟩, ⟨z5, zf5⟩, ⟨z6, zf6⟩, ⟨z7, zf7⟩, ⟨z8, zf8⟩, ⟨z9, zf9⟩⟩ := inst10 rz; simp at z0 z1 z2 z3 z4 z5 z6 z7 z8 z9
      clear ra rb rc rz
      go_wp2
      have hrow := (RZ.out.put10 (difD a b)).row
      refine bodyPost_ret (v := arr (difD a b)) ?_ rfl ⟨rfl, ?_⟩
      · exact results_row Tryd.results35 _ (by rfl) hrow
      · exact hbr.trans (by (repeat (first | (with_reducible exact Below.refl _ _) | ((with_reducible refine Below.alloc ?_ ?_ _); rotate_left; focus (first | (simp; done) | (simp; omega))) | ((with_reducible refine Below.setCell ?_ ?_ _); rotate_left; focus (first | (simp; done) | (simp; omega))) | (with_reducible refine Below.drew ?_) | (with_reducible refine Below.drewN' ?_ _))))

/-- is one row of digits less than another one, of the n lowest? -/
def ltD (a b : Nat → Int) : Nat → Bool
  | 0 => false
  | n + 1 => if a n = b n then ltD a b n else decide (a n < b n)
set_option maxRecDepth 100000 in
set_option maxHeartbeats 1000000 in
theorem below_any (a b : Nat → Int) (w : World) :
    Calls Tryd.prog 34 #[arr a, arr b] w fun e w' => e = .returned (.bool (ltD a b 10)) ∧ Below w.heap.size w w' := by
  go_enter Tryd.func34, Tryd.ntmps34
  go_wp2
  go_loopw [5] (fun i wr => ∃ k : Nat, k ≤ 10 ∧ ((k = 0 ∧ i = .int .i64 (-1)) ∨ ∃ m : Nat, k = m + 1 ∧ i = .int .i64 m) ∧ ltD a b 10 = ltD a b k ∧ Row wr w.heap.size a ∧ Row wr (w.heap.size + 1) b ∧ Below w.heap.size w wr)
    (fun i _ => (intOf i + 1).toNat)
  case atStart =>
    refine ⟨10, by omega, Or.inr ⟨9, rfl, rfl⟩, rfl, ?_, ?_, by (repeat (first | (with_reducible exact Below.refl _ _) | ((with_reducible refine Below.alloc ?_ ?_ _); rotate_left; focus (first | (simp; done) | (simp; omega))) | ((with_reducible refine Below.setCell ?_ ?_ _); rotate_left; focus (first | (simp; done) | (simp; omega))) | (with_reducible refine Below.drew ?_) | (with_reducible refine Below.drewN' ?_ _)))⟩
    · refine Row.below (row_of_alloc w a 28) (B := w.heap.size + 1) ?_ (by omega); (repeat (first | (with_reducible exact Below.refl _ _) | ((with_reducible refine Below.alloc ?_ ?_ _); rotate_left; focus (first | (simp; done) | (simp; omega))) | ((with_reducible refine Below.setCell ?_ ?_ _); rotate_left; focus (first | (simp; done) | (simp; omega))) | (with_reducible refine Below.drew ?_) | (with_reducible refine Below.drewN' ?_ _)))
    · have := row_of_alloc (w.alloc (.cells (arrC a) 28)) b 28; simpa using this
  case round =>
    obtain ⟨k, hk, hi, hlt, ra, rb, hbr⟩ := hrel
    have HL := Lib.hid hlt; clear hlt
    rcases hi with ⟨rfl, rfl⟩ | ⟨m, rfl, rfl⟩
    · clear ra rb
      go_wp2
      go_ret
      exact ⟨by rw [HL.out]; rfl, hbr⟩
    · have ca := ra m (by omega)
      have cb := rb m (by omega)
      have RA := Lib.hid ra; have RB := Lib.hid rb; clear ra rb
      by_cases e : a m = b m
      · have e' : (a m != b m) = false := by simpa using e
        have E := Lib.hid e; clear e
        go_wp2
        go_quiet (fail)
        go_wp2
        refine ⟨⟨m, by omega, ?_, ?_, RA.out.below (B := w.heap.size + 1 + 1) (by (repeat (first | (with_reducible exact Below.refl _ _) | ((with_reducible refine Below.alloc ?_ ?_ _); rotate_left; focus (first | (simp; done) | (simp; omega))) | ((with_reducible refine Below.setCell ?_ ?_ _); rotate_left; focus (first | (simp; done) | (simp; omega))) | (with_reducible refine Below.drew ?_) | (with_reducible refine Below.drewN' ?_ _)))) (by omega), RB.out.below (B := w.heap.size + 1 + 1) (by (repeat (first | (with_reducible exact Below.refl _ _) | ((with_reducible refine Below.alloc ?_ ?_ _); rotate_left; focus (first | (simp; done) | (simp; omega))) | ((with_reducible refine Below.setCell ?_ ?_ _); rotate_left; focus (first | (simp; done) | (simp; omega))) | (with_reducible refine Below.drew ?_) | (with_reducible refine Below.drewN' ?_ _)))) (by omega), by (repeat (first | (with_reducible exact Below.refl _ _) | ((with_reducible refine Below.alloc ?_ ?_ _); rotate_left; focus (first | (simp; done) | (simp; omega) | (have q0 := hbr.size; (try simp at q0); (try simp); omega))) | ((with_reducible refine Below.setCell ?_ ?_ _); rotate_left; focus (first | (simp; done) | (simp; omega) | (have q0 := hbr.size; (try simp at q0); (try simp); omega))) | (with_reducible refine Below.drew ?_) | (with_reducible refine Below.drewN' ?_ _) | (with_reducible refine Below.trans ?_ (hbr.mono ?_); rotate_left; focus (first | (simp; done) | (simp; omega) | (have q0 := hbr.size; (try simp at q0); (try simp); omega)))))⟩, by simp [intOf]⟩
        · rcases m with _ | m
          · exact Or.inl ⟨rfl, rfl⟩
          · exact Or.inr ⟨m, rfl, by go_num⟩
        · rw [HL.out]; simp only [ltD, if_pos E.out]
      · have e' : (a m != b m) = true := by simpa using e
        have E := Lib.hid e; clear e
        go_wp2
        go_quiet (fail)
        go_wp2
        go_quiet (fail)
        go_wp2
        go_ret
        refine ⟨?_, by (repeat (first | (with_reducible exact Below.refl _ _) | ((with_reducible refine Below.alloc ?_ ?_ _); rotate_left; focus (first | (simp; done) | (simp; omega) | (have q0 := hbr.size; (try simp at q0); (try simp); omega))) | ((with_reducible refine Below.setCell ?_ ?_ _); rotate_left; focus (first | (simp; done) | (simp; omega) | (have q0 := hbr.size; (try simp at q0); (try simp); omega))) | (with_reducible refine Below.drew ?_) | (with_reducible refine Below.drewN' ?_ _) | (with_reducible refine Below.trans ?_ (hbr.mono ?_); rotate_left; focus (first | (simp; done) | (simp; omega) | (have q0 := hbr.size; (try simp at q0); (try simp); omega)))))⟩
        rw [HL.out]
        simp only [ltD, if_neg E.out]
        rfl
end Go.Proofs.YtggbnjdbbomjoaaDoor
