/- Walks of the digits package. -/
import Derived.Test.YtggbnjdbbomjoaaDoorLib
import Derived.Laws.Externs
import Derived.Shelf.Spec.BitsCarry
namespace Go.Proofs.YtggbnjdbbomjoaaDoor
open Go.RowKit

theorem add64n (x y c : Nat) (hc : c ≤ 1) (w : World) :
    (callFunc 44 #[.int .u64 x, .int .u64 y, .int .u64 c]).run Tryd.prog w =
      .ok (.value (.tuple #[.int .u64 (((x + y + c) % 18446744073709551616 : Nat) : Int), .int .u64 (((x + y + c) / 18446744073709551616 : Nat) : Int)])) w := by
  rw [run_callFunc_extern Tryd.func44 (by kernel_rfl) (by kernel_rfl) (by kernel_rfl) (e := add64Entry) (by kernel_rfl), run_add64 x y c (by omega) (by omega) (by omega) (by omega)]
  simp only [Result.andThen]
  congr 5 <;> omega

/-- 2^64. -/
def W64 : Int := 18446744073709551616
def minI : Int := -9223372036854775808
def maxI : Int := 9223372036854775807

theorem add64 (x y c : Int) (hx : 0 ≤ x) (hy : 0 ≤ y) (hc0 : 0 ≤ c) (hc : c ≤ 1) (w : World) : (callFunc 44 #[.int .u64 x, .int .u64 y, .int .u64 c]).run Tryd.prog w =
    .ok (.value (.tuple #[.int .u64 ((x + y + c) % W64), .int .u64 ((x + y + c) / W64)])) w := by
  obtain ⟨x, rfl⟩ := Int.eq_ofNat_of_zero_le hx
  obtain ⟨y, rfl⟩ := Int.eq_ofNat_of_zero_le hy
  obtain ⟨c, rfl⟩ := Int.eq_ofNat_of_zero_le hc0
  refine (add64n x y c (by omega) w).trans ?_
  unfold W64
  congr 5 <;> omega
theorem add64_0 (x y : Int) (hx : 0 ≤ x) (hy : 0 ≤ y) (w : World) : (callFunc 44 #[.int .u64 x, .int .u64 y, .int .u64 0]).run Tryd.prog w =
    .ok (.value (.tuple #[.int .u64 ((x + y) % W64), .int .u64 ((x + y) / W64)])) w := by
  simpa using add64 x y 0 hx hy (Int.le_refl 0) (by decide) w
theorem sub64n (x y b : Nat) (hb : b ≤ 1) (w : World) :
    (callFunc 39 #[.int .u64 x, .int .u64 y, .int .u64 b]).run Tryd.prog w =
      .ok (.value (.tuple #[.int .u64 (((x + 18446744073709551616 - y - b) % 18446744073709551616 : Nat) : Int), .int .u64 ((if x < y + b then 1 else 0 : Nat) : Int)])) w := by
  rw [run_callFunc_extern Tryd.func39 (by kernel_rfl) (by kernel_rfl) (by kernel_rfl) (e := sub64Entry) (by kernel_rfl), run_sub64 x y b hb]
  rfl
theorem u64_nonneg (x : Int) : 0 ≤ IntKind.u64.wrap x := by simp [IntKind.wrap, IntKind.signed, IntKind.bits]; omega
theorem idx4_0 (h0 h1 h2 h3 : Int) (w : World) : (Instr.index 64 (.agg #[.int .i64 h0, .int .i64 h1, .int .i64 h2, .int .i64 h3]) (.int .i64 0)).run Tryd.prog w = .ok (.int .i64 h0) w := by kernel_rfl
theorem idx4_1 (h0 h1 h2 h3 : Int) (w : World) : (Instr.index 64 (.agg #[.int .i64 h0, .int .i64 h1, .int .i64 h2, .int .i64 h3]) (.int .i64 1)).run Tryd.prog w = .ok (.int .i64 h1) w := by kernel_rfl
theorem idx4_2 (h0 h1 h2 h3 : Int) (w : World) : (Instr.index 64 (.agg #[.int .i64 h0, .int .i64 h1, .int .i64 h2, .int .i64 h3]) (.int .i64 2)).run Tryd.prog w = .ok (.int .i64 h2) w := by kernel_rfl
theorem idx4_3 (h0 h1 h2 h3 : Int) (w : World) : (Instr.index 64 (.agg #[.int .i64 h0, .int .i64 h1, .int .i64 h2, .int .i64 h3]) (.int .i64 3)).run Tryd.prog w = .ok (.int .i64 h3) w := by kernel_rfl

/-- the words of a sum -/
def botw (s : Int) : Int := s % W64
def topw (s : Int) : Int := s / W64 % W64
def carw (s h : Int) : Int := (botw s + IntKind.u64.wrap h) / W64
theorem botw_0 : botw 0 = 0 := by decide
theorem topw_0 : topw 0 = 0 := by decide

theorem stepB (s h : Int) (w : World) : (callFunc 44 #[.int .u64 (botw s), .int .u64 (IntKind.u64.wrap h), .int .u64 0]).run Tryd.prog w =
    .ok (.value (.tuple #[.int .u64 (botw (s + h)), .int .u64 (carw s h)])) w := by
  have e : botw (s + h) = (botw s + IntKind.u64.wrap h) % W64 := by rw [IntKind.wrap_u64]; unfold botw W64; omega
  rw [e]
  exact add64_0 _ _ (by unfold botw W64; omega) (u64_nonneg _) w
def cart (s h : Int) : Int := (topw s + IntKind.u64.wrap (h / 9223372036854775808) + carw s h) / W64
theorem stepT (s h : Int) (hh : I64 h) (w : World) : (callFunc 44 #[.int .u64 (topw s), .int .u64 (IntKind.u64.wrap (h / 9223372036854775808)), .int .u64 (carw s h)]).run Tryd.prog w =
    .ok (.value (.tuple #[.int .u64 (topw (s + h)), .int .u64 (cart s h)])) w := by
  obtain ⟨h1, h2⟩ := hh
  have e : topw (s + h) = (topw s + IntKind.u64.wrap (h / 9223372036854775808) + carw s h) % W64 := by
    unfold carw; rw [IntKind.wrap_u64, IntKind.wrap_u64]; unfold botw topw W64
    rcases (by omega : h / 9223372036854775808 = 0 ∨ h / 9223372036854775808 = -1) with e | e
    · rw [e]; omega
    · rw [e]; omega
  rw [e]
  exact add64 _ _ _ (by unfold topw W64; omega) (u64_nonneg _) (by unfold carw; rw [IntKind.wrap_u64]; unfold botw W64; omega) (by unfold carw; rw [IntKind.wrap_u64]; unfold botw W64; omega) w

theorem made_in (s : Int) (h0 : minI ≤ s) (h1 : s ≤ maxI) : wrap64 (botw s) = s ∧ wrap64 (topw s) = s / 9223372036854775808 := by
  unfold wrap64 botw topw W64; unfold minI at h0; unfold maxI at h1
  constructor
  · omega
  · rcases (by omega : s / 9223372036854775808 = 0 ∨ s / 9223372036854775808 = -1) with e | e
    · rw [e]; omega
    · rw [e]; omega
def Wide (s : Int) : Prop := -36893488147419103232 ≤ s ∧ s ≤ 36893488147419103232
theorem made_out (s : Int) (h : s < minI ∨ maxI < s) (hw : Wide s) : (wrap64 (topw s) == wrap64 (botw s) / 9223372036854775808) = false ∧ (wrap64 (topw s) < 0 ↔ s < 0) := by
  unfold wrap64 botw topw W64; unfold minI maxI at h; obtain ⟨a, b⟩ := hw
  constructor
  · rw [beq_eq_false_iff_ne]
    rcases (by omega : s / 18446744073709551616 = 0 ∨ s / 18446744073709551616 = -1 ∨ s / 18446744073709551616 = 1 ∨ s / 18446744073709551616 = -2 ∨ s / 18446744073709551616 = 2) with e | e | e | e | e <;> rw [e] <;> omega
  · rcases (by omega : s / 18446744073709551616 = 0 ∨ s / 18446744073709551616 = -1 ∨ s / 18446744073709551616 = 1 ∨ s / 18446744073709551616 = -2 ∨ s / 18446744073709551616 = 2) with e | e | e | e | e <;> rw [e] <;> omega

/-- an integer of two words, as a value -/
abbrev two (a b : Int) : Value := .agg #[.int .i64 a, .int .i64 b]
def madeHi (s : Int) : Int := if s < minI then minI else if maxI < s then maxI else s
def madeLo (s low : Int) : Int := if s < minI then 0 else if maxI < s then 0 else low

theorem side_t (w : World) : Calls Tryd.prog 45 #[.bool true] w fun e w' => e = .returned (two (-9223372036854775808) 0) ∧ Below w.heap.size w w' := by
  go_enter Tryd.func45, Tryd.ntmps45
  go_wp2
  refine bodyPost_ret (v := two (-9223372036854775808) 0) (by simp [results, Tryd.results45, go_sem]) rfl ⟨rfl, ?_⟩
  (repeat (first | (with_reducible exact Below.refl _ _) | ((with_reducible refine Below.alloc ?_ ?_ _); rotate_left; focus (first | (simp; done) | (simp; omega))) | ((with_reducible refine Below.setCell ?_ ?_ _); rotate_left; focus (first | (simp; done) | (simp; omega))) | (with_reducible refine Below.drew ?_) | (with_reducible refine Below.drewN' ?_ _)))
theorem side_f (w : World) : Calls Tryd.prog 45 #[.bool false] w fun e w' => e = .returned (two 9223372036854775807 0) ∧ Below w.heap.size w w' := by
  go_enter Tryd.func45, Tryd.ntmps45
  go_wp2
  refine bodyPost_ret (v := two 9223372036854775807 0) (by simp [results, Tryd.results45, go_sem]) rfl ⟨rfl, ?_⟩
  (repeat (first | (with_reducible exact Below.refl _ _) | ((with_reducible refine Below.alloc ?_ ?_ _); rotate_left; focus (first | (simp; done) | (simp; omega))) | ((with_reducible refine Below.setCell ?_ ?_ _); rotate_left; focus (first | (simp; done) | (simp; omega))) | (with_reducible refine Below.drew ?_) | (with_reducible refine Below.drewN' ?_ _)))

set_option maxRecDepth 100000 in
set_option maxHeartbeats 400000 in
theorem made_any (h0 h1 h2 h3 low : Int) (b0 : I64 h0) (b1 : I64 h1) (b2 : I64 h2) (b3 : I64 h3) (w : World) :
    Calls Tryd.prog 37 #[.agg #[.int .i64 h0, .int .i64 h1, .int .i64 h2, .int .i64 h3], .int .i64 low] w fun e w' =>
      e = .returned (two (madeHi (h0 + h1 + h2 + h3)) (madeLo (h0 + h1 + h2 + h3) low)) ∧ Below w.heap.size w w' := by
  have i0 := idx4_0 h0 h1 h2 h3
  have i1 := idx4_1 h0 h1 h2 h3
  have i2 := idx4_2 h0 h1 h2 h3
  have i3 := idx4_3 h0 h1 h2 h3
  go_enter Tryd.func37, Tryd.ntmps37
  go_wp2
  go_loop [5, 6, 12] (fun t b i => ∃ (k : Nat) (s : Int), k ≤ 4 ∧ i = .int .i64 k ∧ t = .int .u64 (topw s) ∧ b = .int .u64 (botw s) ∧
      ((k = 0 ∧ 0 = s) ∨ (k = 1 ∧ h0 = s) ∨ (k = 2 ∧ h0 + h1 = s) ∨ (k = 3 ∧ h0 + h1 + h2 = s) ∨ (k = 4 ∧ h0 + h1 + h2 + h3 = s))) (fun _ _ i => 4 - (intOf i).toNat)
  case atStart => exact ⟨0, 0, by omega, rfl, by rw [topw_0], by rw [botw_0], by simp⟩
  case round =>
    obtain ⟨k, s, hk, rfl, rfl, rfl, hs⟩ := hrel
    rcases hs with ⟨rfl, rfl⟩ | ⟨rfl, rfl⟩ | ⟨rfl, rfl⟩ | ⟨rfl, rfl⟩ | ⟨rfl, rfl⟩
    · have f := stepB 0 h0
      have g := stepT 0 h0 b0
      go_wp2
      refine ⟨⟨1, h0, by omega, rfl, rfl, rfl, by simp⟩, by simp [intOf]⟩
    · have f := stepB h0 h1
      have g := stepT h0 h1 b1
      go_wp2
      refine ⟨⟨2, h0 + h1, by omega, rfl, rfl, rfl, by simp⟩, by simp [intOf]⟩
    · have f := stepB (h0 + h1) h2
      have g := stepT (h0 + h1) h2 b2
      go_wp2
      refine ⟨⟨3, h0 + h1 + h2, by omega, rfl, rfl, rfl, by simp⟩, by simp [intOf]⟩
    · have f := stepB (h0 + h1 + h2) h3
      have g := stepT (h0 + h1 + h2) h3 b3
      go_wp2
      refine ⟨⟨4, h0 + h1 + h2 + h3, by omega, rfl, rfl, rfl, by simp⟩, by simp [intOf]⟩
    · have hW : Wide (h0 + h1 + h2 + h3) := by unfold Wide; obtain ⟨_, _⟩ := b0; obtain ⟨_, _⟩ := b1; obtain ⟨_, _⟩ := b2; obtain ⟨_, _⟩ := b3; omega
      generalize hsum : h0 + h1 + h2 + h3 = s at *
      have HS := Lib.hid hsum; clear hsum
      by_cases hin : minI ≤ s ∧ s ≤ maxI
      · obtain ⟨e1, e2⟩ := made_in s hin.1 hin.2
        go_wp2
        refine bodyPost_ret (v := two s low) (by simp [results, Tryd.results37, go_sem]) rfl ⟨?_, ?_⟩
        · rw [HS.out, show madeHi s = s by unfold madeHi; rw [if_neg (by omega), if_neg (by omega)], show madeLo s low = low by unfold madeLo; rw [if_neg (by omega), if_neg (by omega)]]
        · (repeat (first | (with_reducible exact Below.refl _ _) | ((with_reducible refine Below.alloc ?_ ?_ _); rotate_left; focus (first | (simp; done) | (simp; omega))) | ((with_reducible refine Below.setCell ?_ ?_ _); rotate_left; focus (first | (simp; done) | (simp; omega))) | (with_reducible refine Below.drew ?_) | (with_reducible refine Below.drewN' ?_ _)))
      · have ho : s < minI ∨ maxI < s := by omega
        obtain ⟨e1, e2⟩ := made_out s ho hW
        by_cases hs : s < 0
        · have e3 : decide (wrap64 (topw s) < 0) = true := by simpa using e2.2 hs
          have hlt : s < minI := by unfold minI maxI at *; omega
          clear e2
          go_wp2_with (go_at_call 45; refine (side_t _).mono ?_; rintro e w1 ⟨rfl, hb1⟩; obtain ⟨hc1, hf1⟩ := bcell hb1)
          refine bodyPost_ret (v := two (-9223372036854775808) 0) (by simp [results, Tryd.results37, go_sem, hc1]) rfl ⟨?_, ?_⟩
          · rw [HS.out, show madeHi s = minI by unfold madeHi; rw [if_pos hlt], show madeLo s low = 0 by unfold madeLo; rw [if_pos hlt]]; rfl
          · (repeat (first | (with_reducible exact Below.refl _ _) | ((with_reducible refine Below.alloc ?_ ?_ _); rotate_left; focus (first | (simp; done) | (simp; omega) | (have q0 := hb1.size; (try simp at q0); (try simp); omega))) | ((with_reducible refine Below.setCell ?_ ?_ _); rotate_left; focus (first | (simp; done) | (simp; omega) | (have q0 := hb1.size; (try simp at q0); (try simp); omega))) | (with_reducible refine Below.drew ?_) | (with_reducible refine Below.drewN' ?_ _) | (with_reducible refine Below.trans ?_ (hb1.mono ?_); rotate_left; focus (first | (simp; done) | (simp; omega) | (have q0 := hb1.size; (try simp at q0); (try simp); omega)))))
        · have e3 : decide (wrap64 (topw s) < 0) = false := by simpa using fun h => hs (e2.1 h)
          have hge : minI ≤ s := by unfold minI maxI at *; omega
          have hlt : maxI < s := by omega
          clear e2
          go_wp2_with (go_at_call 45; refine (side_f _).mono ?_; rintro e w1 ⟨rfl, hb1⟩; obtain ⟨hc1, hf1⟩ := bcell hb1)
          refine bodyPost_ret (v := two 9223372036854775807 0) (by simp [results, Tryd.results37, go_sem, hc1]) rfl ⟨?_, ?_⟩
          · rw [HS.out, show madeHi s = maxI by unfold madeHi; rw [if_neg (Int.not_lt.2 hge), if_pos hlt], show madeLo s low = 0 by unfold madeLo; rw [if_neg (Int.not_lt.2 hge), if_pos hlt]]; rfl
          · (repeat (first | (with_reducible exact Below.refl _ _) | ((with_reducible refine Below.alloc ?_ ?_ _); rotate_left; focus (first | (simp; done) | (simp; omega) | (have q0 := hb1.size; (try simp at q0); (try simp); omega))) | ((with_reducible refine Below.setCell ?_ ?_ _); rotate_left; focus (first | (simp; done) | (simp; omega) | (have q0 := hb1.size; (try simp at q0); (try simp); omega))) | (with_reducible refine Below.drew ?_) | (with_reducible refine Below.drewN' ?_ _) | (with_reducible refine Below.trans ?_ (hb1.mono ?_); rotate_left; focus (first | (simp; done) | (simp; omega) | (have q0 := hb1.size; (try simp at q0); (try simp); omega)))))
end Go.Proofs.YtggbnjdbbomjoaaDoor
