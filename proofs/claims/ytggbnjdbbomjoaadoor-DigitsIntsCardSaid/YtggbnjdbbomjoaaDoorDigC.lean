/- Walks of the digits package: words, Less, Div64 by 10. -/
import Derived.Test.YtggbnjdbbomjoaaDoorDigB
import Derived.BigQuiet
import Derived.Deep.QuietTactic
namespace Go.Proofs.YtggbnjdbbomjoaaDoor
open Go.RowKit

theorem words_lo (a : Int) : IntKind.u64.wrap (IntKind.u64.wrap a * 4611686018427387904) = botw (a * M62) ∧ IntKind.u64.wrap (a / 4) = topw (a * M62) := by
  rw [IntKind.wrap_u64, IntKind.wrap_u64, IntKind.wrap_u64]; unfold botw topw W64 M62; constructor <;> omega
theorem words_top (v : Int) (h1 : -(M62 * 18446744073709551616) ≤ v) (h2 : v ≤ M62 * 18446744073709551616) : wrap64 (topw v) = v / W64 := by
  unfold wrap64 topw W64; unfold M62 at *; omega
theorem val_bd (a b : Int) (ha : I64 a) (hb : I64 b) : -(M62 * 18446744073709551616) ≤ val a b ∧ val a b ≤ M62 * 18446744073709551616 := by
  obtain ⟨_, _⟩ := ha; obtain ⟨_, _⟩ := hb; unfold val M62; omega

theorem words_any (a b : Int) (ha : I64 a) (hb : I64 b) (w : World) :
    Calls Tryd.prog 38 #[two a b] w fun e w' => e = .returned (.tuple #[.int .i64 (val a b / W64), .int .u64 (val a b % W64)]) ∧ Below w.heap.size w w' := by
  obtain ⟨e1, e2⟩ := words_lo a
  have v1 : a * M62 + b = val a b := rfl
  have f := stepB (a * M62) b
  have g := stepT (a * M62) b hb
  have t := words_top (val a b) (val_bd a b ha hb).1 (val_bd a b ha hb).2
  rw [v1] at f g
  have T := Lib.hid t; clear v1 t
  go_enter Tryd.func38, Tryd.ntmps38
  go_wp2
  go_ret2
  exact ⟨by rw [T.out]; rfl, by (repeat (first | (with_reducible exact Below.refl _ _) | ((with_reducible refine Below.alloc ?_ ?_ _); rotate_left; focus (first | (simp; done) | (simp; omega))) | ((with_reducible refine Below.setCell ?_ ?_ _); rotate_left; focus (first | (simp; done) | (simp; omega))) | (with_reducible refine Below.drew ?_) | (with_reducible refine Below.drewN' ?_ _)))⟩

theorem ret_bool {a b : Bool} (h : a = b) : Ending.returned (.bool a) = .returned (.bool b) := by rw [h]
theorem ret_int {k : IntKind} {a b : Int} (h : a = b) : Ending.returned (.int k a) = .returned (.int k b) := by rw [h]
theorem less_any (a b c d : Int) (ha : I64 a) (hb : I64 b) (hc : I64 c) (hd : I64 d) (w : World) :
    Calls Tryd.prog 26 #[two a b, two c d] w fun e w' => e = .returned (.bool (decide (val a b < val c d))) ∧ Below w.heap.size w w' := by
  go_enter Tryd.func26, Tryd.ntmps26
  go_wp2_with fail
  refine (words_any a b ha hb _).mono ?_; rintro e w1 ⟨rfl, hb1⟩; obtain ⟨hc1, hf1⟩ := bcell hb1
  go_wp2_with fail
  refine (words_any c d hc hd _).mono ?_; rintro e w2 ⟨rfl, hb2⟩; obtain ⟨hc2, hf2⟩ := bcell hb2
  go_wp2
  · go_ret
    refine ⟨ret_bool ?_, by (repeat (first | (with_reducible exact Below.refl _ _) | ((with_reducible refine Below.alloc ?_ ?_ _); rotate_left; focus (first | (simp; done) | (simp; omega) | (have q0 := hb1.size; (try simp at q0); have q1 := hb2.size; (try simp at q1); (try simp); omega))) | ((with_reducible refine Below.setCell ?_ ?_ _); rotate_left; focus (first | (simp; done) | (simp; omega) | (have q0 := hb1.size; (try simp at q0); have q1 := hb2.size; (try simp at q1); (try simp); omega))) | (with_reducible refine Below.drew ?_) | (with_reducible refine Below.drewN' ?_ _) | (with_reducible refine Below.trans ?_ (hb1.mono ?_); rotate_left; focus (first | (simp; done) | (simp; omega) | (have q0 := hb1.size; (try simp at q0); have q1 := hb2.size; (try simp at q1); (try simp); omega))) | (with_reducible refine Below.trans ?_ (hb2.mono ?_); rotate_left; focus (first | (simp; done) | (simp; omega) | (have q0 := hb1.size; (try simp at q0); have q1 := hb2.size; (try simp at q1); (try simp); omega)))))⟩
    have h1 : val a b / W64 = val c d / W64 := by assumption
    unfold W64 at *
    rw [decide_eq_decide]; omega
  · go_ret
    refine ⟨ret_bool ?_, by (repeat (first | (with_reducible exact Below.refl _ _) | ((with_reducible refine Below.alloc ?_ ?_ _); rotate_left; focus (first | (simp; done) | (simp; omega) | (have q0 := hb1.size; (try simp at q0); have q1 := hb2.size; (try simp at q1); (try simp); omega))) | ((with_reducible refine Below.setCell ?_ ?_ _); rotate_left; focus (first | (simp; done) | (simp; omega) | (have q0 := hb1.size; (try simp at q0); have q1 := hb2.size; (try simp at q1); (try simp); omega))) | (with_reducible refine Below.drew ?_) | (with_reducible refine Below.drewN' ?_ _) | (with_reducible refine Below.trans ?_ (hb1.mono ?_); rotate_left; focus (first | (simp; done) | (simp; omega) | (have q0 := hb1.size; (try simp at q0); have q1 := hb2.size; (try simp at q1); (try simp); omega))) | (with_reducible refine Below.trans ?_ (hb2.mono ?_); rotate_left; focus (first | (simp; done) | (simp; omega) | (have q0 := hb1.size; (try simp at q0); have q1 := hb2.size; (try simp at q1); (try simp); omega)))))⟩
    have h1 : ¬ val a b / W64 = val c d / W64 := by assumption
    have h2 : val c d / W64 ≤ val a b / W64 := by assumption
    unfold W64 at *
    rw [decide_eq_decide]; omega
  · go_ret
    refine ⟨ret_bool ?_, by (repeat (first | (with_reducible exact Below.refl _ _) | ((with_reducible refine Below.alloc ?_ ?_ _); rotate_left; focus (first | (simp; done) | (simp; omega) | (have q0 := hb1.size; (try simp at q0); have q1 := hb2.size; (try simp at q1); (try simp); omega))) | ((with_reducible refine Below.setCell ?_ ?_ _); rotate_left; focus (first | (simp; done) | (simp; omega) | (have q0 := hb1.size; (try simp at q0); have q1 := hb2.size; (try simp at q1); (try simp); omega))) | (with_reducible refine Below.drew ?_) | (with_reducible refine Below.drewN' ?_ _) | (with_reducible refine Below.trans ?_ (hb1.mono ?_); rotate_left; focus (first | (simp; done) | (simp; omega) | (have q0 := hb1.size; (try simp at q0); have q1 := hb2.size; (try simp at q1); (try simp); omega))) | (with_reducible refine Below.trans ?_ (hb2.mono ?_); rotate_left; focus (first | (simp; done) | (simp; omega) | (have q0 := hb1.size; (try simp at q0); have q1 := hb2.size; (try simp at q1); (try simp); omega)))))⟩
    have h1 : val a b / W64 < val c d / W64 := by assumption
    unfold W64 at *
    symm; rw [decide_eq_true_iff]; omega

set_option maxRecDepth 100000 in
theorem lz_10 (w : World) : Calls Tryd.prog 46 #[.int .u64 10] w fun e w' => e = .returned (.int .i64 60) ∧ w = w' := by
  go_enter Tryd.func46, Tryd.ntmps46
  go_wp2
  go_ret
  exact ⟨ret_int (by kernel_rfl), rfl⟩
set_option maxRecDepth 100000 in
theorem div_0 (lo : Int) (h0 : 0 ≤ lo) (h1 : lo < W64) (w : World) :
    Calls Tryd.prog 40 #[.int .u64 0, .int .u64 lo, .int .u64 10] w fun e w' => e = .returned (.tuple #[.int .u64 (lo / 10), .int .u64 (lo % 10)]) ∧ Below w.heap.size w w' := by
  have e : IntKind.u64.wrap (lo.tdiv 10) = lo / 10 := by rw [IntKind.wrap_u64, Int.tdiv_eq_ediv_of_nonneg h0]; unfold W64 at h1; omega
  have e' : lo.tmod 10 = lo % 10 := Int.tmod_eq_emod_of_nonneg h0
  have H1 := Lib.hid h1; clear h1
  go_enter Tryd.func40, Tryd.ntmps40
  go_wp2
  go_quiet (fail)
  go_wp2
  go_ret2
  exact ⟨rfl, by (repeat (first | (with_reducible exact Below.refl _ _) | ((with_reducible refine Below.alloc ?_ ?_ _); rotate_left; focus (first | (simp; done) | (simp; omega))) | ((with_reducible refine Below.setCell ?_ ?_ _); rotate_left; focus (first | (simp; done) | (simp; omega))) | (with_reducible refine Below.drew ?_) | (with_reducible refine Below.drewN' ?_ _)))⟩
/-- the numbers of a division by 10 whose upper word is not 0 -/
structure DivN (hi lo U V Q1 P1 R1 S1 T1 A1 B1 C1 N Q0 P0 R0 S0 X Y Z : Int) : Prop where
  e1 : bits .or .u64 (hi * 1152921504606846976) (lo / 16) = U
  e2 : bits .and .u64 11529215046068469760 4294967295 = 0
  e3 : IntKind.u64.wrap (lo * 1152921504606846976) = V
  e4 : bits .and .u64 V 4294967295 = 0
  e5 : IntKind.u64.wrap (U.tdiv 2684354560) = Q1
  e6 : IntKind.u64.wrap (Q1 * 2684354560) = P1
  e7 : IntKind.u64.wrap (U - P1) = R1
  e8 : IntKind.u64.wrap (4294967296 * R1) = S1
  e9 : IntKind.u64.wrap (S1 + V / 4294967296) = T1
  u0 : 0 ≤ U
  v0 : 0 ≤ V
  q0 : 0 ≤ Q1
  q1 : Q1 < 4294967296
  r0 : 0 ≤ R1
  t0 : 0 ≤ T1
  f1 : IntKind.u64.wrap (U * 4294967296) = A1
  f2 : IntKind.u64.wrap (A1 + V / 4294967296) = B1
  f3 : IntKind.u64.wrap (Q1 * 11529215046068469760) = C1
  f4 : IntKind.u64.wrap (B1 - C1) = N
  f5 : IntKind.u64.wrap (N.tdiv 2684354560) = Q0
  f6 : IntKind.u64.wrap (Q0 * 2684354560) = P0
  f7 : IntKind.u64.wrap (N - P0) = R0
  f8 : IntKind.u64.wrap (4294967296 * R0) = S0
  n0 : 0 ≤ N
  p0 : 0 ≤ Q0
  p1 : Q0 < 4294967296
  f9 : IntKind.u64.wrap S0 = S0
  p2 : 0 ≤ S0
  g1 : IntKind.u64.wrap (Q1 * 4294967296) = X
  g2 : IntKind.u64.wrap (X + Q0) = (hi * W64 + lo) / 10
  g3 : IntKind.u64.wrap (N * 4294967296) = Y
  g6 : IntKind.u64.wrap Y = Y
  g4 : IntKind.u64.wrap (Q0 * 11529215046068469760) = Z
  g5 : IntKind.u64.wrap (Y - Z) / 1152921504606846976 = (hi * W64 + lo) % 10
set_option maxRecDepth 100000 in
set_option maxHeartbeats 1000000 in
theorem div_1 (hi lo : Int) (h1 : 1 ≤ hi) (h2 : hi ≤ 9) (U V Q1 P1 R1 S1 T1 A1 B1 C1 N Q0 P0 R0 S0 X Y Z : Int) (D : DivN hi lo U V Q1 P1 R1 S1 T1 A1 B1 C1 N Q0 P0 R0 S0 X Y Z) (w : World) :
    Calls Tryd.prog 40 #[.int .u64 hi, .int .u64 lo, .int .u64 10] w fun e w' => e = .returned (.tuple #[.int .u64 ((hi * W64 + lo) / 10), .int .u64 ((hi * W64 + lo) % 10)]) ∧ Below w.heap.size w w' := by
  obtain ⟨e1, e2, e3, e4, e5, e6, e7, e8, e9, u0, v0, q0, q1, r0, t0, f1, f2, f3, f4, f5, f6, f7, f8, f9, n0, p0, p1, p2, g1, g2, g3, g6, g4, g5⟩ := D
  have G2 := Lib.hid g2; have G5 := Lib.hid g5; clear g2 g5
  go_enter Tryd.func40, Tryd.ntmps40
  go_wp2_with (go_at_call 46; refine (lz_10 _).mono ?_; rintro e w1 ⟨rfl, rfl⟩)
  refine wp_loop_once ?_
  go_wp2
  refine wp_loop_once ?_
  go_wp2
  go_ret2
  exact ⟨by rw [← G2.out, ← G5.out]; rfl, by (repeat (first | (with_reducible exact Below.refl _ _) | ((with_reducible refine Below.alloc ?_ ?_ _); rotate_left; focus (first | (simp; done) | (simp; omega))) | ((with_reducible refine Below.setCell ?_ ?_ _); rotate_left; focus (first | (simp; done) | (simp; omega))) | (with_reducible refine Below.drew ?_) | (with_reducible refine Below.drewN' ?_ _)))⟩
theorem wraps_u64' (n : Int) (h₀ : 0 ≤ n) (h₁ : n < 2 ^ 64) : IntKind.u64.wrap n = n := by rw [IntKind.wrap_u64]; omega
theorem divN (hi lo : Int) (h1 : 1 ≤ hi) (h2 : hi ≤ 9) (l0 : 0 ≤ lo) (l1 : lo < W64) : ∃ U V Q1 P1 R1 S1 T1 A1 B1 C1 N Q0 P0 R0 S0 X Y Z : Int, DivN hi lo U V Q1 P1 R1 S1 T1 A1 B1 C1 N Q0 P0 R0 S0 X Y Z := by
  unfold W64 at l1
  obtain ⟨U, hU⟩ : ∃ U : Int, U = hi * 1152921504606846976 + lo / 16 := ⟨_, rfl⟩
  obtain ⟨V, hV⟩ : ∃ V : Int, V = lo % 16 * 1152921504606846976 := ⟨_, rfl⟩
  obtain ⟨Q1, hQ1⟩ : ∃ x : Int, x = U / 2684354560 := ⟨_, rfl⟩
  obtain ⟨R1, hR1⟩ : ∃ x : Int, x = U - Q1 * 2684354560 := ⟨_, rfl⟩
  obtain ⟨N, hN⟩ : ∃ x : Int, x = R1 * 4294967296 + V / 4294967296 := ⟨_, rfl⟩
  obtain ⟨Q0, hQ0⟩ : ∃ x : Int, x = N / 2684354560 := ⟨_, rfl⟩
  obtain ⟨R0, hR0⟩ : ∃ x : Int, x = N - Q0 * 2684354560 := ⟨_, rfl⟩
  have u0 : 0 ≤ U := by omega
  have u1 : U < 11529215046068469760 := by omega
  have v0 : 0 ≤ V := by omega
  have v1 : V < 18446744073709551616 := by omega
  have v2 : V / 4294967296 * 4294967296 = V := by omega
  have q0 : 0 ≤ Q1 := by omega
  have q1 : Q1 < 4294967296 := by omega
  have r0 : 0 ≤ R1 := by omega
  have r1 : R1 < 2684354560 := by omega
  have n0 : 0 ≤ N := by omega
  have n1 : N < 11529215046068469760 := by omega
  have p0 : 0 ≤ Q0 := by omega
  have p1 : Q0 < 4294967296 := by omega
  have s0 : 0 ≤ R0 := by omega
  have s1 : R0 < 2684354560 := by omega
  -- the quotient
  have key : (hi * 18446744073709551616 + lo) = (Q1 * 4294967296 + Q0) * 10 + R0 / 268435456 := by omega
  have key2 : R0 / 268435456 < 10 := by omega
  have key3 : 0 ≤ R0 / 268435456 := by omega
  have kd : (hi * W64 + lo) / 10 = Q1 * 4294967296 + Q0 := by unfold W64; rw [key]; omega
  have km : (hi * W64 + lo) % 10 = R0 / 268435456 := by unfold W64; rw [key]; omega
  refine ⟨U, V, Q1, Q1 * 2684354560, R1, 4294967296 * R1, 4294967296 * R1 + V / 4294967296, IntKind.u64.wrap (U * 4294967296), IntKind.u64.wrap (IntKind.u64.wrap (U * 4294967296) + V / 4294967296),
    IntKind.u64.wrap (Q1 * 11529215046068469760), N, Q0, Q0 * 2684354560, R0, 4294967296 * R0, Q1 * 4294967296, IntKind.u64.wrap (N * 4294967296), IntKind.u64.wrap (Q0 * 11529215046068469760), ?_⟩
  constructor
  · rw [bits_join .u64 64 (by decide) wraps_u64' 60 _ _ (by omega) (by omega) (by omega) (by omega) (by omega) (by omega), hU]
  · rw [and_low32 _ (by omega) (by omega)]; rfl
  · rw [IntKind.wrap_u64]; omega
  · rw [and_low32 _ v0 v1]; omega
  · rw [Int.tdiv_eq_ediv_of_nonneg u0, IntKind.wrap_u64]; omega
  · rw [IntKind.wrap_u64]; omega
  · rw [IntKind.wrap_u64]; omega
  · rw [IntKind.wrap_u64]; omega
  · rw [IntKind.wrap_u64]; omega
  all_goals first | assumption | rfl | skip
  · omega
  · simp only [IntKind.wrap_u64]; omega
  · rw [Int.tdiv_eq_ediv_of_nonneg n0, IntKind.wrap_u64]; omega
  · rw [IntKind.wrap_u64]; omega
  · rw [IntKind.wrap_u64]; omega
  · rw [IntKind.wrap_u64]; omega
  · rw [IntKind.wrap_u64]; omega
  · omega
  · rw [IntKind.wrap_u64]; omega
  · rw [kd, IntKind.wrap_u64]; omega
  · simp only [IntKind.wrap_u64]; omega
  · rw [km]; simp only [IntKind.wrap_u64]; omega
/-- Div64 by 10, of what comes up in a division digit by digit -/
theorem div10 (hi lo : Int) (h1 : 0 ≤ hi) (h2 : hi ≤ 9) (l0 : 0 ≤ lo) (l1 : lo < W64) (w : World) :
    Calls Tryd.prog 40 #[.int .u64 hi, .int .u64 lo, .int .u64 10] w fun e w' => e = .returned (.tuple #[.int .u64 ((hi * W64 + lo) / 10), .int .u64 ((hi * W64 + lo) % 10)]) ∧ Below w.heap.size w w' := by
  by_cases h : hi = 0
  · subst h
    have e : (0 * W64 + lo) = lo := by omega
    rw [e]
    exact div_0 lo l0 l1 w
  · obtain ⟨U, V, Q1, P1, R1, S1, T1, A1, B1, C1, N, Q0, P0, R0, S0, X, Y, Z, D⟩ := divN hi lo (by omega) h2 l0 l1
    exact div_1 hi lo (by omega) h2 U V Q1 P1 R1 S1 T1 A1 B1 C1 N Q0 P0 R0 S0 X Y Z D w
end Go.Proofs.YtggbnjdbbomjoaaDoor
