/- Walks of the digits package: Add, Sub, Of, Normal, Plus, Minus, words, Less. -/
import Derived.Test.YtggbnjdbbomjoaaDoorDigA
namespace Go.Proofs.YtggbnjdbbomjoaaDoor
open Go.RowKit

/-! ### plain arithmetic -/
/-- 2^62 -/
def M62 : Int := 4611686018427387904
def val (hi lo : Int) : Int := hi * M62 + lo
def normHi (v : Int) : Int := madeHi (v / M62)
def normLo (v : Int) : Int := madeLo (v / M62) (v % M62)

theorem and62 (n : Int) : bits .and .i64 n 4611686018427387903 = n % 4611686018427387904 := by
  have h127 : (BitVec.ofInt 64 4611686018427387903).toNat = 2 ^ 62 - 1 := by decide
  have key : (BitVec.ofInt 64 n &&& BitVec.ofInt 64 4611686018427387903).toNat = (n % ((2 ^ 64 : Nat) : Int)).toNat % 2 ^ 62 := by
    rw [BitVec.toNat_and, BitVec.toNat_ofInt, h127, Nat.and_two_pow_sub_one_eq_mod]
  show IntKind.i64.wrap ((BitVec.ofInt 64 n &&& BitVec.ofInt 64 4611686018427387903).toNat : Nat) = n % 4611686018427387904
  rw [key, IntKind.wrap_i64]
  omega

theorem add_same {a b : Int} (ha : I64 a) (hb : I64 b) (hs : a < 0 ↔ b < 0) :
    ((!decide (wrap64 (a + b) < 0) == decide (b < 0)) = true → ¬ I64 (a + b)) ∧ ((!decide (wrap64 (a + b) < 0) == decide (b < 0)) = false → I64 (a + b) ∧ wrap64 (a + b) = a + b) := by
  obtain ⟨_, _⟩ := ha; obtain ⟨_, _⟩ := hb
  unfold I64 wrap64
  constructor
  · intro h
    by_cases hb : b < 0 <;> simp [hb] at h <;> omega
  · intro h
    by_cases hb : b < 0 <;> simp [hb] at h <;> omega
theorem add_diff {a b : Int} (ha : I64 a) (hb : I64 b) (hs : ¬ (a < 0 ↔ b < 0)) : I64 (a + b) ∧ wrap64 (a + b) = a + b := by
  obtain ⟨_, _⟩ := ha; obtain ⟨_, _⟩ := hb
  unfold I64 wrap64
  omega
theorem sub_diff {a b : Int} (ha : I64 a) (hb : I64 b) (hs : ¬ (a < 0 ↔ b < 0)) :
    ((!decide (wrap64 (a - b) < 0) == decide (a < 0)) = true → ¬ I64 (a - b)) ∧ ((!decide (wrap64 (a - b) < 0) == decide (a < 0)) = false → I64 (a - b) ∧ wrap64 (a - b) = a - b) := by
  obtain ⟨_, _⟩ := ha; obtain ⟨_, _⟩ := hb
  unfold I64 wrap64
  constructor
  · intro h
    by_cases ha : a < 0 <;> simp [ha] at h <;> omega
  · intro h
    by_cases ha : a < 0 <;> simp [ha] at h <;> omega
theorem sub_same {a b : Int} (ha : I64 a) (hb : I64 b) (hs : a < 0 ↔ b < 0) : I64 (a - b) ∧ wrap64 (a - b) = a - b := by
  obtain ⟨_, _⟩ := ha; obtain ⟨_, _⟩ := hb
  unfold I64 wrap64
  omega

/-- the answer of a sum or a difference -/
def FitV (s : Int) (e : Ending) : Prop := (I64 s ∧ e = .returned (.tuple #[.int .i64 s, .bool true])) ∨ (¬ I64 s ∧ e = .returned (.tuple #[.int .i64 0, .bool false]))

theorem add_any (a b : Int) (ha : I64 a) (hb : I64 b) (w : World) : Calls Tryd.prog 15 #[.int .i64 a, .int .i64 b] w fun e w' => FitV (a + b) e ∧ w = w' := by
  go_enter Tryd.func15, Tryd.ntmps15
  go_wp2
  · go_ret2
    exact ⟨Or.inr ⟨(add_same ha hb ‹_›).1 ‹_›, rfl⟩, rfl⟩
  · go_ret2
    have h := (add_same ha hb ‹_›).2 ‹_›
    exact ⟨Or.inl ⟨h.1, by simp [h.2]⟩, rfl⟩
  · go_ret2
    have h := add_diff ha hb ‹_›
    exact ⟨Or.inl ⟨h.1, by simp [h.2]⟩, rfl⟩
theorem sub_any (a b : Int) (ha : I64 a) (hb : I64 b) (w : World) : Calls Tryd.prog 16 #[.int .i64 a, .int .i64 b] w fun e w' => FitV (a - b) e ∧ w = w' := by
  by_cases hs : a < 0 ↔ b < 0
  · have h := sub_same ha hb hs
    have H := Lib.hid h; clear h
    go_enter Tryd.func16, Tryd.ntmps16
    go_wp2
    go_ret2
    exact ⟨Or.inl ⟨H.out.1, by simp [H.out.2]⟩, rfl⟩
  · have e1 : (!decide (a < 0) == decide (b < 0)) = true := by by_cases h1 : a < 0 <;> by_cases h2 : b < 0 <;> simp [h1, h2] at hs ⊢
    have hd := sub_diff ha hb hs
    by_cases hf : (!decide (wrap64 (a - b) < 0) == decide (a < 0)) = true
    · have H := Lib.hid (hd.1 hf); clear hd
      go_enter Tryd.func16, Tryd.ntmps16
      go_wp2
      go_ret2
      exact ⟨Or.inr ⟨H.out, rfl⟩, rfl⟩
    · have hf' : (!decide (wrap64 (a - b) < 0) == decide (a < 0)) = false := by simpa using hf
      have H := Lib.hid (hd.2 hf'); clear hd hf
      go_enter Tryd.func16, Tryd.ntmps16
      go_wp2
      go_ret2
      exact ⟨Or.inl ⟨H.out.1, by simp [H.out.2]⟩, rfl⟩

/-! ### integers of two words -/
theorem of_val (n : Int) (h : I64 n) : n / 4611686018427387904 = normHi n ∧ n % 4611686018427387904 = normLo n := by
  obtain ⟨_, _⟩ := h
  unfold normHi normLo madeHi madeLo M62 minI maxI
  rw [if_neg (by omega), if_neg (by omega), if_neg (by omega), if_neg (by omega)]; exact ⟨rfl, rfl⟩
theorem of_any (n : Int) (h : I64 n) (w : World) : Calls Tryd.prog 21 #[.int .i64 n] w fun e w' => e = .returned (two (normHi n) (normLo n)) ∧ Below w.heap.size w w' := by
  obtain ⟨e1, e2⟩ := of_val n h
  have E1 := Lib.hid e1; have E2 := Lib.hid e2; clear e1 e2
  go_enter Tryd.func21, Tryd.ntmps21
  go_wp2
  refine bodyPost_ret (v := two (n / 4611686018427387904) (bits .and .i64 n 4611686018427387903)) (by simp [results, Tryd.results21, go_sem]) rfl ⟨?_, ?_⟩
  · rw [and62, E1.out, E2.out]
  · exact (Below.refl _ _).alloc (Nat.le_refl _) _

/-- how the pieces of a sum come together -/
theorem made_val (s q r : Int) (h0 : 0 ≤ r) (h1 : r < M62) (e : s = q * M62 + r) : madeHi q = normHi s ∧ madeLo q r = normLo s := by
  have hq : s / M62 = q := by unfold M62 at *; omega
  have hr : s % M62 = r := by unfold M62 at *; omega
  unfold normHi normLo; rw [hq, hr]; exact ⟨rfl, rfl⟩
theorem shr62 (x : Int) (h : I64 x) : I64 (x / 4611686018427387904) ∧ -2 ≤ x / 4611686018427387904 ∧ x / 4611686018427387904 ≤ 1 := by
  obtain ⟨_, _⟩ := h; unfold I64; omega
theorem low62 (x : Int) : 0 ≤ x % 4611686018427387904 ∧ x % 4611686018427387904 < 4611686018427387904 := by omega
theorem idM62 (x : Int) : x % 4611686018427387904 + 4611686018427387904 * (x / 4611686018427387904) = x := Int.emod_add_mul_ediv _ _

theorem normal_any (a b : Int) (ha : I64 a) (hb : I64 b) (w : World) : Calls Tryd.prog 23 #[two a b] w fun e w' => e = .returned (two (normHi (val a b)) (normLo (val a b))) ∧ Below w.heap.size w w' := by
  obtain ⟨s1, s2, s3⟩ := shr62 b hb
  obtain ⟨e1, e2⟩ := made_val (val a b) (a + b / 4611686018427387904) (b % 4611686018427387904) (low62 b).1 (low62 b).2 (by unfold val M62; have := idM62 b; omega)
  have E1 := Lib.hid e1; have E2 := Lib.hid e2; clear e1 e2 s2 s3
  go_enter Tryd.func23, Tryd.ntmps23
  go_wp2_with (go_at_call 37; refine (made_any _ _ _ _ _ ha s1 ⟨by decide, by decide⟩ ⟨by decide, by decide⟩ _).mono ?_; rintro e w1 ⟨rfl, hb1⟩; obtain ⟨hc1, hf1⟩ := bcell hb1)
  refine bodyPost_ret (v := two (madeHi (a + b / 4611686018427387904 + 0 + 0)) (madeLo (a + b / 4611686018427387904 + 0 + 0) (bits .and .i64 b 4611686018427387903))) (by simp [results, Tryd.results23, go_sem, hc1]) rfl ⟨?_, ?_⟩
  · rw [and62, Int.add_zero, Int.add_zero, E1.out, E2.out]
  · (repeat (first | (with_reducible exact Below.refl _ _) | ((with_reducible refine Below.alloc ?_ ?_ _); rotate_left; focus (first | (simp; done) | (simp; omega) | (have q0 := hb1.size; (try simp at q0); (try simp); omega))) | ((with_reducible refine Below.setCell ?_ ?_ _); rotate_left; focus (first | (simp; done) | (simp; omega) | (have q0 := hb1.size; (try simp at q0); (try simp); omega))) | (with_reducible refine Below.drew ?_) | (with_reducible refine Below.drewN' ?_ _) | (with_reducible refine Below.trans ?_ (hb1.mono ?_); rotate_left; focus (first | (simp; done) | (simp; omega) | (have q0 := hb1.size; (try simp at q0); (try simp); omega)))))

theorem plus_any (a b c d : Int) (ha : I64 a) (hb : I64 b) (hc : I64 c) (hd : I64 d) (w : World) : Calls Tryd.prog 24 #[two a b, two c d] w fun e w' => e = .returned (two (normHi (val a b + val c d)) (normLo (val a b + val c d))) ∧ Below w.heap.size w w' := by
  obtain ⟨s1, s2, s3⟩ := shr62 b hb
  obtain ⟨t1, t2, t3⟩ := shr62 d hd
  have l1 := low62 b
  have l2 := low62 d
  have w1 : wrap64 (b / 4611686018427387904 + d / 4611686018427387904) = b / 4611686018427387904 + d / 4611686018427387904 := wrap_of ⟨by omega, by omega⟩
  have w2 : wrap64 (bits .and .i64 b 4611686018427387903 + bits .and .i64 d 4611686018427387903) = b % 4611686018427387904 + d % 4611686018427387904 := by rw [and62, and62]; exact wrap_of ⟨by omega, by omega⟩
  obtain ⟨e1, e2⟩ := made_val (val a b + val c d) (a + c + (b / 4611686018427387904 + d / 4611686018427387904) + (b % 4611686018427387904 + d % 4611686018427387904) / 4611686018427387904) ((b % 4611686018427387904 + d % 4611686018427387904) % 4611686018427387904) (low62 _).1 (low62 _).2 (by unfold val M62; have := idM62 b; have := idM62 d; omega)
  have x1 : I64 (b / 4611686018427387904 + d / 4611686018427387904) := ⟨by omega, by omega⟩
  have x2 : I64 ((b % 4611686018427387904 + d % 4611686018427387904) / 4611686018427387904) := ⟨by omega, by omega⟩
  have E1 := Lib.hid e1; have E2 := Lib.hid e2; clear e1 e2 s2 s3 t2 t3 s1 t1 l1 l2
  go_enter Tryd.func24, Tryd.ntmps24
  go_wp2_with (go_at_call 37; refine (made_any _ _ _ _ _ ha hc x1 x2 _).mono ?_; rintro e w1 ⟨rfl, hb1⟩; obtain ⟨hc1, hf1⟩ := bcell hb1)
  refine bodyPost_ret (v := two (normHi (val a b + val c d)) (normLo (val a b + val c d))) (by simp [results, Tryd.results24, go_sem, hc1]; rw [and62, E1.out, E2.out]; exact ⟨rfl, rfl⟩) rfl ⟨rfl, ?_⟩
  · (repeat (first | (with_reducible exact Below.refl _ _) | ((with_reducible refine Below.alloc ?_ ?_ _); rotate_left; focus (first | (simp; done) | (simp; omega) | (have q0 := hb1.size; (try simp at q0); (try simp); omega))) | ((with_reducible refine Below.setCell ?_ ?_ _); rotate_left; focus (first | (simp; done) | (simp; omega) | (have q0 := hb1.size; (try simp at q0); (try simp); omega))) | (with_reducible refine Below.drew ?_) | (with_reducible refine Below.drewN' ?_ _) | (with_reducible refine Below.trans ?_ (hb1.mono ?_); rotate_left; focus (first | (simp; done) | (simp; omega) | (have q0 := hb1.size; (try simp at q0); (try simp); omega)))))

theorem minus_any (a b c d : Int) (ha : I64 a) (hb : I64 b) (hc : I64 c) (hd : I64 d) (w : World) : Calls Tryd.prog 25 #[two a b, two c d] w fun e w' => e = .returned (two (normHi (val a b - val c d)) (normLo (val a b - val c d))) ∧ Below w.heap.size w w' := by
  obtain ⟨s1, s2, s3⟩ := shr62 b hb
  obtain ⟨t1, t2, t3⟩ := shr62 d hd
  have l1 := low62 b
  have l2 := low62 d
  have w1 : wrap64 (b / 4611686018427387904 - d / 4611686018427387904) = b / 4611686018427387904 - d / 4611686018427387904 := wrap_of ⟨by omega, by omega⟩
  have w3 : wrap64 (b / 4611686018427387904 - d / 4611686018427387904 + 1) = b / 4611686018427387904 - d / 4611686018427387904 + 1 := wrap_of ⟨by omega, by omega⟩
  have w2 : wrap64 (bits .and .i64 b 4611686018427387903 - bits .and .i64 d 4611686018427387903) = b % 4611686018427387904 - d % 4611686018427387904 := by rw [and62, and62]; exact wrap_of ⟨by omega, by omega⟩
  obtain ⟨e1, e2⟩ := made_val (val a b - val c d) (a - c + (b / 4611686018427387904 - d / 4611686018427387904) + (b % 4611686018427387904 - d % 4611686018427387904) / 4611686018427387904) ((b % 4611686018427387904 - d % 4611686018427387904) % 4611686018427387904) (low62 _).1 (low62 _).2 (by unfold val M62; have := idM62 b; have := idM62 d; omega)
  have x1 : I64 (b / 4611686018427387904 - d / 4611686018427387904) := ⟨by omega, by omega⟩
  have x3 : I64 (b / 4611686018427387904 - d / 4611686018427387904 + 1) := ⟨by omega, by omega⟩
  have x2 : I64 ((b % 4611686018427387904 - d % 4611686018427387904) / 4611686018427387904) := ⟨by omega, by omega⟩
  have E1 := Lib.hid e1; have E2 := Lib.hid e2; clear e1 e2 s2 s3 t2 t3 s1 t1 l1 l2
  by_cases hm : c = -9223372036854775808
  · have hm' : (c == -9223372036854775808) = true := by rw [hm]; rfl
    have HM := Lib.hid hm; clear hm
    go_enter Tryd.func25, Tryd.ntmps25
    go_wp2_with (go_at_call 37; refine (made_any _ _ _ _ _ ha ⟨by decide, by decide⟩ x3 x2 _).mono ?_; rintro e w1 ⟨rfl, hb1⟩; obtain ⟨hc1, hf1⟩ := bcell hb1)
    refine bodyPost_ret (v := two (normHi (val a b - val c d)) (normLo (val a b - val c d))) (by simp [results, Tryd.results25, go_sem, hc1]; rw [and62, ← E1.out, ← E2.out, HM.out]; constructor <;> congr 1 <;> omega) rfl ⟨rfl, ?_⟩
    · (repeat (first | (with_reducible exact Below.refl _ _) | ((with_reducible refine Below.alloc ?_ ?_ _); rotate_left; focus (first | (simp; done) | (simp; omega) | (have q0 := hb1.size; (try simp at q0); (try simp); omega))) | ((with_reducible refine Below.setCell ?_ ?_ _); rotate_left; focus (first | (simp; done) | (simp; omega) | (have q0 := hb1.size; (try simp at q0); (try simp); omega))) | (with_reducible refine Below.drew ?_) | (with_reducible refine Below.drewN' ?_ _) | (with_reducible refine Below.trans ?_ (hb1.mono ?_); rotate_left; focus (first | (simp; done) | (simp; omega) | (have q0 := hb1.size; (try simp at q0); (try simp); omega)))))
  · have hm' : (c == -9223372036854775808) = false := by simpa using hm
    have w4 : wrap64 (-c) = -c := wrap_of (by obtain ⟨_, _⟩ := hc; exact ⟨by omega, by omega⟩)
    have x4 : I64 (-c) := by obtain ⟨_, _⟩ := hc; exact ⟨by omega, by omega⟩
    clear hm
    go_enter Tryd.func25, Tryd.ntmps25
    go_wp2_with (go_at_call 37; refine (made_any _ _ _ _ _ ha x4 x1 x2 _).mono ?_; rintro e w1 ⟨rfl, hb1⟩; obtain ⟨hc1, hf1⟩ := bcell hb1)
    refine bodyPost_ret (v := two (normHi (val a b - val c d)) (normLo (val a b - val c d))) (by simp [results, Tryd.results25, go_sem, hc1]; rw [and62, ← E1.out, ← E2.out]; constructor <;> congr 1) rfl ⟨rfl, ?_⟩
    · (repeat (first | (with_reducible exact Below.refl _ _) | ((with_reducible refine Below.alloc ?_ ?_ _); rotate_left; focus (first | (simp; done) | (simp; omega) | (have q0 := hb1.size; (try simp at q0); (try simp); omega))) | ((with_reducible refine Below.setCell ?_ ?_ _); rotate_left; focus (first | (simp; done) | (simp; omega) | (have q0 := hb1.size; (try simp at q0); (try simp); omega))) | (with_reducible refine Below.drew ?_) | (with_reducible refine Below.drewN' ?_ _) | (with_reducible refine Below.trans ?_ (hb1.mono ?_); rotate_left; focus (first | (simp; done) | (simp; omega) | (have q0 := hb1.size; (try simp at q0); (try simp); omega)))))
end Go.Proofs.YtggbnjdbbomjoaaDoor
