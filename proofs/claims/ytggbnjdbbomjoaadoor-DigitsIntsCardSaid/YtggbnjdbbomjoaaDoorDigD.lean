/- Walks of the digits package: Write. -/
import Derived.Test.YtggbnjdbbomjoaaDoorDigC
import Derived.Lib.ItoaMem
import Derived.ShutString
namespace Go.Proofs.YtggbnjdbbomjoaaDoor
open Go.RowKit

theorem sub64 (x y b : Int) (hx : 0 ≤ x) (hy : 0 ≤ y) (hy' : y < W64) (hb0 : 0 ≤ b) (hb : b ≤ 1) (w : World) : (callFunc 39 #[.int .u64 x, .int .u64 y, .int .u64 b]).run Tryd.prog w =
    .ok (.value (.tuple #[.int .u64 ((x - y - b) % W64), .int .u64 (if x < y + b then 1 else 0)])) w := by
  obtain ⟨x, rfl⟩ := Int.eq_ofNat_of_zero_le hx
  obtain ⟨y, rfl⟩ := Int.eq_ofNat_of_zero_le hy
  obtain ⟨b, rfl⟩ := Int.eq_ofNat_of_zero_le hb0
  unfold W64 at hy' ⊢
  have e1 : (((x + 18446744073709551616 - y - b) % 18446744073709551616 : Nat) : Int) = ((x : Int) - y - b) % 18446744073709551616 := by omega
  have e2 : ((if x < y + b then 1 else 0 : Nat) : Int) = if (x : Int) < y + b then 1 else 0 := by split <;> split <;> omega
  rw [← e1, ← e2]
  exact sub64n x y b (by omega) w

/-- what is written so far, and what is still to write -/
def Wr (N : Int) (t : List UInt8) (M : Nat) : Prop := (t = [] ∧ N = (M : Int)) ∨ (t ≠ [] ∧ (if N = 0 then t else Lib.decDigits N.toNat ++ t) = Lib.decDigits M)
theorem wr_start (M : Nat) : Wr (M : Int) [] M := Or.inl ⟨rfl, rfl⟩
theorem dec_snoc (n : Nat) (h : ¬ n < 10) : Lib.decDigits n = Lib.decDigits (n / 10) ++ [UInt8.ofNat (48 + n % 10)] := by
  rw [Lib.decDigits, dif_neg h]
def digc (r : Int) : UInt8 := UInt8.ofNat (48 + r.toNat)
theorem wr_step {N : Int} {t : List UInt8} {M : Nat} (h0 : 0 ≤ N) (h : Wr N t M) (hc : N ≠ 0 ∨ t = []) : Wr (N / 10) (digc (N % 10) :: t) M := by
  unfold digc
  obtain ⟨n, rfl⟩ := Int.eq_ofNat_of_zero_le h0
  have e1 : ((n : Int) / 10) = ((n / 10 : Nat) : Int) := by omega
  have e2 : ((n : Int) % 10).toNat = n % 10 := by omega
  have e3 : ((n : Int) / 10).toNat = n / 10 := by omega
  refine Or.inr ⟨by simp, ?_⟩
  rw [e2, e3]
  rcases h with ⟨rfl, hN⟩ | ⟨ht, h⟩
  · have : n = M := by omega
    subst this
    by_cases hn : n < 10
    · rw [if_pos (by omega), Lib.decDigits_one hn, show n % 10 = n by omega]
    · rw [if_neg (by omega), dec_snoc n hn]
  · have hn0 : (n : Int) ≠ 0 := by rcases hc with hc | hc; exact hc; exact absurd hc ht
    rw [if_neg hn0] at h
    rw [Int.toNat_natCast] at h
    by_cases hn : n < 10
    · rw [if_pos (by omega), ← h, Lib.decDigits_one hn, show n % 10 = n by omega]; rfl
    · rw [if_neg (by omega), ← h, dec_snoc n hn]; simp
theorem wr_end {t : List UInt8} {M : Nat} (h : Wr 0 t M) (ht : t ≠ []) : t = Lib.decDigits M := by
  rcases h with ⟨h, _⟩ | ⟨_, h⟩
  · exact absurd h ht
  · simpa using h
theorem dec_ne (n : Nat) (h : n ≠ 0) : Lib.decDigits n ≠ [48] := by
  by_cases hn : n < 10
  · rw [Lib.decDigits_one hn]; intro e
    have : n = 1 ∨ n = 2 ∨ n = 3 ∨ n = 4 ∨ n = 5 ∨ n = 6 ∨ n = 7 ∨ n = 8 ∨ n = 9 := by omega
    rcases this with rfl | rfl | rfl | rfl | rfl | rfl | rfl | rfl | rfl <;> exact absurd e (by decide)
  · rw [dec_snoc n hn]; intro e
    have h1 := congrArg List.length e
    have h2 := Lib.decDigits_length (n / 10)
    simp at h1
    rw [Lib.decDigits] at h1
    split at h1 <;> simp at h1

theorem dec_len (k n : Nat) : n < 10 ^ (k + 1) → (Lib.decDigits n).length ≤ k + 1 := by
  induction k generalizing n with
  | zero => intro h; rw [Lib.decDigits_one (by omega)]; simp
  | succ k ih =>
    intro h
    by_cases hn : n < 10
    · rw [Lib.decDigits_one hn]; simp
    · rw [dec_snoc n hn]
      have := ih (n / 10) (by rw [Nat.pow_succ] at h; omega)
      simp; omega
theorem wr_len {N : Int} {t : List UInt8} {M : Nat} (h : Wr N t M) (hM : M < 10 ^ 40) : t.length ≤ 40 := by
  have := dec_len 39 M hM
  rcases h with ⟨h, _⟩ | ⟨_, h⟩
  · rw [h]; simp
  · rw [← h] at this; split at this <;> simp at this <;> omega

def wrM (U B : Int) (tx : Value) : Nat := (U * W64 + B).toNat * 2 + (match tx with | .string s => (if s.size = 0 then 1 else 0) | _ => 0)
theorem wrM_lt {U B : Int} {t : List UInt8} (u0 : 0 ≤ U) (b0 : 0 ≤ B) (h : U ≠ 0 ∨ B ≠ 0 ∨ t = []) (c : UInt8) :
    wrM (U / 10) ((U % 10 * W64 + B) / 10) (.string ⟨(c :: t).toArray⟩) < wrM U B (.string ⟨t.toArray⟩) := by
  unfold wrM W64
  have e1 : (ByteArray.mk (c :: t).toArray).size ≠ 0 := by simp [ByteArray.size]
  simp only [e1, if_false]
  rcases h with h | h | h
  · omega
  · omega
  · subst h
    have e2 : (ByteArray.mk ([] : List UInt8).toArray).size = 0 := by simp [ByteArray.size]
    simp only [e2, if_true]
    omega
theorem wr_div {U B : Int} (b0 : 0 ≤ B) (b1 : B < W64) :
    (U / 10 * W64 + (U % 10 * W64 + B) / 10 = (U * W64 + B) / 10) ∧ (0 ≤ (U % 10 * W64 + B) / 10 ∧ (U % 10 * W64 + B) / 10 < W64) ∧ (U * W64 + B) % 10 = (U % 10 * W64 + B) % 10 ∧ 0 ≤ (U % 10 * W64 + B) % 10 ∧ (U % 10 * W64 + B) % 10 ≤ 9 := by
  unfold W64 at *; omega
theorem enc_digit {r : Int} (h0 : 0 ≤ r) (h1 : r ≤ 9) : Utf8.encode (48 + r) = ⟨#[digc r]⟩ := by
  have : r = 0 ∨ r = 1 ∨ r = 2 ∨ r = 3 ∨ r = 4 ∨ r = 5 ∨ r = 6 ∨ r = 7 ∨ r = 8 ∨ r = 9 := by omega
  rcases this with rfl | rfl | rfl | rfl | rfl | rfl | rfl | rfl | rfl | rfl <;> rfl

set_option maxRecDepth 100000 in
set_option maxHeartbeats 1000000 in
theorem write_pos (a b : Int) (ha : I64 a) (hb : I64 b) (hv : 0 ≤ val a b) (w : World) :
    Calls Tryd.prog 28 #[two a b] w fun e w' => e = .returned (.string ⟨(Lib.itoa (val a b)).toArray⟩) ∧ Below w.heap.size w w' := by
  have ht : 0 ≤ val a b / W64 := by unfold W64; omega
  have hM : (val a b).toNat < 10 ^ 40 := by have := val_bd a b ha hb; unfold M62 at this; omega
  generalize hMM : (val a b).toNat = M at *
  have HMM := Lib.hid hMM; clear hMM
  have hT : IntKind.u64.wrap (val a b / W64) = val a b / W64 := by have := val_bd a b ha hb; unfold M62 at this; rw [IntKind.wrap_u64]; unfold W64 at *; omega
  have HT := Lib.hid hT; clear hT
  go_enter Tryd.func28, Tryd.ntmps28
  go_wp2_with (go_at_call 38; refine (words_any a b ha hb _).mono ?_; rintro e w1 ⟨rfl, hb1⟩; obtain ⟨hc1, hf1⟩ := bcell hb1)
  go_loopw [4, 6, 8] (fun bo up tx wr => ∃ (U B : Int) (t : List UInt8), 0 ≤ U ∧ U < W64 ∧ 0 ≤ B ∧ B < W64 ∧ bo = .int .u64 B ∧ up = .int .u64 U ∧ tx = .string ⟨t.toArray⟩ ∧ Wr (U * W64 + B) t M ∧ Below w.heap.size w wr)
    (fun bo up tx _ => wrM (intOf up) (intOf bo) tx)
  case atStart =>
    have hw : 0 ≤ val a b % W64 ∧ val a b % W64 < W64 := by unfold W64; omega
    refine ⟨val a b / W64, val a b % W64, [], ht, by have := val_bd a b ha hb; unfold M62 at this; unfold W64; omega, hw.1, hw.2, rfl, ?_, rfl, ?_, by (repeat (first | (with_reducible exact Below.refl _ _) | ((with_reducible refine Below.alloc ?_ ?_ _); rotate_left; focus (first | (simp; done) | (simp; omega) | (have q0 := hb1.size; (try simp at q0); (try simp); omega))) | ((with_reducible refine Below.setCell ?_ ?_ _); rotate_left; focus (first | (simp; done) | (simp; omega) | (have q0 := hb1.size; (try simp at q0); (try simp); omega))) | (with_reducible refine Below.drew ?_) | (with_reducible refine Below.drewN' ?_ _) | (with_reducible refine Below.trans ?_ (hb1.mono ?_); rotate_left; focus (first | (simp; done) | (simp; omega) | (have q0 := hb1.size; (try simp at q0); (try simp); omega)))))⟩
    · rw [HT.out]
    · have e : val a b / W64 * W64 + val a b % W64 = (M : Int) := by have := HMM.out; unfold W64; omega
      rw [e]; exact wr_start M
  case round =>
    obtain ⟨U, B, t, u0, u1, b0, b1, rfl, rfl, rfl, hw, hbr⟩ := hrel
    have tm : U.tmod 10 = U % 10 := Int.tmod_eq_emod_of_nonneg u0
    have td : IntKind.u64.wrap (U.tdiv 10) = U / 10 := by have := u1; unfold W64 at this; rw [Int.tdiv_eq_ediv_of_nonneg u0, IntKind.wrap_u64]; omega
    have hl := wr_len hw hM
    have HU := Lib.hid u1; have HB := Lib.hid b1; have HW := Lib.hid hw; clear u1 b1 hw
    by_cases hc : U ≠ 0 ∨ B ≠ 0 ∨ t = []
    · have hm := wrM_lt u0 b0 (by rcases hc with h | h | h; exact Or.inl h; exact Or.inr (Or.inl h); exact Or.inr (Or.inr h) : U ≠ 0 ∨ B ≠ 0 ∨ t = [])
      have HM := Lib.hid hm; clear hm
      have hs := wr_step (by unfold W64; omega) HW.out (by rcases hc with h | h | h; exact Or.inl (by unfold W64; omega); exact Or.inl (by unfold W64; omega); exact Or.inr h)
      have HS := Lib.hid hs; clear hs
      obtain ⟨d0, d1, d2, d3, d4⟩ := wr_div (U := U) b0 HB.out
      generalize hB : (U % 10 * W64 + B) / 10 = B' at *
      generalize hr : (U % 10 * W64 + B) % 10 = r at *
      have HB' := Lib.hid hB; have Hr := Lib.hid hr
      have HD := Lib.hid d0
      have HD1 := Lib.hid d1
      have HD2 := Lib.hid d2
      have eu := enc_digit d3 d4
      clear hB hr d0 d1 d2
      rcases hc with hU | hB | ht0
      · go_wp2_with fail
        refine (div10 _ _ (by omega) (by omega) b0 HB.out _).mono ?_; rintro e w2 ⟨rfl, hb2⟩
        rw [HB'.out, Hr.out]
        go_wp2
        refine ⟨⟨U / 10, B', digc r :: t, by omega, by have := HU.out; omega, HD1.out.1, HD1.out.2, rfl, rfl, rfl, ?_, hbr.trans (hb2.mono hbr.size)⟩, HM.out _⟩
        rw [HD.out]; (have q := HS.out; rw [HD2.out] at q; exact q)
      · by_cases hU : U = 0
        · subst hU
          go_wp2_with fail
          refine (div10 _ _ (by omega) (by omega) b0 HB.out _).mono ?_; rintro e w2 ⟨rfl, hb2⟩
          rw [show ((0 : Int) * W64 + B) / 10 = B' from HB'.out, show ((0 : Int) * W64 + B) % 10 = r from Hr.out]
          go_wp2
          refine ⟨⟨0, B', digc r :: t, by omega, by unfold W64; omega, HD1.out.1, HD1.out.2, rfl, rfl, rfl, ?_, hbr.trans (hb2.mono hbr.size)⟩, HM.out _⟩
          rw [show (0 : Int) * W64 + B' = 0 / 10 * W64 + B' from by simp, HD.out]; (have q := HS.out; rw [HD2.out] at q; exact q)
        · go_wp2_with fail
          refine (div10 _ _ (by omega) (by omega) b0 HB.out _).mono ?_; rintro e w2 ⟨rfl, hb2⟩
          rw [HB'.out, Hr.out]
          go_wp2
          refine ⟨⟨U / 10, B', digc r :: t, by omega, by have := HU.out; omega, HD1.out.1, HD1.out.2, rfl, rfl, rfl, ?_, hbr.trans (hb2.mono hbr.size)⟩, HM.out _⟩
          rw [HD.out]; (have q := HS.out; rw [HD2.out] at q; exact q)
      · subst ht0
        by_cases hU : U = 0
        · subst hU
          by_cases hB : B = 0
          · subst hB
            go_wp2_with fail
            refine (div10 _ _ (by omega) (by omega) b0 HB.out _).mono ?_; rintro e w2 ⟨rfl, hb2⟩
            rw [show ((0 : Int) * W64 + 0) / 10 = B' from HB'.out, show ((0 : Int) * W64 + 0) % 10 = r from Hr.out]
            go_wp2
            refine ⟨⟨0, B', [digc r], by omega, by unfold W64; omega, HD1.out.1, HD1.out.2, rfl, rfl, rfl, ?_, hbr.trans (hb2.mono hbr.size)⟩, HM.out _⟩
            rw [show (0 : Int) * W64 + B' = 0 / 10 * W64 + B' from by simp, HD.out]; (have q := HS.out; rw [HD2.out] at q; exact q)
          · go_wp2_with fail
            refine (div10 _ _ (by omega) (by omega) b0 HB.out _).mono ?_; rintro e w2 ⟨rfl, hb2⟩
            rw [show ((0 : Int) * W64 + B) / 10 = B' from HB'.out, show ((0 : Int) * W64 + B) % 10 = r from Hr.out]
            go_wp2
            refine ⟨⟨0, B', [digc r], by omega, by unfold W64; omega, HD1.out.1, HD1.out.2, rfl, rfl, rfl, ?_, hbr.trans (hb2.mono hbr.size)⟩, HM.out _⟩
            rw [show (0 : Int) * W64 + B' = 0 / 10 * W64 + B' from by simp, HD.out]; (have q := HS.out; rw [HD2.out] at q; exact q)
        · go_wp2_with fail
          refine (div10 _ _ (by omega) (by omega) b0 HB.out _).mono ?_; rintro e w2 ⟨rfl, hb2⟩
          rw [HB'.out, Hr.out]
          go_wp2
          refine ⟨⟨U / 10, B', [digc r], by omega, by have := HU.out; omega, HD1.out.1, HD1.out.2, rfl, rfl, rfl, ?_, hbr.trans (hb2.mono hbr.size)⟩, HM.out _⟩
          rw [HD.out]; (have q := HS.out; rw [HD2.out] at q; exact q)
    · have hU : U = 0 := by omega
      have hB : B = 0 := by omega
      have htn : t ≠ [] := fun h => hc (Or.inr (Or.inr h))
      subst hU; subst hB
      have he := wr_end (by simpa using HW.out) htn
      have HE := Lib.hid he; clear he hc
      have hte : t.isEmpty = false := by simpa using htn
      clear htn
      go_wp2
      all_goals
        go_ret
        refine ⟨?_, hbr⟩
        show Ending.returned (.string ⟨t.toArray⟩) = _
        rw [HE.out, show Lib.itoa (val a b) = Lib.decDigits M from by unfold Lib.itoa; rw [if_neg (by omega), HMM.out]]
set_option maxRecDepth 100000 in
set_option maxHeartbeats 1000000 in
theorem write_neg (a b : Int) (ha : I64 a) (hb : I64 b) (hv : val a b < 0) (w : World) :
    Calls Tryd.prog 28 #[two a b] w fun e w' => e = .returned (.string ⟨(Lib.itoa (val a b)).toArray⟩) ∧ Below w.heap.size w w' := by
  have ht : val a b / W64 < 0 := by unfold W64; omega
  have hM : (val a b).natAbs < 10 ^ 40 := by have := val_bd a b ha hb; unfold M62 at this; omega
  generalize hMM : (val a b).natAbs = M at *
  have HMM := Lib.hid hMM; clear hMM
  obtain ⟨B0, c0, s1, hB0, hB1, hc0, hc1⟩ : ∃ B0 c0 : Int, (∀ w, (callFunc 39 #[.int .u64 0, .int .u64 (val a b % W64), .int .u64 0]).run Tryd.prog w = .ok (.value (.tuple #[.int .u64 B0, .int .u64 c0])) w) ∧ B0 = (0 - val a b % W64 - 0) % W64 ∧ c0 = (if 0 < val a b % W64 + 0 then 1 else 0) ∧ 0 ≤ c0 ∧ c0 ≤ 1 :=
    ⟨_, _, fun w => sub64 0 _ 0 (by decide) (by unfold W64; omega) (by unfold W64; omega) (by decide) (by decide) w, rfl, rfl, by split <;> decide, by split <;> decide⟩
  obtain ⟨U0, c2, s2, hU0⟩ : ∃ U0 c2 : Int, (∀ w, (callFunc 39 #[.int .u64 0, .int .u64 (IntKind.u64.wrap (val a b / W64)), .int .u64 c0]).run Tryd.prog w = .ok (.value (.tuple #[.int .u64 U0, .int .u64 c2])) w) ∧ U0 = (0 - IntKind.u64.wrap (val a b / W64) - c0) % W64 :=
    ⟨_, _, fun w => sub64 0 _ c0 (by decide) (u64_nonneg _) (by rw [IntKind.wrap_u64]; unfold W64; omega) hc0 hc1 w, rfl⟩
  have hst : 0 ≤ U0 ∧ U0 < W64 ∧ 0 ≤ B0 ∧ B0 < W64 ∧ U0 * W64 + B0 = (M : Int) := by
    have h1 := val_bd a b ha hb; have h2 := HMM.out; rw [IntKind.wrap_u64] at hU0; unfold M62 at h1; unfold W64 at *
    rw [hU0, hB0, hB1]; split <;> omega
  have HST := Lib.hid hst; clear hst hU0 hB0 hB1 hc0 hc1
  go_enter Tryd.func28, Tryd.ntmps28
  go_wp2_with (go_at_call 38; refine (words_any a b ha hb _).mono ?_; rintro e w1 ⟨rfl, hb1⟩; obtain ⟨hc1, hf1⟩ := bcell hb1)
  go_loopw [4, 6, 8] (fun bo up tx wr => ∃ (U B : Int) (t : List UInt8), 0 ≤ U ∧ U < W64 ∧ 0 ≤ B ∧ B < W64 ∧ bo = .int .u64 B ∧ up = .int .u64 U ∧ tx = .string ⟨t.toArray⟩ ∧ Wr (U * W64 + B) t M ∧ Below w.heap.size w wr)
    (fun bo up tx _ => wrM (intOf up) (intOf bo) tx)
  case atStart =>
    refine ⟨U0, B0, [], HST.out.1, HST.out.2.1, HST.out.2.2.1, HST.out.2.2.2.1, rfl, rfl, rfl, ?_, by (repeat (first | (with_reducible exact Below.refl _ _) | ((with_reducible refine Below.alloc ?_ ?_ _); rotate_left; focus (first | (simp; done) | (simp; omega) | (have q0 := hb1.size; (try simp at q0); (try simp); omega))) | ((with_reducible refine Below.setCell ?_ ?_ _); rotate_left; focus (first | (simp; done) | (simp; omega) | (have q0 := hb1.size; (try simp at q0); (try simp); omega))) | (with_reducible refine Below.drew ?_) | (with_reducible refine Below.drewN' ?_ _) | (with_reducible refine Below.trans ?_ (hb1.mono ?_); rotate_left; focus (first | (simp; done) | (simp; omega) | (have q0 := hb1.size; (try simp at q0); (try simp); omega)))))⟩
    rw [HST.out.2.2.2.2]; exact wr_start M
  case round =>
    obtain ⟨U, B, t, u0, u1, b0, b1, rfl, rfl, rfl, hw, hbr⟩ := hrel
    have tm : U.tmod 10 = U % 10 := Int.tmod_eq_emod_of_nonneg u0
    have td : IntKind.u64.wrap (U.tdiv 10) = U / 10 := by have := u1; unfold W64 at this; rw [Int.tdiv_eq_ediv_of_nonneg u0, IntKind.wrap_u64]; omega
    have hl := wr_len hw hM
    have HU := Lib.hid u1; have HB := Lib.hid b1; have HW := Lib.hid hw; clear u1 b1 hw
    by_cases hc : U ≠ 0 ∨ B ≠ 0 ∨ t = []
    · have hm := wrM_lt u0 b0 (by rcases hc with h | h | h; exact Or.inl h; exact Or.inr (Or.inl h); exact Or.inr (Or.inr h) : U ≠ 0 ∨ B ≠ 0 ∨ t = [])
      have HM := Lib.hid hm; clear hm
      have hs := wr_step (by unfold W64; omega) HW.out (by rcases hc with h | h | h; exact Or.inl (by unfold W64; omega); exact Or.inl (by unfold W64; omega); exact Or.inr h)
      have HS := Lib.hid hs; clear hs
      obtain ⟨d0, d1, d2, d3, d4⟩ := wr_div (U := U) b0 HB.out
      generalize hB : (U % 10 * W64 + B) / 10 = B' at *
      generalize hr : (U % 10 * W64 + B) % 10 = r at *
      have HB' := Lib.hid hB; have Hr := Lib.hid hr
      have HD := Lib.hid d0
      have HD1 := Lib.hid d1
      have HD2 := Lib.hid d2
      have eu := enc_digit d3 d4
      clear hB hr d0 d1 d2
      rcases hc with hU | hB | ht0
      · go_wp2_with fail
        refine (div10 _ _ (by omega) (by omega) b0 HB.out _).mono ?_; rintro e w2 ⟨rfl, hb2⟩
        rw [HB'.out, Hr.out]
        go_wp2
        refine ⟨⟨U / 10, B', digc r :: t, by omega, by have := HU.out; omega, HD1.out.1, HD1.out.2, rfl, rfl, rfl, ?_, hbr.trans (hb2.mono hbr.size)⟩, HM.out _⟩
        rw [HD.out]; (have q := HS.out; rw [HD2.out] at q; exact q)
      · by_cases hU : U = 0
        · subst hU
          go_wp2_with fail
          refine (div10 _ _ (by omega) (by omega) b0 HB.out _).mono ?_; rintro e w2 ⟨rfl, hb2⟩
          rw [show ((0 : Int) * W64 + B) / 10 = B' from HB'.out, show ((0 : Int) * W64 + B) % 10 = r from Hr.out]
          go_wp2
          refine ⟨⟨0, B', digc r :: t, by omega, by unfold W64; omega, HD1.out.1, HD1.out.2, rfl, rfl, rfl, ?_, hbr.trans (hb2.mono hbr.size)⟩, HM.out _⟩
          rw [show (0 : Int) * W64 + B' = 0 / 10 * W64 + B' from by simp, HD.out]; (have q := HS.out; rw [HD2.out] at q; exact q)
        · go_wp2_with fail
          refine (div10 _ _ (by omega) (by omega) b0 HB.out _).mono ?_; rintro e w2 ⟨rfl, hb2⟩
          rw [HB'.out, Hr.out]
          go_wp2
          refine ⟨⟨U / 10, B', digc r :: t, by omega, by have := HU.out; omega, HD1.out.1, HD1.out.2, rfl, rfl, rfl, ?_, hbr.trans (hb2.mono hbr.size)⟩, HM.out _⟩
          rw [HD.out]; (have q := HS.out; rw [HD2.out] at q; exact q)
      · subst ht0
        by_cases hU : U = 0
        · subst hU
          by_cases hB : B = 0
          · subst hB
            go_wp2_with fail
            refine (div10 _ _ (by omega) (by omega) b0 HB.out _).mono ?_; rintro e w2 ⟨rfl, hb2⟩
            rw [show ((0 : Int) * W64 + 0) / 10 = B' from HB'.out, show ((0 : Int) * W64 + 0) % 10 = r from Hr.out]
            go_wp2
            refine ⟨⟨0, B', [digc r], by omega, by unfold W64; omega, HD1.out.1, HD1.out.2, rfl, rfl, rfl, ?_, hbr.trans (hb2.mono hbr.size)⟩, HM.out _⟩
            rw [show (0 : Int) * W64 + B' = 0 / 10 * W64 + B' from by simp, HD.out]; (have q := HS.out; rw [HD2.out] at q; exact q)
          · go_wp2_with fail
            refine (div10 _ _ (by omega) (by omega) b0 HB.out _).mono ?_; rintro e w2 ⟨rfl, hb2⟩
            rw [show ((0 : Int) * W64 + B) / 10 = B' from HB'.out, show ((0 : Int) * W64 + B) % 10 = r from Hr.out]
            go_wp2
            refine ⟨⟨0, B', [digc r], by omega, by unfold W64; omega, HD1.out.1, HD1.out.2, rfl, rfl, rfl, ?_, hbr.trans (hb2.mono hbr.size)⟩, HM.out _⟩
            rw [show (0 : Int) * W64 + B' = 0 / 10 * W64 + B' from by simp, HD.out]; (have q := HS.out; rw [HD2.out] at q; exact q)
        · go_wp2_with fail
          refine (div10 _ _ (by omega) (by omega) b0 HB.out _).mono ?_; rintro e w2 ⟨rfl, hb2⟩
          rw [HB'.out, Hr.out]
          go_wp2
          refine ⟨⟨U / 10, B', [digc r], by omega, by have := HU.out; omega, HD1.out.1, HD1.out.2, rfl, rfl, rfl, ?_, hbr.trans (hb2.mono hbr.size)⟩, HM.out _⟩
          rw [HD.out]; (have q := HS.out; rw [HD2.out] at q; exact q)
    · have hU : U = 0 := by omega
      have hB : B = 0 := by omega
      have htn : t ≠ [] := fun h => hc (Or.inr (Or.inr h))
      subst hU; subst hB
      have he := wr_end (by simpa using HW.out) htn
      have HE := Lib.hid he; clear he hc
      have hte : t.isEmpty = false := by simpa using htn
      have h48 : (t == [48]) = false := by rw [HE.out]; simpa using dec_ne M (by have := HMM.out; omega)
      clear htn
      go_wp2
      all_goals
        go_ret
        refine ⟨?_, hbr⟩
        rw [show Lib.itoa (val a b) = 45 :: Lib.decDigits M from by unfold Lib.itoa; rw [if_pos (by omega), HMM.out], ← HE.out]
        rfl
theorem write_any (a b : Int) (ha : I64 a) (hb : I64 b) (w : World) :
    Calls Tryd.prog 28 #[two a b] w fun e w' => e = .returned (.string ⟨(Lib.itoa (val a b)).toArray⟩) ∧ Below w.heap.size w w' := by
  by_cases hv : val a b < 0
  · exact write_neg a b ha hb hv w
  · exact write_pos a b ha hb (by omega) w
end Go.Proofs.YtggbnjdbbomjoaaDoor
