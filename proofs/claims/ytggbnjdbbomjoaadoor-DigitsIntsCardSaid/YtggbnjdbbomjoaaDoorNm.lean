/- Normal integers: the digits package's functions on them. -/
import Derived.Test.YtggbnjdbbomjoaaDoorKnown
namespace Go.Proofs.YtggbnjdbbomjoaaDoor
open Go.RowKit
theorem cell_on {B : Nat} {W w1 : World} (hb : Below B W w1) {b o : Nat} (h : b < B) {v : Value} (k : W.cell? ⟨b, o, none⟩ = some v) : w1.cell? ⟨b, o, none⟩ = some v := by
  rw [hb.cell (p := ⟨b, o, none⟩) h]; exact k
/-- what two words hold without a loss -/
def Rng (v : Int) : Prop := -9223372036854775808 * 4611686018427387904 ≤ v ∧ v < 9223372036854775808 * 4611686018427387904
theorem norm_of {v : Int} (h : Rng v) : normHi v = v / 4611686018427387904 ∧ normLo v = v % 4611686018427387904 := by
  obtain ⟨_, _⟩ := h
  unfold normHi normLo madeHi madeLo M62 minI maxI
  rw [if_neg (by omega), if_neg (by omega), if_neg (by omega), if_neg (by omega)]; exact ⟨rfl, rfl⟩
theorem val_norm {v : Int} (h : Rng v) : val (normHi v) (normLo v) = v := by
  rw [(norm_of h).1, (norm_of h).2]; unfold val M62; omega
theorem norm_i64 {v : Int} (h : Rng v) : I64 (normHi v) ∧ I64 (normLo v) := by
  rw [(norm_of h).1, (norm_of h).2]; obtain ⟨_, _⟩ := h; unfold I64; omega
theorem rng_of {v : Int} (h : I64 v) : Rng v := by obtain ⟨_, _⟩ := h; unfold Rng; omega
theorem rng_add {a b : Int} (ha : I64 a) (hb : I64 b) : Rng (a + b) := by obtain ⟨_, _⟩ := ha; obtain ⟨_, _⟩ := hb; unfold Rng; omega
/-- two normal integers are one just if their values are -/
theorem norm_inj {u v : Int} (hu : Rng u) (hv : Rng v) : ((normHi u == normHi v) && (normLo u == normLo v)) = decide (u = v) := by
  by_cases e : u = v
  · subst e; simp
  · have h1 := val_norm hu; have h2 := val_norm hv
    rw [decide_eq_false e]
    by_cases q : normHi u = normHi v
    · by_cases q2 : normLo u = normLo v
      · exact absurd (by rw [← h1, ← h2, q, q2]) e
      · simp [q, q2]
    · simp [q]
/-- the normal integer of v lies in two words -/
def Nv (v h l : Int) : Prop := Rng v ∧ normHi v = h ∧ normLo v = l
theorem nv_ex {v : Int} (h : Rng v) : ∃ a b, Nv v a b := ⟨_, _, h, rfl, rfl⟩
theorem nv_inj {u v h l h' l' : Int} (A : Nv u h l) (B : Nv v h' l') : ((h == h') && (l == l')) = decide (u = v) := by
  obtain ⟨hu, rfl, rfl⟩ := A; obtain ⟨hv, rfl, rfl⟩ := B; exact norm_inj hu hv
theorem ofN {n h l : Int} (i : I64 n) (A : Nv n h l) (w : World) : Calls Tryd.prog 21 #[.int .i64 n] w fun e w' => e = .returned (two h l) ∧ Below w.heap.size w w' := by
  obtain ⟨hu, rfl, rfl⟩ := A; exact of_any n i w
theorem normalN {a b h l : Int} (ha : I64 a) (hb : I64 b) (A : Nv (val a b) h l) (w : World) : Calls Tryd.prog 23 #[two a b] w fun e w' => e = .returned (two h l) ∧ Below w.heap.size w w' := by
  obtain ⟨hu, rfl, rfl⟩ := A; exact normal_any a b ha hb w
theorem plusN {u v s h l h' l' x y : Int} (A : Nv u h l) (B : Nv v h' l') (C : Nv s x y) (e : u + v = s) (w : World) : Calls Tryd.prog 24 #[two h l, two h' l'] w fun e w' => e = .returned (two x y) ∧ Below w.heap.size w w' := by
  obtain ⟨hu, rfl, rfl⟩ := A; obtain ⟨hv, rfl, rfl⟩ := B; obtain ⟨hs, rfl, rfl⟩ := C
  have h := plus_any (normHi u) (normLo u) (normHi v) (normLo v) (norm_i64 hu).1 (norm_i64 hu).2 (norm_i64 hv).1 (norm_i64 hv).2 w
  rw [val_norm hu, val_norm hv, e] at h
  exact h
theorem minusN {u v s h l h' l' x y : Int} (A : Nv u h l) (B : Nv v h' l') (C : Nv s x y) (e : u - v = s) (w : World) : Calls Tryd.prog 25 #[two h l, two h' l'] w fun e w' => e = .returned (two x y) ∧ Below w.heap.size w w' := by
  obtain ⟨hu, rfl, rfl⟩ := A; obtain ⟨hv, rfl, rfl⟩ := B; obtain ⟨hs, rfl, rfl⟩ := C
  have h := minus_any (normHi u) (normLo u) (normHi v) (normLo v) (norm_i64 hu).1 (norm_i64 hu).2 (norm_i64 hv).1 (norm_i64 hv).2 w
  rw [val_norm hu, val_norm hv, e] at h
  exact h
theorem lessN {u v h l h' l' : Int} (A : Nv u h l) (B : Nv v h' l') (w : World) : Calls Tryd.prog 26 #[two h l, two h' l'] w fun e w' => e = .returned (.bool (decide (u < v))) ∧ Below w.heap.size w w' := by
  obtain ⟨hu, rfl, rfl⟩ := A; obtain ⟨hv, rfl, rfl⟩ := B
  have h := less_any (normHi u) (normLo u) (normHi v) (normLo v) (norm_i64 hu).1 (norm_i64 hu).2 (norm_i64 hv).1 (norm_i64 hv).2 w
  rw [val_norm hu, val_norm hv] at h
  exact h
theorem writeN {v h l : Int} (A : Nv v h l) {s : ByteArray} (e : (⟨(Lib.itoa v).toArray⟩ : ByteArray) = s) (w : World) : Calls Tryd.prog 28 #[two h l] w fun e w' => e = .returned (.string s) ∧ Below w.heap.size w w' := by
  obtain ⟨hv, rfl, rfl⟩ := A
  have h := write_any (normHi v) (normLo v) (norm_i64 hv).1 (norm_i64 hv).2 w
  rw [val_norm hv, e] at h
  exact h
theorem textN {n : Int} (h : I64 n) {s : ByteArray} (e : (⟨(Lib.itoa n).toArray⟩ : ByteArray) = s) (w : World) (V : Vars w) : Calls Tryd.prog 12 #[.int .i64 n] w fun e w' => e = .returned (.string s) ∧ Below w.heap.size w w' := by
  rw [← e]; exact text_any n h w V
/-- a sum's answer -/
def fitN (s : Int) : Int := if -9223372036854775808 ≤ s ∧ s ≤ 9223372036854775807 then s else 0
def fitB (s : Int) : Bool := decide (-9223372036854775808 ≤ s ∧ s ≤ 9223372036854775807)
theorem fitV_eq {s : Int} {e : Ending} (h : FitV s e) : e = .returned (.tuple #[.int .i64 (fitN s), .bool (fitB s)]) := by
  rcases h with ⟨h, rfl⟩ | ⟨h, rfl⟩
  · unfold I64 at h; unfold fitN fitB; rw [if_pos h, decide_eq_true h]
  · unfold I64 at h; unfold fitN fitB; rw [if_neg h, decide_eq_false h]
theorem fit_i64 (s : Int) : I64 (fitN s) := by unfold fitN; split; assumption; exact ⟨by decide, by decide⟩
theorem addF (a b s : Int) (ha : I64 a) (hb : I64 b) (hs : a + b = s) (w : World) : Calls Tryd.prog 15 #[.int .i64 a, .int .i64 b] w fun e w' => e = .returned (.tuple #[.int .i64 (fitN s), .bool (fitB s)]) ∧ w = w' :=
  (add_any a b ha hb w).mono fun _ _ h => ⟨by rw [← hs]; exact fitV_eq h.1, h.2⟩
theorem subF (a b s : Int) (ha : I64 a) (hb : I64 b) (hs : a - b = s) (w : World) : Calls Tryd.prog 16 #[.int .i64 a, .int .i64 b] w fun e w' => e = .returned (.tuple #[.int .i64 (fitN s), .bool (fitB s)]) ∧ w = w' :=
  (sub_any a b ha hb w).mono fun _ _ h => ⟨by rw [← hs]; exact fitV_eq h.1, h.2⟩
end Go.Proofs.YtggbnjdbbomjoaaDoor
