/- What the reading functions of the laws on sorts say; a call's words in memory. -/
import Derived.Test.YtggbnjdbbomjoaaSorL
import Derived.Test.YtggbnjdbbomjoaaPSortsRisex1
import Derived.Test.YtggbnjdbbomjoaaPSortsRisex2
import Derived.Test.YtggbnjdbbomjoaaOpens
namespace Go.Proofs.Ytggbnjdbbomjoaa
open Go Go.RowKit Go.Proofs.YtggbnjdbbomjoaaW.PrintWords Go.Proofs.Ytggbnjdbbomjoaa.PSortsRise
theorem wrap_step {i : Int} {n : Nat} (h0 : 0 ≤ i) (h1 : i < n) (h2 : n ≤ maxLen) : wrap64 (i + 1) = i + 1 := by
  have : maxLen ≤ 9223372036854775807 := by decide
  unfold wrap64; omega
/-- of a tame list's call -/
def TameOp (x : S32) : Prop := x.f2.f0.size ≤ 2000 ∧ x.f2.f1.length ≤ 40
theorem tame_loop (l : List S32) (hw : l.length ≤ maxLen) : ∀ (m : Nat) (i : Nat), l.length - i = m → i ≤ l.length → ∃ k r, juristlaw05_tame.l0 k l i = some r ∧ (r = true → ∀ j, i ≤ j → j < l.length → TameOp (rd_T32 l j))
  | 0, i, g0, g1 => ⟨1, true, by rw [juristlaw05_tame.l0, if_neg (by omega)], fun _ j _ _ => by omega⟩
  | m + 1, i, g0, g1 => by
    have hlt : (i : Int) < l.length := by omega
    have hs := wrap_step (Int.natCast_nonneg i) hlt hw
    by_cases h1 : ((rd_T32 l i).f2.f0.size : Int) > 2000
    · exact ⟨1, false, by rw [juristlaw05_tame.l0, if_pos hlt, if_pos (by omega), if_pos h1], fun h => by cases h⟩
    by_cases h2 : ((rd_T32 l i).f2.f1.length : Int) > 40
    · exact ⟨1, false, by rw [juristlaw05_tame.l0, if_pos hlt, if_pos (by omega), if_neg h1, if_pos h2], fun h => by cases h⟩
    obtain ⟨k, r, h, hr⟩ := tame_loop l hw m (i + 1) (by omega) (by omega)
    refine ⟨k + 1, r, ?_, fun hrt j hj1 hj2 => ?_⟩
    · rw [juristlaw05_tame.l0, if_pos hlt, if_pos (by omega), if_neg h1, if_neg h2, hs]; exact h
    · by_cases e : j = i
      · subst e; exact ⟨by omega, by omega⟩
      · exact hr hrt j (by omega) hj2
theorem tame_says (l : List S32) (hw : l.length ≤ maxLen) (n : Int) : ∃ k r, juristlaw05_tame.f k l n = some r ∧ (r = true → (l.length : Int) ≤ n ∧ ∀ j : Nat, j < l.length → TameOp (rd_T32 l j)) := by
  by_cases h : (l.length : Int) > n
  · exact ⟨0, false, by rw [juristlaw05_tame.f, if_pos h], fun h => by cases h⟩
  obtain ⟨k, r, h1, h2⟩ := tame_loop l hw l.length 0 (by omega) (by omega)
  exact ⟨k, r, by rw [juristlaw05_tame.f, if_neg h]; exact h1, fun hr => ⟨by omega, fun j hj => h2 hr j (by omega) hj⟩⟩
theorem same_loop (n1 n2 : ByteArray) (la : List Int) (r1 r2 : Int) (d1 d2 : Bool) (hw : la.length ≤ maxLen) : ∀ (m : Nat) (i : Nat), la.length - i = m → i ≤ la.length → ∃ k, juristref05_SameFun.l0 k i n1 la r1 d1 n2 la r2 d2 = some true
  | 0, i, g0, g1 => ⟨1, by rw [juristref05_SameFun.l0, if_neg (by omega)]⟩
  | m + 1, i, g0, g1 => by
    have hlt : (i : Int) < la.length := by omega
    have hs := wrap_step (Int.natCast_nonneg i) hlt hw
    obtain ⟨k, h⟩ := same_loop n1 n2 la r1 r2 d1 d2 hw m (i + 1) (by omega) (by omega)
    exact ⟨k + 1, by rw [juristref05_SameFun.l0, if_pos hlt, if_pos (by omega), if_pos hlt, if_pos rfl, hs]; exact h⟩
theorem same_says (nm : ByteArray) (la : List Int) (r : Int) (d : Bool) (hw : la.length ≤ maxLen) : ∃ k, juristref05_SameFun.f k nm la r d nm la r d = some true := by
  obtain ⟨k, h⟩ := same_loop nm nm la r r d d hw la.length 0 (by omega) (by omega)
  refine ⟨k + 1, ?_⟩
  have e1 : (d != d) = false := by simp
  have e2 : ((la.length : Int) != (la.length : Int)) = false := by simp
  unfold juristref05_SameFun.f
  rw [if_pos rfl, if_pos rfl, e1, e2]
  simp only [Bool.false_eq_true, if_false]
  rw [juristref05_SameFun.j0]
  simp only [Bool.false_eq_true, if_false]
  exact h
theorem names_says (nm : ByteArray) (la : List Int) (r : Int) (d : Bool) (h : la.length ≤ 40) : juristlaw05_names.f nm la r d = some (nm, la, r, d) := by
  unfold juristlaw05_names.f juristref05_Copied.f
  have : ([] : List Int).length + la.length < 17592186044416 := by simp; omega
  simp only [Option.bind_some]
  rw [if_pos this]
  simp
theorem encs_map {α : Type} (enc : α → Value) (xs : List α) : encs enc xs = xs.map enc := rfl
/-- the k-th call in memory -/
structure OpAt (w : World) (x : S32) (bb oo : Nat) (A3 : Option Addr) (c3 : Nat) : Prop where
  k0 : w.cell? ⟨bb, oo, none⟩ = some (.int .i64 x.f0)
  k1 : w.cell? ⟨bb, oo + 1, none⟩ = some (.int .i64 x.f1)
  k2 : w.cell? ⟨bb, oo + 2, none⟩ = some (.string x.f2.f0)
  k3 : w.cell? ⟨bb, oo + 3, none⟩ = some (.slice A3 x.f2.f1.length c3)
  k4 : w.cell? ⟨bb, oo + 4, none⟩ = some (.int .i64 x.f2.f2)
  k5 : w.cell? ⟨bb, oo + 5, none⟩ = some (.bool x.f2.f3)
  le : x.f2.f1.length ≤ c3
  args : (Kd.int .i64).C w A3 x.f2.f1.length x.f2.f1
  lt : bb < w.heap.size
theorem op_at {w : World} {A : Option Addr} {l : List S32} (h : Kd.C k32 w A l.length l) (k : Nat) (hk : k < l.length) : ∃ ad bb oo A3 c3, A = some ad ∧ ad.add (k * 6) = ⟨bb, oo, none⟩ ∧ OpAt w (rd_T32 l k) bb oo A3 c3 := by
  obtain ⟨ad, c, e, _, hK, hc⟩ := Kd.C_get h z32 k (by omega) (by omega)
  rw [Int.toNat_natCast] at hc
  obtain ⟨A3, c3, rfl, l3, g3⟩ := k32_open hK
  have h0 := hc 0 _ rfl
  rw [Nat.add_zero] at h0
  obtain ⟨bb, oo, hadd⟩ : ∃ bb oo, ad.add (k * 6) = ⟨bb, oo, none⟩ := by
    rcases hq : ad.add (k * 6) with ⟨bb, oo, sp⟩
    cases sp with
    | none => exact ⟨bb, oo, rfl⟩
    | some s =>
      have h0' : w.cell? (ad.add (k * 6)) = some (.int .i64 (l.getD ((k : Int)).toNat z32).f0) := h0
      rw [hq] at h0'
      unfold World.cell? at h0'
      revert h0'
      simp only []
      split <;> intro h0' <;> simp at h0'
  have hadd' : ∀ j, ad.add (k * 6 + j) = ⟨bb, oo + j, none⟩ := fun j => by rw [← addr_add bb oo j, ← hadd]; exact (add_twice ad (k * 6) j).symm
  have q : ∀ j u, ([.int .i64 (rd_T32 l k).f0, .int .i64 (rd_T32 l k).f1, .string (rd_T32 l k).f2.f0, .slice A3 (rd_T32 l k).f2.f1.length c3, .int .i64 (rd_T32 l k).f2.f2, .bool (rd_T32 l k).f2.f3] : List Value)[j]? = some u → w.cell? ⟨bb, oo + j, none⟩ = some u := fun j u hu => by
    rw [← hadd' j]; exact hc j u hu
  have q0 := q 0 _ rfl
  rw [Nat.add_zero] at q0
  refine ⟨ad, bb, oo, A3, c3, e, hadd, ⟨q0, q 1 _ rfl, q 2 _ rfl, q 3 _ rfl, q 4 _ rfl, q 5 _ rfl, l3, g3, ?_⟩⟩
  exact World.block_lt_of_cell? w ⟨bb, oo, none⟩ q0
end Go.Proofs.Ytggbnjdbbomjoaa
