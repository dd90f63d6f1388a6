/- What the reading functions of SortsScopes and of the reference say; a call's words in memory. -/
import Derived.Test.YtggbnjdbbomjoaaSorL
import Derived.Test.YtggbnjdbbomjoaaLw
namespace Go.Proofs.Ytggbnjdbbomjoaa
open Go Go.RowKit Go.Proofs.YtggbnjdbbomjoaaW.PrintWords Go.Proofs.Ytggbnjdbbomjoaa.PSortsScopes
theorem wrap_step {i : Int} {n : Nat} (h0 : 0 ≤ i) (h1 : i < n) (h2 : n ≤ maxLen) : wrap64 (i + 1) = i + 1 := by
  have : maxLen ≤ 9223372036854775807 := by decide
  unfold wrap64; omega
/-- of a tame list's call -/
def TameOp (x : S32) : Prop := x.f2.f0.size ≤ 2000 ∧ x.f2.f1.length ≤ 40
theorem tame_loop (l : List S32) (hw : l.length ≤ maxLen) : ∀ (m : Nat) (i : Nat), l.length - i = m → i ≤ l.length → ∃ k r, juristlaw05_tame.l0 k l i = some r ∧ (r = true → ∀ j, i ≤ j → j < l.length → TameOp (rd_T32 l j))
  | 0, i, g0, g1 => ⟨1, true, by rw [juristlaw05_tame.l0, if_neg (by omega)], fun _ j _ _ => by omega⟩
  | m + 1, i, g0, g1 => by
    have hlt : (i : Int) < l.length := by omega
    have hs := wrap_step (Int.natCast_nonneg i) hlt hw
    by_cases h1 : ((rd_T32 l i).f2.f0.size : Int) > 2000
    · exact ⟨1, false, by rw [juristlaw05_tame.l0, if_pos hlt, if_pos (by omega), if_pos h1], fun h => by cases h⟩
    by_cases h2 : ((rd_T32 l i).f2.f1.length : Int) > 40
    · exact ⟨1, false, by rw [juristlaw05_tame.l0, if_pos hlt, if_pos (by omega), if_neg h1, if_pos h2], fun h => by cases h⟩
    obtain ⟨k, r, h, hr⟩ := tame_loop l hw m (i + 1) (by omega) (by omega)
    refine ⟨k + 1, r, ?_, fun hrt j hj1 hj2 => ?_⟩
    · rw [juristlaw05_tame.l0, if_pos hlt, if_pos (by omega), if_neg h1, if_neg h2, hs]; exact h
    · by_cases e : j = i
      · subst e; exact ⟨by omega, by omega⟩
      · exact hr hrt j (by omega) hj2
theorem tame_says (l : List S32) (hw : l.length ≤ maxLen) (n : Int) : ∃ k r, juristlaw05_tame.f k l n = some r ∧ (r = true → (l.length : Int) ≤ n ∧ ∀ j : Nat, j < l.length → TameOp (rd_T32 l j)) := by
  by_cases h : (l.length : Int) > n
  · exact ⟨0, false, by rw [juristlaw05_tame.f, if_pos h], fun h => by cases h⟩
  obtain ⟨k, r, h1, h2⟩ := tame_loop l hw l.length 0 (by omega) (by omega)
  exact ⟨k, r, by rw [juristlaw05_tame.f, if_neg h]; exact h1, fun hr => ⟨by omega, fun j hj => h2 hr j (by omega) hj⟩⟩
theorem copied_says (nm : ByteArray) (la : List Int) (r : Int) (d : Bool) (h : la.length ≤ 40) : juristref05_Copied.f nm la r d = some (nm, la, r, d) := by
  unfold juristref05_Copied.f
  have : ([] : List Int).length + la.length < 17592186044416 := by simp; omega
  simp only [Option.bind_some]
  rw [if_pos this]
  simp
theorem among_loop (s ws : ByteArray) (hw : ws.size ≤ 1000) : ∀ (m i : Nat) (fr : Nat), ws.size + 1 - i = m → fr ≤ i → i ≤ ws.size + 1 → ∃ k r, juristref05_among.l0 k s ws fr i = some r
  | 0, i, fr, g0, g1, g2 => ⟨1, false, by rw [juristref05_among.l0, if_neg (by omega)]⟩
  | m + 1, i, fr, g0, g1, g2 => by
    have hs : wrap64 ((i : Int) + 1) = ((i + 1 : Nat) : Int) := by unfold wrap64; omega
    obtain ⟨k1, r1, h1⟩ := among_loop s ws hw m (i + 1) fr (by omega) (by omega) (by omega)
    obtain ⟨k2, r2, h2⟩ := among_loop s ws hw m (i + 1) (i + 1) (by omega) (by omega) (by omega)
    have hj : ∀ b, ∃ k r, juristref05_among.j1 k s ws fr i b = some r := fun b => by
      cases b
      · exact ⟨k1 + 1, r1, by rw [juristref05_among.j1, if_neg (by decide), hs]; exact h1⟩
      · by_cases e : (ws.extract ((fr : Int)).toNat ((i : Int)).toNat).toList = s.toList
        · exact ⟨1, true, by rw [juristref05_among.j1, if_pos rfl, if_pos (by omega), if_pos (by omega), if_pos (by omega), if_pos e]⟩
        · exact ⟨k2 + 1, r2, by rw [juristref05_among.j1, if_pos rfl, if_pos (by omega), if_pos (by omega), if_pos (by omega), if_neg e, hs]; exact h2⟩
    by_cases e : (i : Int) = ws.size
    · obtain ⟨k, r, h⟩ := hj true
      exact ⟨k + 1, r, by rw [juristref05_among.l0, if_pos (by omega), if_pos e]; exact h⟩
    · obtain ⟨k, r, h⟩ := hj (bt ws i == 32)
      exact ⟨k + 1, r, by rw [juristref05_among.l0, if_pos (by omega), if_neg e, if_pos (by omega), if_pos (by omega)]; exact h⟩
theorem among_says (s ws : ByteArray) (hw : ws.size ≤ 1000) : ∃ k r, juristref05_among.f k s ws = some r := among_loop s ws hw _ 0 0 rfl (by omega) (by omega)
theorem may_loop (s : ByteArray) (b : Bool) (hs : s.size ≤ 1000) : ∀ (m i : Nat), s.size - i = m → i ≤ s.size → ∃ k r, juristref05_May.l0 k s b i = some r
  | 0, i, g0, g1 => by
    cases b
    · obtain ⟨k, r, h⟩ := among_says s (⟨#[116, 114, 117, 101, 32, 102, 97, 108, 115, 101, 32, 110, 111, 116, 32, 97, 110, 100, 32, 111, 114, 32, 120, 111, 114, 32, 61, 62, 32, 105, 116, 101, 32, 61, 32, 100, 105, 115, 116, 105, 110, 99, 116, 32, 43, 32, 45, 32, 42, 32, 60, 61, 32, 60, 32, 62, 61, 32, 62]⟩ : ByteArray) (by decide)
      exact ⟨k + 1, !r, by rw [juristref05_May.l0, if_neg (by omega), if_neg (by decide), h]; rfl⟩
    · obtain ⟨k, r, h⟩ := among_says s (⟨#[66, 111, 111, 108, 32, 73, 110, 116]⟩ : ByteArray) (by decide)
      exact ⟨k + 1, !r, by rw [juristref05_May.l0, if_neg (by omega), if_pos rfl, h]; rfl⟩
  | m + 1, i, g0, g1 => by
    have hw : wrap64 ((i : Int) + 1) = ((i + 1 : Nat) : Int) := by unfold wrap64; omega
    obtain ⟨k1, r1, h1⟩ := may_loop s b hs m (i + 1) (by omega) (by omega)
    by_cases e : bt s i = 32
    · exact ⟨1, true, by rw [juristref05_May.l0, if_pos (by omega), if_pos (by omega), if_pos e]⟩
    · exact ⟨k1 + 1, r1, by rw [juristref05_May.l0, if_pos (by omega), if_pos (by omega), if_neg e, hw]; exact h1⟩
theorem may_says (s : ByteArray) (b : Bool) : ∃ k r, juristref05_May.f k s b = some r := by
  have hj0 : ∃ k r, juristref05_May.j0 k s b true = some r := ⟨1, false, by rw [juristref05_May.j0, if_pos rfl]⟩
  unfold juristref05_May.f
  obtain ⟨k0, r0, h0⟩ := hj0
  by_cases e0 : (s.size : Int) = 0
  · exact ⟨k0, r0, by rw [if_pos e0]; exact h0⟩
  by_cases e1 : (s.size : Int) > 1000
  · exact ⟨k0, r0, by rw [if_neg e0, if_pos e1]; exact h0⟩
  by_cases e2 : bt s 0 = 46
  · exact ⟨k0, r0, by rw [if_neg e0, if_neg e1, if_pos (by omega), if_pos e2]; exact h0⟩
  by_cases e3 : bt s 0 = 64
  · exact ⟨k0, r0, by rw [if_neg e0, if_neg e1, if_pos (by omega), if_neg e2, if_pos e3]; exact h0⟩
  obtain ⟨k, r, h⟩ := among_says s (⟨#[95, 32, 33, 32, 97, 115, 32, 108, 101, 116, 32, 101, 120, 105, 115, 116, 115, 32, 102, 111, 114, 97, 108, 108, 32, 109, 97, 116, 99, 104, 32, 112, 97, 114, 32, 66, 73, 78, 65, 82, 89, 32, 68, 69, 67, 73, 77, 65, 76, 32, 72, 69, 88, 65, 68, 69, 67, 73, 77, 65, 76, 32, 78, 85, 77, 69, 82, 65, 76, 32, 83, 84, 82, 73, 78, 71]⟩ : ByteArray) (by decide)
  obtain ⟨k1, r1, h1⟩ : ∃ k r', juristref05_May.j0 k s b r = some r' := by
    cases r
    · obtain ⟨k, r, h⟩ := may_loop s b (by omega) _ 0 rfl (by omega)
      exact ⟨k + 1, r, by rw [juristref05_May.j0, if_neg (by decide)]; exact h⟩
    · exact ⟨1, false, by rw [juristref05_May.j0, if_pos rfl]⟩
  refine ⟨k + k1, r1, ?_⟩
  rw [if_neg e0, if_neg e1, if_pos (by omega), if_neg e2, if_neg e3, at_rounds (g := fun k => juristref05_among.f k s _) (fun k => juristref05_among.mono s _ k) (Nat.le_add_right k k1) h, Option.bind_some]
  exact at_rounds (g := fun k => juristref05_May.j0 k s b r) (fun k => (juristref05_May.mono_l k).1 s b r) (Nat.le_add_left k1 k) h1
theorem encs_map {α : Type} (enc : α → Value) (xs : List α) : encs enc xs = xs.map enc := rfl
/-- the k-th call in memory -/
structure OpAt (w : World) (x : S32) (bb oo : Nat) (A3 : Option Addr) (c3 : Nat) : Prop where
  k0 : w.cell? ⟨bb, oo, none⟩ = some (.int .i64 x.f0)
  k1 : w.cell? ⟨bb, oo + 1, none⟩ = some (.int .i64 x.f1)
  k2 : w.cell? ⟨bb, oo + 2, none⟩ = some (.string x.f2.f0)
  k3 : w.cell? ⟨bb, oo + 3, none⟩ = some (.slice A3 x.f2.f1.length c3)
  k4 : w.cell? ⟨bb, oo + 4, none⟩ = some (.int .i64 x.f2.f2)
  k5 : w.cell? ⟨bb, oo + 5, none⟩ = some (.bool x.f2.f3)
  le : x.f2.f1.length ≤ c3
  args : (Kd.int .i64).C w A3 x.f2.f1.length x.f2.f1
  lt : bb < w.heap.size
theorem op_at {w : World} {A : Option Addr} {l : List S32} (h : Kd.C k32 w A l.length l) (k : Nat) (hk : k < l.length) : ∃ ad bb oo A3 c3, A = some ad ∧ ad.add (k * 6) = ⟨bb, oo, none⟩ ∧ OpAt w (rd_T32 l k) bb oo A3 c3 := by
  obtain ⟨ad, c, e, _, hK, hc⟩ := Kd.C_get h z32 k (by omega) (by omega)
  rw [Int.toNat_natCast] at hc
  obtain ⟨A3, c3, rfl, l3, g3⟩ := k32_open hK
  have h0 := hc 0 _ rfl
  rw [Nat.add_zero] at h0
  obtain ⟨bb, oo, hadd⟩ : ∃ bb oo, ad.add (k * 6) = ⟨bb, oo, none⟩ := by
    rcases hq : ad.add (k * 6) with ⟨bb, oo, sp⟩
    cases sp with
    | none => exact ⟨bb, oo, rfl⟩
    | some s =>
      have h0' : w.cell? (ad.add (k * 6)) = some (.int .i64 (l.getD ((k : Int)).toNat z32).f0) := h0
      rw [hq] at h0'
      unfold World.cell? at h0'
      revert h0'
      simp only []
      split <;> intro h0' <;> simp at h0'
  have hadd' : ∀ j, ad.add (k * 6 + j) = ⟨bb, oo + j, none⟩ := fun j => by rw [← addr_add bb oo j, ← hadd]; exact (add_twice ad (k * 6) j).symm
  have q : ∀ j u, ([.int .i64 (rd_T32 l k).f0, .int .i64 (rd_T32 l k).f1, .string (rd_T32 l k).f2.f0, .slice A3 (rd_T32 l k).f2.f1.length c3, .int .i64 (rd_T32 l k).f2.f2, .bool (rd_T32 l k).f2.f3] : List Value)[j]? = some u → w.cell? ⟨bb, oo + j, none⟩ = some u := fun j u hu => by
    rw [← hadd' j]; exact hc j u hu
  have q0 := q 0 _ rfl
  rw [Nat.add_zero] at q0
  refine ⟨ad, bb, oo, A3, c3, e, hadd, ⟨q0, q 1 _ rfl, q 2 _ rfl, q 3 _ rfl, q 4 _ rfl, q 5 _ rfl, l3, g3, ?_⟩⟩
  exact World.block_lt_of_cell? w ⟨bb, oo, none⟩ q0
end Go.Proofs.Ytggbnjdbbomjoaa
