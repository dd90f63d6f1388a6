/- Walks of the laws' known. -/
import Derived.Test.YtggbnjdbbomjoaaDoorDigE
namespace Go.Proofs.YtggbnjdbbomjoaaDoor
open Go.RowKit
theorem read42 (w : World) (V : Vars w) : Calls Tryd.prog 10 #[.string ⟨#[52, 50]⟩] w fun e w' => e = .returned (.tuple #[.int .i64 42, .int .i64 0]) ∧ Below w.heap.size w w' := by
  have h := read_any ⟨#[52, 50]⟩ (by decide) w V
  have e : readP (ByteArray.mk #[52, 50]).data.toList = (42, 0) := by decide
  rw [e] at h
  exact h
theorem text42 (w : World) (V : Vars w) : Calls Tryd.prog 12 #[.int .i64 (-42)] w fun e w' => e = .returned (.string ⟨#[45, 52, 50]⟩) ∧ Below w.heap.size w w' := by
  have h := text_any (-42) ⟨by decide, by decide⟩ w V
  have e : (Lib.itoa (-42)).toArray = #[45, 52, 50] := by kernel_rfl
  rw [e] at h
  exact h
theorem of1 (w : World) : Calls Tryd.prog 21 #[.int .i64 (-1)] w fun e w' => e = .returned (two (-1) 4611686018427387903) ∧ Below w.heap.size w w' := of_any (-1) ⟨by decide, by decide⟩ w
theorem write1 (w : World) : Calls Tryd.prog 28 #[two 1 0] w fun e w' => e = .returned (.string ⟨#[52, 54, 49, 49, 54, 56, 54, 48, 49, 56, 52, 50, 55, 51, 56, 55, 57, 48, 52]⟩) ∧ Below w.heap.size w w' := by
  have h := write_any 1 0 ⟨by decide, by decide⟩ ⟨by decide, by decide⟩ w
  have e : (Lib.itoa (val 1 0)).toArray = #[52, 54, 49, 49, 54, 56, 54, 48, 49, 56, 52, 50, 55, 51, 56, 55, 57, 48, 52] := by kernel_rfl
  rw [e] at h
  exact h
set_option maxRecDepth 100000 in
set_option maxHeartbeats 1000000 in
theorem known_any (w : World) (V : Vars w) : Calls Tryd.prog 9 #[] w fun e w' => e = .returned (.bool true) ∧ Below w.heap.size w w' := by
  go_enter Tryd.func9, Tryd.ntmps9
  go_wp2_with fail
  refine (read42 w V).mono ?_
  rintro e w1 ⟨rfl, hb1⟩
  have V1 := V.on hb1 (Nat.le_refl _)
  go_wp2_with fail
  refine (text42 w1 V1).mono ?_
  rintro e w2 ⟨rfl, hb2⟩
  go_wp2_with fail
  refine (of1 w2).mono ?_
  rintro e w3 ⟨rfl, hb3⟩
  go_wp2_with fail
  refine (write1 _).mono ?_
  rintro e w4 ⟨rfl, hb4⟩
  go_wp2
  go_ret
  exact ⟨rfl, by (repeat (first | (with_reducible exact Below.refl _ _) | ((with_reducible refine Below.alloc ?_ ?_ _); rotate_left; focus (first | (simp; done) | (simp; omega) | (have q0 := hb4.size; (try simp at q0); have q1 := hb3.size; (try simp at q1); have q2 := hb2.size; (try simp at q2); have q3 := hb1.size; (try simp at q3); (try simp); omega))) | ((with_reducible refine Below.setCell ?_ ?_ _); rotate_left; focus (first | (simp; done) | (simp; omega) | (have q0 := hb4.size; (try simp at q0); have q1 := hb3.size; (try simp at q1); have q2 := hb2.size; (try simp at q2); have q3 := hb1.size; (try simp at q3); (try simp); omega))) | (with_reducible refine Below.drew ?_) | (with_reducible refine Below.drewN' ?_ _) | (with_reducible refine Below.trans ?_ (hb4.mono ?_); rotate_left; focus (first | (simp; done) | (simp; omega) | (have q0 := hb4.size; (try simp at q0); have q1 := hb3.size; (try simp at q1); have q2 := hb2.size; (try simp at q2); have q3 := hb1.size; (try simp at q3); (try simp); omega))) | (with_reducible refine Below.trans ?_ (hb3.mono ?_); rotate_left; focus (first | (simp; done) | (simp; omega) | (have q0 := hb4.size; (try simp at q0); have q1 := hb3.size; (try simp at q1); have q2 := hb2.size; (try simp at q2); have q3 := hb1.size; (try simp at q3); (try simp); omega))) | (with_reducible refine Below.trans ?_ (hb2.mono ?_); rotate_left; focus (first | (simp; done) | (simp; omega) | (have q0 := hb4.size; (try simp at q0); have q1 := hb3.size; (try simp at q1); have q2 := hb2.size; (try simp at q2); have q3 := hb1.size; (try simp at q3); (try simp); omega))) | (with_reducible refine Below.trans ?_ (hb1.mono ?_); rotate_left; focus (first | (simp; done) | (simp; omega) | (have q0 := hb4.size; (try simp at q0); have q1 := hb3.size; (try simp at q1); have q2 := hb2.size; (try simp at q2); have q3 := hb1.size; (try simp at q3); (try simp); omega)))))⟩
end Go.Proofs.YtggbnjdbbomjoaaDoor
