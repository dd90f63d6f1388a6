/- WorldNone: the walk. -/
import Derived.Test.YtlhbgpjimopjeaaGreatEvWn
import Derived.Test.YtlhbgpjimopjeaaGreatEvWw
import Derived.Test.YtlhbgpjimopjeaaGreatWnT
import Derived.Test.YtlhbgpjimopjeaaGreatLib
namespace Go.Proofs.YtlhbgpjimopjeaaGreat
open Go.RowKit
theorem cell_at {b o : Nat} {w w1 : World} {v : Value} (hb : Below w.heap.size w w1) (h : b < w.heap.size) (k : w.cell? ⟨b, o, none⟩ = some v) : w1.cell? ⟨b, o, none⟩ = some v := (hb.cell (p := ⟨b, o, none⟩) h).trans k
theorem known_calls (w : World) : Calls Tryz.prog 17 #[] w fun e w' => e = .returned (.bool true) ∧ Below w.heap.size w w' :=
  calls_run tabOk worldKnown_run (fun σ => by simp only [VRs])
set_option maxRecDepth 100000 in
set_option maxHeartbeats 1000000 in
theorem worldNone_any (A0 A1 : Option Addr) (n0 c0 n1 c1 : Nat) (t : Int) (b : Bool) (w : World)
    (ht : ∀ w1, Below w.heap.size w w1 → Calls Tryz.prog 16 #[.slice none 0 0, .slice none 0 0, .agg #[.slice A0 n0 c0, .slice A1 n1 c1]] w1 fun e w' => e = .returned (.bool b) ∧ Below w1.heap.size w1 w') :
    Calls Tryz.prog 5 #[.agg #[.slice A0 n0 c0, .slice A1 n1 c1], .int .i64 t] w fun e w' => e = .returned (.bool true) ∧ Below w.heap.size w w' := by
  have HT := Lib.hid ht
  clear ht
  go_enter Tryz.func5, Tryz.ntmps5
  go_wp2_with fail
  refine (HT.out _ (by (repeat (first | (with_reducible exact Below.refl _ _) | ((with_reducible refine Below.alloc ?_ ?_ _); rotate_left; focus (first | (simp; done) | (simp; omega))) | ((with_reducible refine Below.setCell ?_ ?_ _); rotate_left; focus (first | (simp; done) | (simp; omega))) | (with_reducible refine Below.drew ?_) | (with_reducible refine Below.drewN' ?_ _))))).mono ?_; rintro e w1 ⟨rfl, hb1⟩
  clear HT
  obtain ⟨hc1, hf1⟩ := bcell hb1
  have k0 := hc1 w.heap.size 0 (by simp); have k1 := hc1 w.heap.size 1 (by simp); simp at k0 k1
  have zn : w.heap.size < w1.heap.size := by have := hb1.size; simp at this; omega
  have hbz : Below w.heap.size w w1 := by (repeat (first | (with_reducible exact Below.refl _ _) | ((with_reducible refine Below.alloc ?_ ?_ _); rotate_left; focus (first | (simp; done) | (simp; omega) | (have q0 := hb1.size; (try simp at q0); (try simp); omega))) | ((with_reducible refine Below.setCell ?_ ?_ _); rotate_left; focus (first | (simp; done) | (simp; omega) | (have q0 := hb1.size; (try simp at q0); (try simp); omega))) | (with_reducible refine Below.drew ?_) | (with_reducible refine Below.drewN' ?_ _) | (with_reducible refine Below.trans ?_ (hb1.mono ?_); rotate_left; focus (first | (simp; done) | (simp; omega) | (have q0 := hb1.size; (try simp at q0); (try simp); omega)))))
  clear hc1 hf1 hb1
  cases b
  · go_wp2_with fail
    refine (known_calls _).mono ?_; rintro e wn ⟨rfl, hbn⟩
    replace hbz := hbz.trans (hbn.mono (by omega))
    go_wp2_with fail
    go_ret
    exact ⟨rfl, hbz⟩
  · go_wp2_with fail
    refine worldValue_nil.mono ?_; rintro e w2 ⟨rfl, hb2⟩
    have hbx : Below w1.heap.size w1 w2 := by (repeat (first | (with_reducible exact Below.refl _ _) | ((with_reducible refine Below.alloc ?_ ?_ _); rotate_left; focus (first | (simp; done) | (simp; omega) | (have q0 := hb2.size; (try simp at q0); (try simp); omega))) | ((with_reducible refine Below.setCell ?_ ?_ _); rotate_left; focus (first | (simp; done) | (simp; omega) | (have q0 := hb2.size; (try simp at q0); (try simp); omega))) | (with_reducible refine Below.drew ?_) | (with_reducible refine Below.drewN' ?_ _) | (with_reducible refine Below.trans ?_ (hb2.mono ?_); rotate_left; focus (first | (simp; done) | (simp; omega) | (have q0 := hb2.size; (try simp at q0); (try simp); omega)))))
    replace k0 := cell_at hbx zn k0; replace k1 := cell_at hbx zn k1; replace hbz := hbz.trans (hbx.mono (by omega)); replace zn := Nat.lt_of_lt_of_le zn hbx.size; clear hbx hb2
    go_wp2_with fail
    refine worldValues_nil.mono ?_; rintro e w3 ⟨rfl, hb3⟩
    have hbx : Below w2.heap.size w2 w3 := by (repeat (first | (with_reducible exact Below.refl _ _) | ((with_reducible refine Below.alloc ?_ ?_ _); rotate_left; focus (first | (simp; done) | (simp; omega) | (have q0 := hb3.size; (try simp at q0); (try simp); omega))) | ((with_reducible refine Below.setCell ?_ ?_ _); rotate_left; focus (first | (simp; done) | (simp; omega) | (have q0 := hb3.size; (try simp at q0); (try simp); omega))) | (with_reducible refine Below.drew ?_) | (with_reducible refine Below.drewN' ?_ _) | (with_reducible refine Below.trans ?_ (hb3.mono ?_); rotate_left; focus (first | (simp; done) | (simp; omega) | (have q0 := hb3.size; (try simp at q0); (try simp); omega)))))
    replace k0 := cell_at hbx zn k0; replace k1 := cell_at hbx zn k1; replace hbz := hbz.trans (hbx.mono (by omega)); replace zn := Nat.lt_of_lt_of_le zn hbx.size; clear hbx hb3
    go_wp2_with fail
    refine worldHolds_nil.mono ?_; rintro e w4 ⟨rfl, hb4⟩
    have hbx : Below w3.heap.size w3 w4 := by (repeat (first | (with_reducible exact Below.refl _ _) | ((with_reducible refine Below.alloc ?_ ?_ _); rotate_left; focus (first | (simp; done) | (simp; omega) | (have q0 := hb4.size; (try simp at q0); (try simp); omega))) | ((with_reducible refine Below.setCell ?_ ?_ _); rotate_left; focus (first | (simp; done) | (simp; omega) | (have q0 := hb4.size; (try simp at q0); (try simp); omega))) | (with_reducible refine Below.drew ?_) | (with_reducible refine Below.drewN' ?_ _) | (with_reducible refine Below.trans ?_ (hb4.mono ?_); rotate_left; focus (first | (simp; done) | (simp; omega) | (have q0 := hb4.size; (try simp at q0); (try simp); omega)))))
    replace k0 := cell_at hbx zn k0; replace k1 := cell_at hbx zn k1; replace hbz := hbz.trans (hbx.mono (by omega)); replace zn := Nat.lt_of_lt_of_le zn hbx.size; clear hbx hb4
    go_wp2_with fail
    refine (known_calls _).mono ?_; rintro e w5 ⟨rfl, hb5⟩
    have hbx : Below w4.heap.size w4 w5 := by (repeat (first | (with_reducible exact Below.refl _ _) | ((with_reducible refine Below.alloc ?_ ?_ _); rotate_left; focus (first | (simp; done) | (simp; omega) | (have q0 := hb5.size; (try simp at q0); (try simp); omega))) | ((with_reducible refine Below.setCell ?_ ?_ _); rotate_left; focus (first | (simp; done) | (simp; omega) | (have q0 := hb5.size; (try simp at q0); (try simp); omega))) | (with_reducible refine Below.drew ?_) | (with_reducible refine Below.drewN' ?_ _) | (with_reducible refine Below.trans ?_ (hb5.mono ?_); rotate_left; focus (first | (simp; done) | (simp; omega) | (have q0 := hb5.size; (try simp at q0); (try simp); omega)))))
    replace k0 := cell_at hbx zn k0; replace k1 := cell_at hbx zn k1; replace hbz := hbz.trans (hbx.mono (by omega)); replace zn := Nat.lt_of_lt_of_le zn hbx.size; clear hbx hb5
    go_wp2_with fail
    go_ret
    exact ⟨rfl, hbz⟩
end Go.Proofs.YtlhbgpjimopjeaaGreat
