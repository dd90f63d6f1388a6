-- PRINTED BY print.sh 35421559b90ae4d0a3588c463048766b98c2df88dd9212a6774a882060cdf62d: not written by this session
import Derived.Test.YtmlkfgoiakcnhaaGreatDoorPStackNonex0
import Derived.Test.YtmlkfgoiakcnhaaGreatDoorPStackNonex2
namespace Go.Proofs.YtmlkfgoiakcnhaaGreatDoor.PStackNone
open Go.RowKit Go.Proofs.YtmlkfgoiakcnhaaGreatDoorW.PrintWords Go.Proofs.YtmlkfgoiakcnhaaGreatDoorW.PrintLast Go.Proofs.YtmlkfgoiakcnhaaGreatDoorW.PrintMore
attribute [local go_sem] max2_int min2_int max_two min_two max_three min_three max_four min_four   -- for this text's walks alone
set_option linter.unusedVariables false
set_option linter.unusedSimpArgs false

/-! ### juristref03_number: function 69 -/
def juristref03_number.l0 : Nat → ByteArray → Int → Option (Bool)
  | 0, _, _ => none
  | k + 1, x0, x3 => if x3 < (x0.size : Int) then (if 0 ≤ x3 then ((juristref03_digit.f (bt x0 x3)).bind fun t125 => (if t125 = true then (if (bt x0 x3) = 48 then (if 0 < (x0.size : Int) then (if (bt x0 0) = 120 then (juristref03_number.l0 k x0 (wrap64 (x3 + 1))) else (if (bt x0 0) = 98 then (juristref03_number.l0 k x0 (wrap64 (x3 + 1))) else (some false))) else (none)) else (if 0 < (x0.size : Int) then (if (bt x0 0) = 120 then (juristref03_number.l0 k x0 (wrap64 (x3 + 1))) else (if (bt x0 0) = 98 then (if ((bt x0 x3) = 49) then (juristref03_number.l0 k x0 (wrap64 (x3 + 1))) else (some false)) else (some false))) else (none))) else (if (bt x0 x3) ≥ 97 then (if (bt x0 x3) ≤ 102 then (if (bt x0 x3) = 48 then (if 0 < (x0.size : Int) then (if (bt x0 0) = 120 then (juristref03_number.l0 k x0 (wrap64 (x3 + 1))) else (if (bt x0 0) = 98 then (juristref03_number.l0 k x0 (wrap64 (x3 + 1))) else (some false))) else (none)) else (if 0 < (x0.size : Int) then (if (bt x0 0) = 120 then (juristref03_number.l0 k x0 (wrap64 (x3 + 1))) else (if (bt x0 0) = 98 then (if ((bt x0 x3) = 49) then (juristref03_number.l0 k x0 (wrap64 (x3 + 1))) else (some false)) else (some false))) else (none))) else (if (bt x0 x3) ≥ 65 then (if (bt x0 x3) = 48 then (if 0 < (x0.size : Int) then (if (bt x0 0) = 120 then (if (bt x0 x3) ≤ 70 then (juristref03_number.l0 k x0 (wrap64 (x3 + 1))) else (if (bt x0 0) = 98 then (juristref03_number.l0 k x0 (wrap64 (x3 + 1))) else (some false))) else (if (bt x0 0) = 98 then (juristref03_number.l0 k x0 (wrap64 (x3 + 1))) else (some false))) else (none)) else (if 0 < (x0.size : Int) then (if (bt x0 0) = 120 then (if (bt x0 x3) ≤ 70 then (juristref03_number.l0 k x0 (wrap64 (x3 + 1))) else (if (bt x0 0) = 98 then (if ((bt x0 x3) = 49) then (juristref03_number.l0 k x0 (wrap64 (x3 + 1))) else (some false)) else (some false))) else (if (bt x0 0) = 98 then (if ((bt x0 x3) = 49) then (juristref03_number.l0 k x0 (wrap64 (x3 + 1))) else (some false)) else (some false))) else (none))) else (if (bt x0 x3) = 48 then (if 0 < (x0.size : Int) then (if (bt x0 0) = 120 then (if (bt x0 0) = 98 then (juristref03_number.l0 k x0 (wrap64 (x3 + 1))) else (some false)) else (if (bt x0 0) = 98 then (juristref03_number.l0 k x0 (wrap64 (x3 + 1))) else (some false))) else (none)) else (if 0 < (x0.size : Int) then (if (bt x0 0) = 120 then (if (bt x0 0) = 98 then (if ((bt x0 x3) = 49) then (juristref03_number.l0 k x0 (wrap64 (x3 + 1))) else (some false)) else (some false)) else (if (bt x0 0) = 98 then (if ((bt x0 x3) = 49) then (juristref03_number.l0 k x0 (wrap64 (x3 + 1))) else (some false)) else (some false))) else (none))))) else (if (bt x0 x3) ≥ 65 then (if (bt x0 x3) = 48 then (if 0 < (x0.size : Int) then (if (bt x0 0) = 120 then (if (bt x0 x3) ≤ 70 then (juristref03_number.l0 k x0 (wrap64 (x3 + 1))) else (if (bt x0 0) = 98 then (juristref03_number.l0 k x0 (wrap64 (x3 + 1))) else (some false))) else (if (bt x0 0) = 98 then (juristref03_number.l0 k x0 (wrap64 (x3 + 1))) else (some false))) else (none)) else (if 0 < (x0.size : Int) then (if (bt x0 0) = 120 then (if (bt x0 x3) ≤ 70 then (juristref03_number.l0 k x0 (wrap64 (x3 + 1))) else (if (bt x0 0) = 98 then (if ((bt x0 x3) = 49) then (juristref03_number.l0 k x0 (wrap64 (x3 + 1))) else (some false)) else (some false))) else (if (bt x0 0) = 98 then (if ((bt x0 x3) = 49) then (juristref03_number.l0 k x0 (wrap64 (x3 + 1))) else (some false)) else (some false))) else (none))) else (if (bt x0 x3) = 48 then (if 0 < (x0.size : Int) then (if (bt x0 0) = 120 then (if (bt x0 0) = 98 then (juristref03_number.l0 k x0 (wrap64 (x3 + 1))) else (some false)) else (if (bt x0 0) = 98 then (juristref03_number.l0 k x0 (wrap64 (x3 + 1))) else (some false))) else (none)) else (if 0 < (x0.size : Int) then (if (bt x0 0) = 120 then (if (bt x0 0) = 98 then (if ((bt x0 x3) = 49) then (juristref03_number.l0 k x0 (wrap64 (x3 + 1))) else (some false)) else (some false)) else (if (bt x0 0) = 98 then (if ((bt x0 x3) = 49) then (juristref03_number.l0 k x0 (wrap64 (x3 + 1))) else (some false)) else (some false))) else (none))))))) else (none)) else (some true)
def juristref03_number.f (k : Nat) (a0 : ByteArray) : Option (Bool) := if (a0.size : Int) < 2 then (some false) else (juristref03_number.l0 k a0 1)
theorem juristref03_number.mono_l : ∀ k, (∀ y0 y1, LeO (juristref03_number.l0 k y0 y1) (juristref03_number.l0 (k + 1) y0 y1))
  | 0 => fun _ _ r h => by simp [juristref03_number.l0] at h
  | k + 1 => by
    have ih0 := juristref03_number.mono_l k
    · intro y0 y1
      unfold juristref03_number.l0
      repeat' first
      | (with_reducible exact ih0 _ _)
      | (with_reducible exact LeO.refl _)
      | (with_reducible exact LeO.none _)
      | (with_reducible refine LeO.ite ?_ ?_)
      | (with_reducible refine LeO.bind ?_ (fun _ => ?_))
      | exact ih0 _ _
      | exact LeO.none _
      | refine LeO.ite ?_ ?_
      | refine LeO.bind ?_ (fun _ => ?_)
theorem juristref03_number.mono : ∀ a0 k, LeO (juristref03_number.f k a0) (juristref03_number.f (k + 1) a0) := by
  intro a0 k
  have ih0 := juristref03_number.mono_l k
  unfold juristref03_number.f
  repeat' first
      | (with_reducible exact ih0 _ _)
      | (with_reducible exact LeO.refl _)
      | (with_reducible exact LeO.none _)
      | (with_reducible refine LeO.ite ?_ ?_)
      | (with_reducible refine LeO.bind ?_ (fun _ => ?_))
      | exact ih0 _ _
      | exact LeO.none _
      | refine LeO.ite ?_ ?_
      | refine LeO.bind ?_ (fun _ => ?_)
set_option maxHeartbeats 8000000 in
set_option maxRecDepth 100000 in
theorem juristref03_number.calls (k : Nat) (a0 : ByteArray) (r : Bool) (w : World) (h : juristref03_number.f k a0 = some r) :
    Calls Tryz.prog 69 #[.string a0] w fun e w' => e = .returned (.bool r) ∧ Drawn0 w w' := by
  have H : (if (a0.size : Int) < 2 then (some false) else (juristref03_number.l0 k a0 1)) = some r := h
  clear h
  by_cases c2 : (a0.size : Int) < 2
  · rw [if_pos c2] at H
    have c2b0 : decide ((a0.size : Int) < 2) = true := decide_eq_true c2
    have c2b1 : decide (a0.size < 2) = true := decide_eq_true (by omega)
    clear c2
    obtain rfl := Option.some.inj H
    go_enter Tryz.func69, Tryz.ntmps69
    go_wp2
    go_ret
    exact ⟨by first | rfl | (simp; done) | (simp [*]; done), by repeat (first | exact Drawn0.refl _ | apply Drawn0.step)⟩
  · rw [if_neg c2] at H
    have c2b0 : decide ((a0.size : Int) < 2) = false := decide_eq_false c2
    have c2b1 : decide (a0.size < 2) = false := decide_eq_false (by omega)
    clear c2
    have H' := Aside0.mk H
    clear H
    go_enter Tryz.func69, Tryz.ntmps69
    go_wp2
    go_loopg [3] k (fun kq v3 w' => ∃ (x3_1 : Int), v3 = .int .i64 x3_1 ∧ Aside0 (juristref03_number.l0 kq a0 x3_1 = some r) ∧ Aside0 (kq ≤ k) ∧ Drawn0 w w')
    case atStart => exact ⟨(1), (by first | rfl | (simp; done) | (simp [*]; done)), H', ⟨Nat.le_refl _⟩, by repeat (first | exact Drawn0.refl _ | apply Drawn0.step)⟩
    case round =>
      clear H'
      try clear c2
      try clear c2b0
      try clear c2b1
      try clear p2
      obtain ⟨x3_1, rfl, HA, HK1, ⟨m1, rfl⟩⟩ := hrel
      cases gk with
      | zero => exact absurd HA.out (by simp [juristref03_number.l0])
      | succ k1 =>
        have H := HA.out
        clear HA
        simp only [juristref03_number.l0] at H
        by_cases c3 : x3_1 < (a0.size : Int)
        · rw [if_pos c3] at H
          have c3b0 : decide (x3_1 < (a0.size : Int)) = true := decide_eq_true c3
          clear c3
          by_cases c4 : 0 ≤ x3_1
          · rw [if_pos c4] at H
            have c4b0 : decide (0 ≤ x3_1) = true := decide_eq_true c4
            clear c4
            replace H := Option.bind_eq_some_iff.mp H
            obtain ⟨t125, A60, H⟩ := H
            replace H : (if t125 = true then (if (bt a0 x3_1) = 48 then (if 0 < (a0.size : Int) then (if (bt a0 0) = 120 then (juristref03_number.l0 k1 a0 (wrap64 (x3_1 + 1))) else (if (bt a0 0) = 98 then (juristref03_number.l0 k1 a0 (wrap64 (x3_1 + 1))) else (some false))) else (none)) else (if 0 < (a0.size : Int) then (if (bt a0 0) = 120 then (juristref03_number.l0 k1 a0 (wrap64 (x3_1 + 1))) else (if (bt a0 0) = 98 then (if ((bt a0 x3_1) = 49) then (juristref03_number.l0 k1 a0 (wrap64 (x3_1 + 1))) else (some false)) else (some false))) else (none))) else (if (bt a0 x3_1) ≥ 97 then (if (bt a0 x3_1) ≤ 102 then (if (bt a0 x3_1) = 48 then (if 0 < (a0.size : Int) then (if (bt a0 0) = 120 then (juristref03_number.l0 k1 a0 (wrap64 (x3_1 + 1))) else (if (bt a0 0) = 98 then (juristref03_number.l0 k1 a0 (wrap64 (x3_1 + 1))) else (some false))) else (none)) else (if 0 < (a0.size : Int) then (if (bt a0 0) = 120 then (juristref03_number.l0 k1 a0 (wrap64 (x3_1 + 1))) else (if (bt a0 0) = 98 then (if ((bt a0 x3_1) = 49) then (juristref03_number.l0 k1 a0 (wrap64 (x3_1 + 1))) else (some false)) else (some false))) else (none))) else (if (bt a0 x3_1) ≥ 65 then (if (bt a0 x3_1) = 48 then (if 0 < (a0.size : Int) then (if (bt a0 0) = 120 then (if (bt a0 x3_1) ≤ 70 then (juristref03_number.l0 k1 a0 (wrap64 (x3_1 + 1))) else (if (bt a0 0) = 98 then (juristref03_number.l0 k1 a0 (wrap64 (x3_1 + 1))) else (some false))) else (if (bt a0 0) = 98 then (juristref03_number.l0 k1 a0 (wrap64 (x3_1 + 1))) else (some false))) else (none)) else (if 0 < (a0.size : Int) then (if (bt a0 0) = 120 then (if (bt a0 x3_1) ≤ 70 then (juristref03_number.l0 k1 a0 (wrap64 (x3_1 + 1))) else (if (bt a0 0) = 98 then (if ((bt a0 x3_1) = 49) then (juristref03_number.l0 k1 a0 (wrap64 (x3_1 + 1))) else (some false)) else (some false))) else (if (bt a0 0) = 98 then (if ((bt a0 x3_1) = 49) then (juristref03_number.l0 k1 a0 (wrap64 (x3_1 + 1))) else (some false)) else (some false))) else (none))) else (if (bt a0 x3_1) = 48 then (if 0 < (a0.size : Int) then (if (bt a0 0) = 120 then (if (bt a0 0) = 98 then (juristref03_number.l0 k1 a0 (wrap64 (x3_1 + 1))) else (some false)) else (if (bt a0 0) = 98 then (juristref03_number.l0 k1 a0 (wrap64 (x3_1 + 1))) else (some false))) else (none)) else (if 0 < (a0.size : Int) then (if (bt a0 0) = 120 then (if (bt a0 0) = 98 then (if ((bt a0 x3_1) = 49) then (juristref03_number.l0 k1 a0 (wrap64 (x3_1 + 1))) else (some false)) else (some false)) else (if (bt a0 0) = 98 then (if ((bt a0 x3_1) = 49) then (juristref03_number.l0 k1 a0 (wrap64 (x3_1 + 1))) else (some false)) else (some false))) else (none))))) else (if (bt a0 x3_1) ≥ 65 then (if (bt a0 x3_1) = 48 then (if 0 < (a0.size : Int) then (if (bt a0 0) = 120 then (if (bt a0 x3_1) ≤ 70 then (juristref03_number.l0 k1 a0 (wrap64 (x3_1 + 1))) else (if (bt a0 0) = 98 then (juristref03_number.l0 k1 a0 (wrap64 (x3_1 + 1))) else (some false))) else (if (bt a0 0) = 98 then (juristref03_number.l0 k1 a0 (wrap64 (x3_1 + 1))) else (some false))) else (none)) else (if 0 < (a0.size : Int) then (if (bt a0 0) = 120 then (if (bt a0 x3_1) ≤ 70 then (juristref03_number.l0 k1 a0 (wrap64 (x3_1 + 1))) else (if (bt a0 0) = 98 then (if ((bt a0 x3_1) = 49) then (juristref03_number.l0 k1 a0 (wrap64 (x3_1 + 1))) else (some false)) else (some false))) else (if (bt a0 0) = 98 then (if ((bt a0 x3_1) = 49) then (juristref03_number.l0 k1 a0 (wrap64 (x3_1 + 1))) else (some false)) else (some false))) else (none))) else (if (bt a0 x3_1) = 48 then (if 0 < (a0.size : Int) then (if (bt a0 0) = 120 then (if (bt a0 0) = 98 then (juristref03_number.l0 k1 a0 (wrap64 (x3_1 + 1))) else (some false)) else (if (bt a0 0) = 98 then (juristref03_number.l0 k1 a0 (wrap64 (x3_1 + 1))) else (some false))) else (none)) else (if 0 < (a0.size : Int) then (if (bt a0 0) = 120 then (if (bt a0 0) = 98 then (if ((bt a0 x3_1) = 49) then (juristref03_number.l0 k1 a0 (wrap64 (x3_1 + 1))) else (some false)) else (some false)) else (if (bt a0 0) = 98 then (if ((bt a0 x3_1) = 49) then (juristref03_number.l0 k1 a0 (wrap64 (x3_1 + 1))) else (some false)) else (some false))) else (none)))))) = some r := H
            have A6 := Aside0.mk A60
            clear A60
            by_cases c7 : t125 = true
            · subst c7
              have H1 : (if (bt a0 x3_1) = 48 then (if 0 < (a0.size : Int) then (if (bt a0 0) = 120 then (juristref03_number.l0 k1 a0 (wrap64 (x3_1 + 1))) else (if (bt a0 0) = 98 then (juristref03_number.l0 k1 a0 (wrap64 (x3_1 + 1))) else (some false))) else (none)) else (if 0 < (a0.size : Int) then (if (bt a0 0) = 120 then (juristref03_number.l0 k1 a0 (wrap64 (x3_1 + 1))) else (if (bt a0 0) = 98 then (if ((bt a0 x3_1) = 49) then (juristref03_number.l0 k1 a0 (wrap64 (x3_1 + 1))) else (some false)) else (some false))) else (none))) = some r := by rw [if_pos rfl] at H; exact H
              clear H
              have H := H1
              clear H1
              by_cases c8 : (bt a0 x3_1) = 48
              · rw [if_pos c8] at H
                have c8b0 : ((bt a0 x3_1) == 48) = true := beq_iff_eq.mpr c8
                have c8b1 : ((bt a0 x3_1) != 48) = false := bne_eq_false_iff_eq.mpr c8
                clear c8
                by_cases c9 : 0 < (a0.size : Int)
                · rw [if_pos c9] at H
                  have c9b0 : decide (0 < (a0.size : Int)) = true := decide_eq_true c9
                  have c9b1 : decide (0 < a0.size) = true := decide_eq_true (by omega)
                  clear c9
                  by_cases c11 : (bt a0 0) = 120
                  · rw [if_pos c11] at H
                    have c11b0 : ((bt a0 0) == 120) = true := beq_iff_eq.mpr c11
                    have c11b1 : ((bt a0 0) != 120) = false := bne_eq_false_iff_eq.mpr c11
                    clear c11
                    have H' := Aside0.mk H
                    clear H
                    have p5 : 0 ≤ (x3_1 : Int) := of_decide_eq_true (by first | (with_reducible assumption) | assumption)
                    have q5 : x3_1 < (a0.size : Int) := of_decide_eq_true (by first | (with_reducible assumption) | assumption)
                    have hx5 := bt_at a0 x3_1
                    replace p5 := eq_true p5
                    replace q5 := eq_true q5
                    go_wp2_with (first | ((with_reducible refine gate_callee (f := 70) rfl ?_); refine goesL_ (some 20) rfl rfl Tryz.func70 (by kernel_rfl) rfl #[.int .u8 (bt a0 x3_1)] rfl (by (try simp only [List.map_toArray, List.map_cons, List.map_nil]); first | done | rfl | (simp only [List.length_drop, List.length_take]; rfl)) ?_; (with_reducible refine (juristref03_digit.calls (bt a0 x3_1) true _ A6.out).mono ?_); rintro e w' ⟨rfl, ⟨nd, rfl⟩⟩; refine ⟨_, rfl, ?_⟩; have p10 : 0 ≤ (0 : Int) := (by omega); have q10 : 0 < a0.size := (by have : (0 : Int) < (a0.size : Int) := of_decide_eq_true (by first | (with_reducible assumption) | assumption); omega); have hx10 : ∀ h : 0 < a0.size, ((a0[0]'h).toNat : Int) = bt a0 0 := bt_at a0 0; clear p10; have qi10 : (0 < (a0.size : Int)) = True := eq_true (of_decide_eq_true (by first | (with_reducible assumption) | assumption)); replace q10 := eq_true q10))
                    go_roundg k1
                    case measure => have := HK1.out; omega
                    case rel => exact ⟨(wrap64 (x3_1 + 1)), (by first | rfl | (simp; done) | (simp [*]; done)), H', ⟨by have := HK1.out; omega⟩, by repeat (first | exact Drawn0.refl _ | apply Drawn0.step)⟩
                  · rw [if_neg c11] at H
                    have c11b0 : ((bt a0 0) == 120) = false := beq_eq_false_iff_ne.mpr c11
                    have c11b1 : ((bt a0 0) != 120) = true := bne_iff_ne.mpr c11
                    by_cases c13 : (bt a0 0) = 98
                    · rw [if_pos c13] at H
                      have c13b0 : ((bt a0 0) == 98) = true := beq_iff_eq.mpr c13
                      have c13b1 : ((bt a0 0) != 98) = false := bne_eq_false_iff_eq.mpr c13
                      clear c13
                      have H' := Aside0.mk H
                      clear H
                      have p5 : 0 ≤ (x3_1 : Int) := of_decide_eq_true (by first | (with_reducible assumption) | assumption)
                      have q5 : x3_1 < (a0.size : Int) := of_decide_eq_true (by first | (with_reducible assumption) | assumption)
                      have hx5 := bt_at a0 x3_1
                      replace p5 := eq_true p5
                      replace q5 := eq_true q5
                      go_wp2_with (first | ((with_reducible refine gate_callee (f := 70) rfl ?_); refine goesL_ (some 20) rfl rfl Tryz.func70 (by kernel_rfl) rfl #[.int .u8 (bt a0 x3_1)] rfl (by (try simp only [List.map_toArray, List.map_cons, List.map_nil]); first | done | rfl | (simp only [List.length_drop, List.length_take]; rfl)) ?_; (with_reducible refine (juristref03_digit.calls (bt a0 x3_1) true _ A6.out).mono ?_); rintro e w' ⟨rfl, ⟨nd, rfl⟩⟩; refine ⟨_, rfl, ?_⟩; have p10 : 0 ≤ (0 : Int) := (by omega); have q10 : 0 < a0.size := (by have : (0 : Int) < (a0.size : Int) := of_decide_eq_true (by first | (with_reducible assumption) | assumption); omega); have hx10 : ∀ h : 0 < a0.size, ((a0[0]'h).toNat : Int) = bt a0 0 := bt_at a0 0; clear p10; have qi10 : (0 < (a0.size : Int)) = True := eq_true (of_decide_eq_true (by first | (with_reducible assumption) | assumption)); replace q10 := eq_true q10; have p12 : 0 ≤ (0 : Int) := (by omega); have q12 : 0 < a0.size := (by have : (0 : Int) < (a0.size : Int) := of_decide_eq_true (by first | (with_reducible assumption) | assumption); omega); have hx12 : ∀ h : 0 < a0.size, ((a0[0]'h).toNat : Int) = bt a0 0 := bt_at a0 0; clear p12; have qi12 : (0 < (a0.size : Int)) = True := eq_true (of_decide_eq_true (by first | (with_reducible assumption) | assumption)); replace q12 := eq_true q12))
                      go_roundg k1
                      case measure => have := HK1.out; omega
                      case rel => exact ⟨(wrap64 (x3_1 + 1)), (by first | rfl | (simp; done) | (simp [*]; done)), H', ⟨by have := HK1.out; omega⟩, by repeat (first | exact Drawn0.refl _ | apply Drawn0.step)⟩
                    · rw [if_neg c13] at H
                      have c13b0 : ((bt a0 0) == 98) = false := beq_eq_false_iff_ne.mpr c13
                      have c13b1 : ((bt a0 0) != 98) = true := bne_iff_ne.mpr c13
                      obtain rfl := Option.some.inj H
                      have p5 : 0 ≤ (x3_1 : Int) := of_decide_eq_true (by first | (with_reducible assumption) | assumption)
                      have q5 : x3_1 < (a0.size : Int) := of_decide_eq_true (by first | (with_reducible assumption) | assumption)
                      have hx5 := bt_at a0 x3_1
                      replace p5 := eq_true p5
                      replace q5 := eq_true q5
                      go_wp2_with (first | ((with_reducible refine gate_callee (f := 70) rfl ?_); refine goesL_ (some 20) rfl rfl Tryz.func70 (by kernel_rfl) rfl #[.int .u8 (bt a0 x3_1)] rfl (by (try simp only [List.map_toArray, List.map_cons, List.map_nil]); first | done | rfl | (simp only [List.length_drop, List.length_take]; rfl)) ?_; (with_reducible refine (juristref03_digit.calls (bt a0 x3_1) true _ A6.out).mono ?_); rintro e w' ⟨rfl, ⟨nd, rfl⟩⟩; refine ⟨_, rfl, ?_⟩; have p10 : 0 ≤ (0 : Int) := (by omega); have q10 : 0 < a0.size := (by have : (0 : Int) < (a0.size : Int) := of_decide_eq_true (by first | (with_reducible assumption) | assumption); omega); have hx10 : ∀ h : 0 < a0.size, ((a0[0]'h).toNat : Int) = bt a0 0 := bt_at a0 0; clear p10; have qi10 : (0 < (a0.size : Int)) = True := eq_true (of_decide_eq_true (by first | (with_reducible assumption) | assumption)); replace q10 := eq_true q10; have p12 : 0 ≤ (0 : Int) := (by omega); have q12 : 0 < a0.size := (by have : (0 : Int) < (a0.size : Int) := of_decide_eq_true (by first | (with_reducible assumption) | assumption); omega); have hx12 : ∀ h : 0 < a0.size, ((a0[0]'h).toNat : Int) = bt a0 0 := bt_at a0 0; clear p12; have qi12 : (0 < (a0.size : Int)) = True := eq_true (of_decide_eq_true (by first | (with_reducible assumption) | assumption)); replace q12 := eq_true q12))
                      go_ret
                      exact ⟨by first | rfl | (simp; done) | (simp [*]; done), by repeat (first | exact Drawn0.refl _ | apply Drawn0.step)⟩
                · rw [if_neg c9] at H
                  exact absurd H (by simp)
              · rw [if_neg c8] at H
                have c8b0 : ((bt a0 x3_1) == 48) = false := beq_eq_false_iff_ne.mpr c8
                have c8b1 : ((bt a0 x3_1) != 48) = true := bne_iff_ne.mpr c8
                by_cases c14 : 0 < (a0.size : Int)
                · rw [if_pos c14] at H
                  have c14b0 : decide (0 < (a0.size : Int)) = true := decide_eq_true c14
                  have c14b1 : decide (0 < a0.size) = true := decide_eq_true (by omega)
                  clear c14
                  by_cases c16 : (bt a0 0) = 120
                  · rw [if_pos c16] at H
                    have c16b0 : ((bt a0 0) == 120) = true := beq_iff_eq.mpr c16
                    have c16b1 : ((bt a0 0) != 120) = false := bne_eq_false_iff_eq.mpr c16
                    clear c16
                    have H' := Aside0.mk H
                    clear H
                    have p5 : 0 ≤ (x3_1 : Int) := of_decide_eq_true (by first | (with_reducible assumption) | assumption)
                    have q5 : x3_1 < (a0.size : Int) := of_decide_eq_true (by first | (with_reducible assumption) | assumption)
                    have hx5 := bt_at a0 x3_1
                    replace p5 := eq_true p5
                    replace q5 := eq_true q5
                    go_wp2_with (first | ((with_reducible refine gate_callee (f := 70) rfl ?_); refine goesL_ (some 20) rfl rfl Tryz.func70 (by kernel_rfl) rfl #[.int .u8 (bt a0 x3_1)] rfl (by (try simp only [List.map_toArray, List.map_cons, List.map_nil]); first | done | rfl | (simp only [List.length_drop, List.length_take]; rfl)) ?_; (with_reducible refine (juristref03_digit.calls (bt a0 x3_1) true _ A6.out).mono ?_); rintro e w' ⟨rfl, ⟨nd, rfl⟩⟩; refine ⟨_, rfl, ?_⟩; have p15 : 0 ≤ (0 : Int) := (by omega); have q15 : 0 < a0.size := (by have : (0 : Int) < (a0.size : Int) := of_decide_eq_true (by first | (with_reducible assumption) | assumption); omega); have hx15 : ∀ h : 0 < a0.size, ((a0[0]'h).toNat : Int) = bt a0 0 := bt_at a0 0; clear p15; have qi15 : (0 < (a0.size : Int)) = True := eq_true (of_decide_eq_true (by first | (with_reducible assumption) | assumption)); replace q15 := eq_true q15))
                    go_roundg k1
                    case measure => have := HK1.out; omega
                    case rel => exact ⟨(wrap64 (x3_1 + 1)), (by first | rfl | (simp; done) | (simp [*]; done)), H', ⟨by have := HK1.out; omega⟩, by repeat (first | exact Drawn0.refl _ | apply Drawn0.step)⟩
                  · rw [if_neg c16] at H
                    have c16b0 : ((bt a0 0) == 120) = false := beq_eq_false_iff_ne.mpr c16
                    have c16b1 : ((bt a0 0) != 120) = true := bne_iff_ne.mpr c16
                    by_cases c18 : (bt a0 0) = 98
                    · rw [if_pos c18] at H
                      have c18b0 : ((bt a0 0) == 98) = true := beq_iff_eq.mpr c18
                      have c18b1 : ((bt a0 0) != 98) = false := bne_eq_false_iff_eq.mpr c18
                      clear c18
                      by_cases c19 : ((bt a0 x3_1) = 49)
                      · rw [if_pos c19] at H
                        have c19b0 : ((bt a0 x3_1) == 49) = true := beq_iff_eq.mpr c19
                        have c19b1 : ((bt a0 x3_1) != 49) = false := bne_eq_false_iff_eq.mpr c19
                        clear c19
                        have H' := Aside0.mk H
                        clear H
                        have p5 : 0 ≤ (x3_1 : Int) := of_decide_eq_true (by first | (with_reducible assumption) | assumption)
                        have q5 : x3_1 < (a0.size : Int) := of_decide_eq_true (by first | (with_reducible assumption) | assumption)
                        have hx5 := bt_at a0 x3_1
                        replace p5 := eq_true p5
                        replace q5 := eq_true q5
                        go_wp2_with (first | ((with_reducible refine gate_callee (f := 70) rfl ?_); refine goesL_ (some 20) rfl rfl Tryz.func70 (by kernel_rfl) rfl #[.int .u8 (bt a0 x3_1)] rfl (by (try simp only [List.map_toArray, List.map_cons, List.map_nil]); first | done | rfl | (simp only [List.length_drop, List.length_take]; rfl)) ?_; (with_reducible refine (juristref03_digit.calls (bt a0 x3_1) true _ A6.out).mono ?_); rintro e w' ⟨rfl, ⟨nd, rfl⟩⟩; refine ⟨_, rfl, ?_⟩; have p15 : 0 ≤ (0 : Int) := (by omega); have q15 : 0 < a0.size := (by have : (0 : Int) < (a0.size : Int) := of_decide_eq_true (by first | (with_reducible assumption) | assumption); omega); have hx15 : ∀ h : 0 < a0.size, ((a0[0]'h).toNat : Int) = bt a0 0 := bt_at a0 0; clear p15; have qi15 : (0 < (a0.size : Int)) = True := eq_true (of_decide_eq_true (by first | (with_reducible assumption) | assumption)); replace q15 := eq_true q15; have p17 : 0 ≤ (0 : Int) := (by omega); have q17 : 0 < a0.size := (by have : (0 : Int) < (a0.size : Int) := of_decide_eq_true (by first | (with_reducible assumption) | assumption); omega); have hx17 : ∀ h : 0 < a0.size, ((a0[0]'h).toNat : Int) = bt a0 0 := bt_at a0 0; clear p17; have qi17 : (0 < (a0.size : Int)) = True := eq_true (of_decide_eq_true (by first | (with_reducible assumption) | assumption)); replace q17 := eq_true q17))
                        go_roundg k1
                        case measure => have := HK1.out; omega
                        case rel => exact ⟨(wrap64 (x3_1 + 1)), (by first | rfl | (simp; done) | (simp [*]; done)), H', ⟨by have := HK1.out; omega⟩, by repeat (first | exact Drawn0.refl _ | apply Drawn0.step)⟩
                      · rw [if_neg c19] at H
                        have c19b0 : ((bt a0 x3_1) == 49) = false := beq_eq_false_iff_ne.mpr c19
                        have c19b1 : ((bt a0 x3_1) != 49) = true := bne_iff_ne.mpr c19
                        obtain rfl := Option.some.inj H
                        have p5 : 0 ≤ (x3_1 : Int) := of_decide_eq_true (by first | (with_reducible assumption) | assumption)
                        have q5 : x3_1 < (a0.size : Int) := of_decide_eq_true (by first | (with_reducible assumption) | assumption)
                        have hx5 := bt_at a0 x3_1
                        replace p5 := eq_true p5
                        replace q5 := eq_true q5
                        go_wp2_with (first | ((with_reducible refine gate_callee (f := 70) rfl ?_); refine goesL_ (some 20) rfl rfl Tryz.func70 (by kernel_rfl) rfl #[.int .u8 (bt a0 x3_1)] rfl (by (try simp only [List.map_toArray, List.map_cons, List.map_nil]); first | done | rfl | (simp only [List.length_drop, List.length_take]; rfl)) ?_; (with_reducible refine (juristref03_digit.calls (bt a0 x3_1) true _ A6.out).mono ?_); rintro e w' ⟨rfl, ⟨nd, rfl⟩⟩; refine ⟨_, rfl, ?_⟩; have p15 : 0 ≤ (0 : Int) := (by omega); have q15 : 0 < a0.size := (by have : (0 : Int) < (a0.size : Int) := of_decide_eq_true (by first | (with_reducible assumption) | assumption); omega); have hx15 : ∀ h : 0 < a0.size, ((a0[0]'h).toNat : Int) = bt a0 0 := bt_at a0 0; clear p15; have qi15 : (0 < (a0.size : Int)) = True := eq_true (of_decide_eq_true (by first | (with_reducible assumption) | assumption)); replace q15 := eq_true q15; have p17 : 0 ≤ (0 : Int) := (by omega); have q17 : 0 < a0.size := (by have : (0 : Int) < (a0.size : Int) := of_decide_eq_true (by first | (with_reducible assumption) | assumption); omega); have hx17 : ∀ h : 0 < a0.size, ((a0[0]'h).toNat : Int) = bt a0 0 := bt_at a0 0; clear p17; have qi17 : (0 < (a0.size : Int)) = True := eq_true (of_decide_eq_true (by first | (with_reducible assumption) | assumption)); replace q17 := eq_true q17))
                        go_ret
                        exact ⟨by first | rfl | (simp; done) | (simp [*]; done), by repeat (first | exact Drawn0.refl _ | apply Drawn0.step)⟩
                    · rw [if_neg c18] at H
                      have c18b0 : ((bt a0 0) == 98) = false := beq_eq_false_iff_ne.mpr c18
                      have c18b1 : ((bt a0 0) != 98) = true := bne_iff_ne.mpr c18
                      obtain rfl := Option.some.inj H
                      have p5 : 0 ≤ (x3_1 : Int) := of_decide_eq_true (by first | (with_reducible assumption) | assumption)
                      have q5 : x3_1 < (a0.size : Int) := of_decide_eq_true (by first | (with_reducible assumption) | assumption)
                      have hx5 := bt_at a0 x3_1
                      replace p5 := eq_true p5
                      replace q5 := eq_true q5
                      go_wp2_with (first | ((with_reducible refine gate_callee (f := 70) rfl ?_); refine goesL_ (some 20) rfl rfl Tryz.func70 (by kernel_rfl) rfl #[.int .u8 (bt a0 x3_1)] rfl (by (try simp only [List.map_toArray, List.map_cons, List.map_nil]); first | done | rfl | (simp only [List.length_drop, List.length_take]; rfl)) ?_; (with_reducible refine (juristref03_digit.calls (bt a0 x3_1) true _ A6.out).mono ?_); rintro e w' ⟨rfl, ⟨nd, rfl⟩⟩; refine ⟨_, rfl, ?_⟩; have p15 : 0 ≤ (0 : Int) := (by omega); have q15 : 0 < a0.size := (by have : (0 : Int) < (a0.size : Int) := of_decide_eq_true (by first | (with_reducible assumption) | assumption); omega); have hx15 : ∀ h : 0 < a0.size, ((a0[0]'h).toNat : Int) = bt a0 0 := bt_at a0 0; clear p15; have qi15 : (0 < (a0.size : Int)) = True := eq_true (of_decide_eq_true (by first | (with_reducible assumption) | assumption)); replace q15 := eq_true q15; have p17 : 0 ≤ (0 : Int) := (by omega); have q17 : 0 < a0.size := (by have : (0 : Int) < (a0.size : Int) := of_decide_eq_true (by first | (with_reducible assumption) | assumption); omega); have hx17 : ∀ h : 0 < a0.size, ((a0[0]'h).toNat : Int) = bt a0 0 := bt_at a0 0; clear p17; have qi17 : (0 < (a0.size : Int)) = True := eq_true (of_decide_eq_true (by first | (with_reducible assumption) | assumption)); replace q17 := eq_true q17))
                      go_ret
                      exact ⟨by first | rfl | (simp; done) | (simp [*]; done), by repeat (first | exact Drawn0.refl _ | apply Drawn0.step)⟩
                · rw [if_neg c14] at H
                  exact absurd H (by simp)
            · replace c7 := Bool.eq_false_iff.mpr c7
              subst c7
              have H1 : (if (bt a0 x3_1) ≥ 97 then (if (bt a0 x3_1) ≤ 102 then (if (bt a0 x3_1) = 48 then (if 0 < (a0.size : Int) then (if (bt a0 0) = 120 then (juristref03_number.l0 k1 a0 (wrap64 (x3_1 + 1))) else (if (bt a0 0) = 98 then (juristref03_number.l0 k1 a0 (wrap64 (x3_1 + 1))) else (some false))) else (none)) else (if 0 < (a0.size : Int) then (if (bt a0 0) = 120 then (juristref03_number.l0 k1 a0 (wrap64 (x3_1 + 1))) else (if (bt a0 0) = 98 then (if ((bt a0 x3_1) = 49) then (juristref03_number.l0 k1 a0 (wrap64 (x3_1 + 1))) else (some false)) else (some false))) else (none))) else (if (bt a0 x3_1) ≥ 65 then (if (bt a0 x3_1) = 48 then (if 0 < (a0.size : Int) then (if (bt a0 0) = 120 then (if (bt a0 x3_1) ≤ 70 then (juristref03_number.l0 k1 a0 (wrap64 (x3_1 + 1))) else (if (bt a0 0) = 98 then (juristref03_number.l0 k1 a0 (wrap64 (x3_1 + 1))) else (some false))) else (if (bt a0 0) = 98 then (juristref03_number.l0 k1 a0 (wrap64 (x3_1 + 1))) else (some false))) else (none)) else (if 0 < (a0.size : Int) then (if (bt a0 0) = 120 then (if (bt a0 x3_1) ≤ 70 then (juristref03_number.l0 k1 a0 (wrap64 (x3_1 + 1))) else (if (bt a0 0) = 98 then (if ((bt a0 x3_1) = 49) then (juristref03_number.l0 k1 a0 (wrap64 (x3_1 + 1))) else (some false)) else (some false))) else (if (bt a0 0) = 98 then (if ((bt a0 x3_1) = 49) then (juristref03_number.l0 k1 a0 (wrap64 (x3_1 + 1))) else (some false)) else (some false))) else (none))) else (if (bt a0 x3_1) = 48 then (if 0 < (a0.size : Int) then (if (bt a0 0) = 120 then (if (bt a0 0) = 98 then (juristref03_number.l0 k1 a0 (wrap64 (x3_1 + 1))) else (some false)) else (if (bt a0 0) = 98 then (juristref03_number.l0 k1 a0 (wrap64 (x3_1 + 1))) else (some false))) else (none)) else (if 0 < (a0.size : Int) then (if (bt a0 0) = 120 then (if (bt a0 0) = 98 then (if ((bt a0 x3_1) = 49) then (juristref03_number.l0 k1 a0 (wrap64 (x3_1 + 1))) else (some false)) else (some false)) else (if (bt a0 0) = 98 then (if ((bt a0 x3_1) = 49) then (juristref03_number.l0 k1 a0 (wrap64 (x3_1 + 1))) else (some false)) else (some false))) else (none))))) else (if (bt a0 x3_1) ≥ 65 then (if (bt a0 x3_1) = 48 then (if 0 < (a0.size : Int) then (if (bt a0 0) = 120 then (if (bt a0 x3_1) ≤ 70 then (juristref03_number.l0 k1 a0 (wrap64 (x3_1 + 1))) else (if (bt a0 0) = 98 then (juristref03_number.l0 k1 a0 (wrap64 (x3_1 + 1))) else (some false))) else (if (bt a0 0) = 98 then (juristref03_number.l0 k1 a0 (wrap64 (x3_1 + 1))) else (some false))) else (none)) else (if 0 < (a0.size : Int) then (if (bt a0 0) = 120 then (if (bt a0 x3_1) ≤ 70 then (juristref03_number.l0 k1 a0 (wrap64 (x3_1 + 1))) else (if (bt a0 0) = 98 then (if ((bt a0 x3_1) = 49) then (juristref03_number.l0 k1 a0 (wrap64 (x3_1 + 1))) else (some false)) else (some false))) else (if (bt a0 0) = 98 then (if ((bt a0 x3_1) = 49) then (juristref03_number.l0 k1 a0 (wrap64 (x3_1 + 1))) else (some false)) else (some false))) else (none))) else (if (bt a0 x3_1) = 48 then (if 0 < (a0.size : Int) then (if (bt a0 0) = 120 then (if (bt a0 0) = 98 then (juristref03_number.l0 k1 a0 (wrap64 (x3_1 + 1))) else (some false)) else (if (bt a0 0) = 98 then (juristref03_number.l0 k1 a0 (wrap64 (x3_1 + 1))) else (some false))) else (none)) else (if 0 < (a0.size : Int) then (if (bt a0 0) = 120 then (if (bt a0 0) = 98 then (if ((bt a0 x3_1) = 49) then (juristref03_number.l0 k1 a0 (wrap64 (x3_1 + 1))) else (some false)) else (some false)) else (if (bt a0 0) = 98 then (if ((bt a0 x3_1) = 49) then (juristref03_number.l0 k1 a0 (wrap64 (x3_1 + 1))) else (some false)) else (some false))) else (none))))) = some r := by rw [if_neg (show ¬ (false = true) by decide)] at H; exact H
              clear H
              have H := H1
              clear H1
              by_cases c20 : (bt a0 x3_1) ≥ 97
              · rw [if_pos c20] at H
                have c20b0 : decide (97 ≤ (bt a0 x3_1)) = true := decide_eq_true c20
                clear c20
                by_cases c21 : (bt a0 x3_1) ≤ 102
                · rw [if_pos c21] at H
                  have c21b0 : decide ((bt a0 x3_1) ≤ 102) = true := decide_eq_true c21
                  clear c21
                  by_cases c22 : (bt a0 x3_1) = 48
                  · rw [if_pos c22] at H
                    have c22b0 : ((bt a0 x3_1) == 48) = true := beq_iff_eq.mpr c22
                    have c22b1 : ((bt a0 x3_1) != 48) = false := bne_eq_false_iff_eq.mpr c22
                    clear c22
                    by_cases c23 : 0 < (a0.size : Int)
                    · rw [if_pos c23] at H
                      have c23b0 : decide (0 < (a0.size : Int)) = true := decide_eq_true c23
                      have c23b1 : decide (0 < a0.size) = true := decide_eq_true (by omega)
                      clear c23
                      by_cases c25 : (bt a0 0) = 120
                      · rw [if_pos c25] at H
                        have c25b0 : ((bt a0 0) == 120) = true := beq_iff_eq.mpr c25
                        have c25b1 : ((bt a0 0) != 120) = false := bne_eq_false_iff_eq.mpr c25
                        clear c25
                        have H' := Aside0.mk H
                        clear H
                        have p5 : 0 ≤ (x3_1 : Int) := of_decide_eq_true (by first | (with_reducible assumption) | assumption)
                        have q5 : x3_1 < (a0.size : Int) := of_decide_eq_true (by first | (with_reducible assumption) | assumption)
                        have hx5 := bt_at a0 x3_1
                        replace p5 := eq_true p5
                        replace q5 := eq_true q5
                        go_wp2_with (first | ((with_reducible refine gate_callee (f := 70) rfl ?_); refine goesL_ (some 20) rfl rfl Tryz.func70 (by kernel_rfl) rfl #[.int .u8 (bt a0 x3_1)] rfl (by (try simp only [List.map_toArray, List.map_cons, List.map_nil]); first | done | rfl | (simp only [List.length_drop, List.length_take]; rfl)) ?_; (with_reducible refine (juristref03_digit.calls (bt a0 x3_1) false _ A6.out).mono ?_); rintro e w' ⟨rfl, ⟨nd, rfl⟩⟩; refine ⟨_, rfl, ?_⟩; have p24 : 0 ≤ (0 : Int) := (by omega); have q24 : 0 < a0.size := (by have : (0 : Int) < (a0.size : Int) := of_decide_eq_true (by first | (with_reducible assumption) | assumption); omega); have hx24 : ∀ h : 0 < a0.size, ((a0[0]'h).toNat : Int) = bt a0 0 := bt_at a0 0; clear p24; have qi24 : (0 < (a0.size : Int)) = True := eq_true (of_decide_eq_true (by first | (with_reducible assumption) | assumption)); replace q24 := eq_true q24))
                        go_roundg k1
                        case measure => have := HK1.out; omega
                        case rel => exact ⟨(wrap64 (x3_1 + 1)), (by first | rfl | (simp; done) | (simp [*]; done)), H', ⟨by have := HK1.out; omega⟩, by repeat (first | exact Drawn0.refl _ | apply Drawn0.step)⟩
                      · rw [if_neg c25] at H
                        have c25b0 : ((bt a0 0) == 120) = false := beq_eq_false_iff_ne.mpr c25
                        have c25b1 : ((bt a0 0) != 120) = true := bne_iff_ne.mpr c25
                        by_cases c27 : (bt a0 0) = 98
                        · rw [if_pos c27] at H
                          have c27b0 : ((bt a0 0) == 98) = true := beq_iff_eq.mpr c27
                          have c27b1 : ((bt a0 0) != 98) = false := bne_eq_false_iff_eq.mpr c27
                          clear c27
                          have H' := Aside0.mk H
                          clear H
                          have p5 : 0 ≤ (x3_1 : Int) := of_decide_eq_true (by first | (with_reducible assumption) | assumption)
                          have q5 : x3_1 < (a0.size : Int) := of_decide_eq_true (by first | (with_reducible assumption) | assumption)
                          have hx5 := bt_at a0 x3_1
                          replace p5 := eq_true p5
                          replace q5 := eq_true q5
                          go_wp2_with (first | ((with_reducible refine gate_callee (f := 70) rfl ?_); refine goesL_ (some 20) rfl rfl Tryz.func70 (by kernel_rfl) rfl #[.int .u8 (bt a0 x3_1)] rfl (by (try simp only [List.map_toArray, List.map_cons, List.map_nil]); first | done | rfl | (simp only [List.length_drop, List.length_take]; rfl)) ?_; (with_reducible refine (juristref03_digit.calls (bt a0 x3_1) false _ A6.out).mono ?_); rintro e w' ⟨rfl, ⟨nd, rfl⟩⟩; refine ⟨_, rfl, ?_⟩; have p24 : 0 ≤ (0 : Int) := (by omega); have q24 : 0 < a0.size := (by have : (0 : Int) < (a0.size : Int) := of_decide_eq_true (by first | (with_reducible assumption) | assumption); omega); have hx24 : ∀ h : 0 < a0.size, ((a0[0]'h).toNat : Int) = bt a0 0 := bt_at a0 0; clear p24; have qi24 : (0 < (a0.size : Int)) = True := eq_true (of_decide_eq_true (by first | (with_reducible assumption) | assumption)); replace q24 := eq_true q24; have p26 : 0 ≤ (0 : Int) := (by omega); have q26 : 0 < a0.size := (by have : (0 : Int) < (a0.size : Int) := of_decide_eq_true (by first | (with_reducible assumption) | assumption); omega); have hx26 : ∀ h : 0 < a0.size, ((a0[0]'h).toNat : Int) = bt a0 0 := bt_at a0 0; clear p26; have qi26 : (0 < (a0.size : Int)) = True := eq_true (of_decide_eq_true (by first | (with_reducible assumption) | assumption)); replace q26 := eq_true q26))
                          go_roundg k1
                          case measure => have := HK1.out; omega
                          case rel => exact ⟨(wrap64 (x3_1 + 1)), (by first | rfl | (simp; done) | (simp [*]; done)), H', ⟨by have := HK1.out; omega⟩, by repeat (first | exact Drawn0.refl _ | apply Drawn0.step)⟩
                        · rw [if_neg c27] at H
                          have c27b0 : ((bt a0 0) == 98) = false := beq_eq_false_iff_ne.mpr c27
                          have c27b1 : ((bt a0 0) != 98) = true := bne_iff_ne.mpr c27
                          obtain rfl := Option.some.inj H
                          have p5 : 0 ≤ (x3_1 : Int) := of_decide_eq_true (by first | (with_reducible assumption) | assumption)
                          have q5 : x3_1 < (a0.size : Int) := of_decide_eq_true (by first | (with_reducible assumption) | assumption)
                          have hx5 := bt_at a0 x3_1
                          replace p5 := eq_true p5
                          replace q5 := eq_true q5
                          go_wp2_with (first | ((with_reducible refine gate_callee (f := 70) rfl ?_); refine goesL_ (some 20) rfl rfl Tryz.func70 (by kernel_rfl) rfl #[.int .u8 (bt a0 x3_1)] rfl (by (try simp only [List.map_toArray, List.map_cons, List.map_nil]); first | done | rfl | (simp only [List.length_drop, List.length_take]; rfl)) ?_; (with_reducible refine (juristref03_digit.calls (bt a0 x3_1) false _ A6.out).mono ?_); rintro e w' ⟨rfl, ⟨nd, rfl⟩⟩; refine ⟨_, rfl, ?_⟩; have p24 : 0 ≤ (0 : Int) := (by omega); have q24 : 0 < a0.size := (by have : (0 : Int) < (a0.size : Int) := of_decide_eq_true (by first | (with_reducible assumption) | assumption); omega); have hx24 : ∀ h : 0 < a0.size, ((a0[0]'h).toNat : Int) = bt a0 0 := bt_at a0 0; clear p24; have qi24 : (0 < (a0.size : Int)) = True := eq_true (of_decide_eq_true (by first | (with_reducible assumption) | assumption)); replace q24 := eq_true q24; have p26 : 0 ≤ (0 : Int) := (by omega); have q26 : 0 < a0.size := (by have : (0 : Int) < (a0.size : Int) := of_decide_eq_true (by first | (with_reducible assumption) | assumption); omega); have hx26 : ∀ h : 0 < a0.size, ((a0[0]'h).toNat : Int) = bt a0 0 := bt_at a0 0; clear p26; have qi26 : (0 < (a0.size : Int)) = True := eq_true (of_decide_eq_true (by first | (with_reducible assumption) | assumption)); replace q26 := eq_true q26))
                          go_ret
                          exact ⟨by first | rfl | (simp; done) | (simp [*]; done), by repeat (first | exact Drawn0.refl _ | apply Drawn0.step)⟩
                    · rw [if_neg c23] at H
                      exact absurd H (by simp)
                  · rw [if_neg c22] at H
                    have c22b0 : ((bt a0 x3_1) == 48) = false := beq_eq_false_iff_ne.mpr c22
                    have c22b1 : ((bt a0 x3_1) != 48) = true := bne_iff_ne.mpr c22
                    by_cases c28 : 0 < (a0.size : Int)
                    · rw [if_pos c28] at H
                      have c28b0 : decide (0 < (a0.size : Int)) = true := decide_eq_true c28
                      have c28b1 : decide (0 < a0.size) = true := decide_eq_true (by omega)
                      clear c28
                      by_cases c30 : (bt a0 0) = 120
                      · rw [if_pos c30] at H
                        have c30b0 : ((bt a0 0) == 120) = true := beq_iff_eq.mpr c30
                        have c30b1 : ((bt a0 0) != 120) = false := bne_eq_false_iff_eq.mpr c30
                        clear c30
                        have H' := Aside0.mk H
                        clear H
                        have p5 : 0 ≤ (x3_1 : Int) := of_decide_eq_true (by first | (with_reducible assumption) | assumption)
                        have q5 : x3_1 < (a0.size : Int) := of_decide_eq_true (by first | (with_reducible assumption) | assumption)
                        have hx5 := bt_at a0 x3_1
                        replace p5 := eq_true p5
                        replace q5 := eq_true q5
                        go_wp2_with (first | ((with_reducible refine gate_callee (f := 70) rfl ?_); refine goesL_ (some 20) rfl rfl Tryz.func70 (by kernel_rfl) rfl #[.int .u8 (bt a0 x3_1)] rfl (by (try simp only [List.map_toArray, List.map_cons, List.map_nil]); first | done | rfl | (simp only [List.length_drop, List.length_take]; rfl)) ?_; (with_reducible refine (juristref03_digit.calls (bt a0 x3_1) false _ A6.out).mono ?_); rintro e w' ⟨rfl, ⟨nd, rfl⟩⟩; refine ⟨_, rfl, ?_⟩; have p29 : 0 ≤ (0 : Int) := (by omega); have q29 : 0 < a0.size := (by have : (0 : Int) < (a0.size : Int) := of_decide_eq_true (by first | (with_reducible assumption) | assumption); omega); have hx29 : ∀ h : 0 < a0.size, ((a0[0]'h).toNat : Int) = bt a0 0 := bt_at a0 0; clear p29; have qi29 : (0 < (a0.size : Int)) = True := eq_true (of_decide_eq_true (by first | (with_reducible assumption) | assumption)); replace q29 := eq_true q29))
                        go_roundg k1
                        case measure => have := HK1.out; omega
                        case rel => exact ⟨(wrap64 (x3_1 + 1)), (by first | rfl | (simp; done) | (simp [*]; done)), H', ⟨by have := HK1.out; omega⟩, by repeat (first | exact Drawn0.refl _ | apply Drawn0.step)⟩
                      · rw [if_neg c30] at H
                        have c30b0 : ((bt a0 0) == 120) = false := beq_eq_false_iff_ne.mpr c30
                        have c30b1 : ((bt a0 0) != 120) = true := bne_iff_ne.mpr c30
                        by_cases c32 : (bt a0 0) = 98
                        · rw [if_pos c32] at H
                          have c32b0 : ((bt a0 0) == 98) = true := beq_iff_eq.mpr c32
                          have c32b1 : ((bt a0 0) != 98) = false := bne_eq_false_iff_eq.mpr c32
                          clear c32
                          by_cases c33 : ((bt a0 x3_1) = 49)
                          · rw [if_pos c33] at H
                            have c33b0 : ((bt a0 x3_1) == 49) = true := beq_iff_eq.mpr c33
                            have c33b1 : ((bt a0 x3_1) != 49) = false := bne_eq_false_iff_eq.mpr c33
                            clear c33
                            have H' := Aside0.mk H
                            clear H
                            have p5 : 0 ≤ (x3_1 : Int) := of_decide_eq_true (by first | (with_reducible assumption) | assumption)
                            have q5 : x3_1 < (a0.size : Int) := of_decide_eq_true (by first | (with_reducible assumption) | assumption)
                            have hx5 := bt_at a0 x3_1
                            replace p5 := eq_true p5
                            replace q5 := eq_true q5
                            go_wp2_with (first | ((with_reducible refine gate_callee (f := 70) rfl ?_); refine goesL_ (some 20) rfl rfl Tryz.func70 (by kernel_rfl) rfl #[.int .u8 (bt a0 x3_1)] rfl (by (try simp only [List.map_toArray, List.map_cons, List.map_nil]); first | done | rfl | (simp only [List.length_drop, List.length_take]; rfl)) ?_; (with_reducible refine (juristref03_digit.calls (bt a0 x3_1) false _ A6.out).mono ?_); rintro e w' ⟨rfl, ⟨nd, rfl⟩⟩; refine ⟨_, rfl, ?_⟩; have p29 : 0 ≤ (0 : Int) := (by omega); have q29 : 0 < a0.size := (by have : (0 : Int) < (a0.size : Int) := of_decide_eq_true (by first | (with_reducible assumption) | assumption); omega); have hx29 : ∀ h : 0 < a0.size, ((a0[0]'h).toNat : Int) = bt a0 0 := bt_at a0 0; clear p29; have qi29 : (0 < (a0.size : Int)) = True := eq_true (of_decide_eq_true (by first | (with_reducible assumption) | assumption)); replace q29 := eq_true q29; have p31 : 0 ≤ (0 : Int) := (by omega); have q31 : 0 < a0.size := (by have : (0 : Int) < (a0.size : Int) := of_decide_eq_true (by first | (with_reducible assumption) | assumption); omega); have hx31 : ∀ h : 0 < a0.size, ((a0[0]'h).toNat : Int) = bt a0 0 := bt_at a0 0; clear p31; have qi31 : (0 < (a0.size : Int)) = True := eq_true (of_decide_eq_true (by first | (with_reducible assumption) | assumption)); replace q31 := eq_true q31))
                            go_roundg k1
                            case measure => have := HK1.out; omega
                            case rel => exact ⟨(wrap64 (x3_1 + 1)), (by first | rfl | (simp; done) | (simp [*]; done)), H', ⟨by have := HK1.out; omega⟩, by repeat (first | exact Drawn0.refl _ | apply Drawn0.step)⟩
                          · rw [if_neg c33] at H
                            have c33b0 : ((bt a0 x3_1) == 49) = false := beq_eq_false_iff_ne.mpr c33
                            have c33b1 : ((bt a0 x3_1) != 49) = true := bne_iff_ne.mpr c33
                            obtain rfl := Option.some.inj H
                            have p5 : 0 ≤ (x3_1 : Int) := of_decide_eq_true (by first | (with_reducible assumption) | assumption)
                            have q5 : x3_1 < (a0.size : Int) := of_decide_eq_true (by first | (with_reducible assumption) | assumption)
                            have hx5 := bt_at a0 x3_1
                            replace p5 := eq_true p5
                            replace q5 := eq_true q5
                            go_wp2_with (first | ((with_reducible refine gate_callee (f := 70) rfl ?_); refine goesL_ (some 20) rfl rfl Tryz.func70 (by kernel_rfl) rfl #[.int .u8 (bt a0 x3_1)] rfl (by (try simp only [List.map_toArray, List.map_cons, List.map_nil]); first | done | rfl | (simp only [List.length_drop, List.length_take]; rfl)) ?_; (with_reducible refine (juristref03_digit.calls (bt a0 x3_1) false _ A6.out).mono ?_); rintro e w' ⟨rfl, ⟨nd, rfl⟩⟩; refine ⟨_, rfl, ?_⟩; have p29 : 0 ≤ (0 : Int) := (by omega); have q29 : 0 < a0.size := (by have : (0 : Int) < (a0.size : Int) := of_decide_eq_true (by first | (with_reducible assumption) | assumption); omega); have hx29 : ∀ h : 0 < a0.size, ((a0[0]'h).toNat : Int) = bt a0 0 := bt_at a0 0; clear p29; have qi29 : (0 < (a0.size : Int)) = True := eq_true (of_decide_eq_true (by first | (with_reducible assumption) | assumption)); replace q29 := eq_true q29; have p31 : 0 ≤ (0 : Int) := (by omega); have q31 : 0 < a0.size := (by have : (0 : Int) < (a0.size : Int) := of_decide_eq_true (by first | (with_reducible assumption) | assumption); omega); have hx31 : ∀ h : 0 < a0.size, ((a0[0]'h).toNat : Int) = bt a0 0 := bt_at a0 0; clear p31; have qi31 : (0 < (a0.size : Int)) = True := eq_true (of_decide_eq_true (by first | (with_reducible assumption) | assumption)); replace q31 := eq_true q31))
                            go_ret
                            exact ⟨by first | rfl | (simp; done) | (simp [*]; done), by repeat (first | exact Drawn0.refl _ | apply Drawn0.step)⟩
                        · rw [if_neg c32] at H
                          have c32b0 : ((bt a0 0) == 98) = false := beq_eq_false_iff_ne.mpr c32
                          have c32b1 : ((bt a0 0) != 98) = true := bne_iff_ne.mpr c32
                          obtain rfl := Option.some.inj H
                          have p5 : 0 ≤ (x3_1 : Int) := of_decide_eq_true (by first | (with_reducible assumption) | assumption)
                          have q5 : x3_1 < (a0.size : Int) := of_decide_eq_true (by first | (with_reducible assumption) | assumption)
                          have hx5 := bt_at a0 x3_1
                          replace p5 := eq_true p5
                          replace q5 := eq_true q5
                          go_wp2_with (first | ((with_reducible refine gate_callee (f := 70) rfl ?_); refine goesL_ (some 20) rfl rfl Tryz.func70 (by kernel_rfl) rfl #[.int .u8 (bt a0 x3_1)] rfl (by (try simp only [List.map_toArray, List.map_cons, List.map_nil]); first | done | rfl | (simp only [List.length_drop, List.length_take]; rfl)) ?_; (with_reducible refine (juristref03_digit.calls (bt a0 x3_1) false _ A6.out).mono ?_); rintro e w' ⟨rfl, ⟨nd, rfl⟩⟩; refine ⟨_, rfl, ?_⟩; have p29 : 0 ≤ (0 : Int) := (by omega); have q29 : 0 < a0.size := (by have : (0 : Int) < (a0.size : Int) := of_decide_eq_true (by first | (with_reducible assumption) | assumption); omega); have hx29 : ∀ h : 0 < a0.size, ((a0[0]'h).toNat : Int) = bt a0 0 := bt_at a0 0; clear p29; have qi29 : (0 < (a0.size : Int)) = True := eq_true (of_decide_eq_true (by first | (with_reducible assumption) | assumption)); replace q29 := eq_true q29; have p31 : 0 ≤ (0 : Int) := (by omega); have q31 : 0 < a0.size := (by have : (0 : Int) < (a0.size : Int) := of_decide_eq_true (by first | (with_reducible assumption) | assumption); omega); have hx31 : ∀ h : 0 < a0.size, ((a0[0]'h).toNat : Int) = bt a0 0 := bt_at a0 0; clear p31; have qi31 : (0 < (a0.size : Int)) = True := eq_true (of_decide_eq_true (by first | (with_reducible assumption) | assumption)); replace q31 := eq_true q31))
                          go_ret
                          exact ⟨by first | rfl | (simp; done) | (simp [*]; done), by repeat (first | exact Drawn0.refl _ | apply Drawn0.step)⟩
                    · rw [if_neg c28] at H
                      exact absurd H (by simp)
                · rw [if_neg c21] at H
                  have c21b0 : decide ((bt a0 x3_1) ≤ 102) = false := decide_eq_false c21
                  clear c21
                  by_cases c34 : (bt a0 x3_1) ≥ 65
                  · rw [if_pos c34] at H
                    have c34b0 : decide (65 ≤ (bt a0 x3_1)) = true := decide_eq_true c34
                    clear c34
                    by_cases c35 : (bt a0 x3_1) = 48
                    · rw [if_pos c35] at H
                      have c35b0 : ((bt a0 x3_1) == 48) = true := beq_iff_eq.mpr c35
                      have c35b1 : ((bt a0 x3_1) != 48) = false := bne_eq_false_iff_eq.mpr c35
                      clear c35
                      by_cases c36 : 0 < (a0.size : Int)
                      · rw [if_pos c36] at H
                        have c36b0 : decide (0 < (a0.size : Int)) = true := decide_eq_true c36
                        have c36b1 : decide (0 < a0.size) = true := decide_eq_true (by omega)
                        clear c36
                        by_cases c38 : (bt a0 0) = 120
                        · rw [if_pos c38] at H
                          have c38b0 : ((bt a0 0) == 120) = true := beq_iff_eq.mpr c38
                          have c38b1 : ((bt a0 0) != 120) = false := bne_eq_false_iff_eq.mpr c38
                          clear c38
                          by_cases c39 : (bt a0 x3_1) ≤ 70
                          · rw [if_pos c39] at H
                            have c39b0 : decide ((bt a0 x3_1) ≤ 70) = true := decide_eq_true c39
                            clear c39
                            have H' := Aside0.mk H
                            clear H
                            have p5 : 0 ≤ (x3_1 : Int) := of_decide_eq_true (by first | (with_reducible assumption) | assumption)
                            have q5 : x3_1 < (a0.size : Int) := of_decide_eq_true (by first | (with_reducible assumption) | assumption)
                            have hx5 := bt_at a0 x3_1
                            replace p5 := eq_true p5
                            replace q5 := eq_true q5
                            go_wp2_with (first | ((with_reducible refine gate_callee (f := 70) rfl ?_); refine goesL_ (some 20) rfl rfl Tryz.func70 (by kernel_rfl) rfl #[.int .u8 (bt a0 x3_1)] rfl (by (try simp only [List.map_toArray, List.map_cons, List.map_nil]); first | done | rfl | (simp only [List.length_drop, List.length_take]; rfl)) ?_; (with_reducible refine (juristref03_digit.calls (bt a0 x3_1) false _ A6.out).mono ?_); rintro e w' ⟨rfl, ⟨nd, rfl⟩⟩; refine ⟨_, rfl, ?_⟩; have p37 : 0 ≤ (0 : Int) := (by omega); have q37 : 0 < a0.size := (by have : (0 : Int) < (a0.size : Int) := of_decide_eq_true (by first | (with_reducible assumption) | assumption); omega); have hx37 : ∀ h : 0 < a0.size, ((a0[0]'h).toNat : Int) = bt a0 0 := bt_at a0 0; clear p37; have qi37 : (0 < (a0.size : Int)) = True := eq_true (of_decide_eq_true (by first | (with_reducible assumption) | assumption)); replace q37 := eq_true q37))
                            go_roundg k1
                            case measure => have := HK1.out; omega
                            case rel => exact ⟨(wrap64 (x3_1 + 1)), (by first | rfl | (simp; done) | (simp [*]; done)), H', ⟨by have := HK1.out; omega⟩, by repeat (first | exact Drawn0.refl _ | apply Drawn0.step)⟩
                          · rw [if_neg c39] at H
                            have c39b0 : decide ((bt a0 x3_1) ≤ 70) = false := decide_eq_false c39
                            clear c39
                            by_cases c41 : (bt a0 0) = 98
                            · rw [if_pos c41] at H
                              have c41b0 : ((bt a0 0) == 98) = true := beq_iff_eq.mpr c41
                              have c41b1 : ((bt a0 0) != 98) = false := bne_eq_false_iff_eq.mpr c41
                              clear c41
                              have H' := Aside0.mk H
                              clear H
                              have p5 : 0 ≤ (x3_1 : Int) := of_decide_eq_true (by first | (with_reducible assumption) | assumption)
                              have q5 : x3_1 < (a0.size : Int) := of_decide_eq_true (by first | (with_reducible assumption) | assumption)
                              have hx5 := bt_at a0 x3_1
                              replace p5 := eq_true p5
                              replace q5 := eq_true q5
                              go_wp2_with (first | ((with_reducible refine gate_callee (f := 70) rfl ?_); refine goesL_ (some 20) rfl rfl Tryz.func70 (by kernel_rfl) rfl #[.int .u8 (bt a0 x3_1)] rfl (by (try simp only [List.map_toArray, List.map_cons, List.map_nil]); first | done | rfl | (simp only [List.length_drop, List.length_take]; rfl)) ?_; (with_reducible refine (juristref03_digit.calls (bt a0 x3_1) false _ A6.out).mono ?_); rintro e w' ⟨rfl, ⟨nd, rfl⟩⟩; refine ⟨_, rfl, ?_⟩; have p37 : 0 ≤ (0 : Int) := (by omega); have q37 : 0 < a0.size := (by have : (0 : Int) < (a0.size : Int) := of_decide_eq_true (by first | (with_reducible assumption) | assumption); omega); have hx37 : ∀ h : 0 < a0.size, ((a0[0]'h).toNat : Int) = bt a0 0 := bt_at a0 0; clear p37; have qi37 : (0 < (a0.size : Int)) = True := eq_true (of_decide_eq_true (by first | (with_reducible assumption) | assumption)); replace q37 := eq_true q37; have p40 : 0 ≤ (0 : Int) := (by omega); have q40 : 0 < a0.size := (by have : (0 : Int) < (a0.size : Int) := of_decide_eq_true (by first | (with_reducible assumption) | assumption); omega); have hx40 : ∀ h : 0 < a0.size, ((a0[0]'h).toNat : Int) = bt a0 0 := bt_at a0 0; clear p40; have qi40 : (0 < (a0.size : Int)) = True := eq_true (of_decide_eq_true (by first | (with_reducible assumption) | assumption)); replace q40 := eq_true q40))
                              go_roundg k1
                              case measure => have := HK1.out; omega
                              case rel => exact ⟨(wrap64 (x3_1 + 1)), (by first | rfl | (simp; done) | (simp [*]; done)), H', ⟨by have := HK1.out; omega⟩, by repeat (first | exact Drawn0.refl _ | apply Drawn0.step)⟩
                            · rw [if_neg c41] at H
                              have c41b0 : ((bt a0 0) == 98) = false := beq_eq_false_iff_ne.mpr c41
                              have c41b1 : ((bt a0 0) != 98) = true := bne_iff_ne.mpr c41
                              obtain rfl := Option.some.inj H
                              have p5 : 0 ≤ (x3_1 : Int) := of_decide_eq_true (by first | (with_reducible assumption) | assumption)
                              have q5 : x3_1 < (a0.size : Int) := of_decide_eq_true (by first | (with_reducible assumption) | assumption)
                              have hx5 := bt_at a0 x3_1
                              replace p5 := eq_true p5
                              replace q5 := eq_true q5
                              go_wp2_with (first | ((with_reducible refine gate_callee (f := 70) rfl ?_); refine goesL_ (some 20) rfl rfl Tryz.func70 (by kernel_rfl) rfl #[.int .u8 (bt a0 x3_1)] rfl (by (try simp only [List.map_toArray, List.map_cons, List.map_nil]); first | done | rfl | (simp only [List.length_drop, List.length_take]; rfl)) ?_; (with_reducible refine (juristref03_digit.calls (bt a0 x3_1) false _ A6.out).mono ?_); rintro e w' ⟨rfl, ⟨nd, rfl⟩⟩; refine ⟨_, rfl, ?_⟩; have p37 : 0 ≤ (0 : Int) := (by omega); have q37 : 0 < a0.size := (by have : (0 : Int) < (a0.size : Int) := of_decide_eq_true (by first | (with_reducible assumption) | assumption); omega); have hx37 : ∀ h : 0 < a0.size, ((a0[0]'h).toNat : Int) = bt a0 0 := bt_at a0 0; clear p37; have qi37 : (0 < (a0.size : Int)) = True := eq_true (of_decide_eq_true (by first | (with_reducible assumption) | assumption)); replace q37 := eq_true q37; have p40 : 0 ≤ (0 : Int) := (by omega); have q40 : 0 < a0.size := (by have : (0 : Int) < (a0.size : Int) := of_decide_eq_true (by first | (with_reducible assumption) | assumption); omega); have hx40 : ∀ h : 0 < a0.size, ((a0[0]'h).toNat : Int) = bt a0 0 := bt_at a0 0; clear p40; have qi40 : (0 < (a0.size : Int)) = True := eq_true (of_decide_eq_true (by first | (with_reducible assumption) | assumption)); replace q40 := eq_true q40))
                              go_ret
                              exact ⟨by first | rfl | (simp; done) | (simp [*]; done), by repeat (first | exact Drawn0.refl _ | apply Drawn0.step)⟩
                        · rw [if_neg c38] at H
                          have c38b0 : ((bt a0 0) == 120) = false := beq_eq_false_iff_ne.mpr c38
                          have c38b1 : ((bt a0 0) != 120) = true := bne_iff_ne.mpr c38
                          by_cases c43 : (bt a0 0) = 98
                          · rw [if_pos c43] at H
                            have c43b0 : ((bt a0 0) == 98) = true := beq_iff_eq.mpr c43
                            have c43b1 : ((bt a0 0) != 98) = false := bne_eq_false_iff_eq.mpr c43
                            clear c43
                            have H' := Aside0.mk H
                            clear H
                            have p5 : 0 ≤ (x3_1 : Int) := of_decide_eq_true (by first | (with_reducible assumption) | assumption)
                            have q5 : x3_1 < (a0.size : Int) := of_decide_eq_true (by first | (with_reducible assumption) | assumption)
                            have hx5 := bt_at a0 x3_1
                            replace p5 := eq_true p5
                            replace q5 := eq_true q5
                            go_wp2_with (first | ((with_reducible refine gate_callee (f := 70) rfl ?_); refine goesL_ (some 20) rfl rfl Tryz.func70 (by kernel_rfl) rfl #[.int .u8 (bt a0 x3_1)] rfl (by (try simp only [List.map_toArray, List.map_cons, List.map_nil]); first | done | rfl | (simp only [List.length_drop, List.length_take]; rfl)) ?_; (with_reducible refine (juristref03_digit.calls (bt a0 x3_1) false _ A6.out).mono ?_); rintro e w' ⟨rfl, ⟨nd, rfl⟩⟩; refine ⟨_, rfl, ?_⟩; have p37 : 0 ≤ (0 : Int) := (by omega); have q37 : 0 < a0.size := (by have : (0 : Int) < (a0.size : Int) := of_decide_eq_true (by first | (with_reducible assumption) | assumption); omega); have hx37 : ∀ h : 0 < a0.size, ((a0[0]'h).toNat : Int) = bt a0 0 := bt_at a0 0; clear p37; have qi37 : (0 < (a0.size : Int)) = True := eq_true (of_decide_eq_true (by first | (with_reducible assumption) | assumption)); replace q37 := eq_true q37; have p42 : 0 ≤ (0 : Int) := (by omega); have q42 : 0 < a0.size := (by have : (0 : Int) < (a0.size : Int) := of_decide_eq_true (by first | (with_reducible assumption) | assumption); omega); have hx42 : ∀ h : 0 < a0.size, ((a0[0]'h).toNat : Int) = bt a0 0 := bt_at a0 0; clear p42; have qi42 : (0 < (a0.size : Int)) = True := eq_true (of_decide_eq_true (by first | (with_reducible assumption) | assumption)); replace q42 := eq_true q42))
                            go_roundg k1
                            case measure => have := HK1.out; omega
                            case rel => exact ⟨(wrap64 (x3_1 + 1)), (by first | rfl | (simp; done) | (simp [*]; done)), H', ⟨by have := HK1.out; omega⟩, by repeat (first | exact Drawn0.refl _ | apply Drawn0.step)⟩
                          · rw [if_neg c43] at H
                            have c43b0 : ((bt a0 0) == 98) = false := beq_eq_false_iff_ne.mpr c43
                            have c43b1 : ((bt a0 0) != 98) = true := bne_iff_ne.mpr c43
                            obtain rfl := Option.some.inj H
                            have p5 : 0 ≤ (x3_1 : Int) := of_decide_eq_true (by first | (with_reducible assumption) | assumption)
                            have q5 : x3_1 < (a0.size : Int) := of_decide_eq_true (by first | (with_reducible assumption) | assumption)
                            have hx5 := bt_at a0 x3_1
                            replace p5 := eq_true p5
                            replace q5 := eq_true q5
                            go_wp2_with (first | ((with_reducible refine gate_callee (f := 70) rfl ?_); refine goesL_ (some 20) rfl rfl Tryz.func70 (by kernel_rfl) rfl #[.int .u8 (bt a0 x3_1)] rfl (by (try simp only [List.map_toArray, List.map_cons, List.map_nil]); first | done | rfl | (simp only [List.length_drop, List.length_take]; rfl)) ?_; (with_reducible refine (juristref03_digit.calls (bt a0 x3_1) false _ A6.out).mono ?_); rintro e w' ⟨rfl, ⟨nd, rfl⟩⟩; refine ⟨_, rfl, ?_⟩; have p37 : 0 ≤ (0 : Int) := (by omega); have q37 : 0 < a0.size := (by have : (0 : Int) < (a0.size : Int) := of_decide_eq_true (by first | (with_reducible assumption) | assumption); omega); have hx37 : ∀ h : 0 < a0.size, ((a0[0]'h).toNat : Int) = bt a0 0 := bt_at a0 0; clear p37; have qi37 : (0 < (a0.size : Int)) = True := eq_true (of_decide_eq_true (by first | (with_reducible assumption) | assumption)); replace q37 := eq_true q37; have p42 : 0 ≤ (0 : Int) := (by omega); have q42 : 0 < a0.size := (by have : (0 : Int) < (a0.size : Int) := of_decide_eq_true (by first | (with_reducible assumption) | assumption); omega); have hx42 : ∀ h : 0 < a0.size, ((a0[0]'h).toNat : Int) = bt a0 0 := bt_at a0 0; clear p42; have qi42 : (0 < (a0.size : Int)) = True := eq_true (of_decide_eq_true (by first | (with_reducible assumption) | assumption)); replace q42 := eq_true q42))
                            go_ret
                            exact ⟨by first | rfl | (simp; done) | (simp [*]; done), by repeat (first | exact Drawn0.refl _ | apply Drawn0.step)⟩
                      · rw [if_neg c36] at H
                        exact absurd H (by simp)
                    · rw [if_neg c35] at H
                      have c35b0 : ((bt a0 x3_1) == 48) = false := beq_eq_false_iff_ne.mpr c35
                      have c35b1 : ((bt a0 x3_1) != 48) = true := bne_iff_ne.mpr c35
                      by_cases c44 : 0 < (a0.size : Int)
                      · rw [if_pos c44] at H
                        have c44b0 : decide (0 < (a0.size : Int)) = true := decide_eq_true c44
                        have c44b1 : decide (0 < a0.size) = true := decide_eq_true (by omega)
                        clear c44
                        by_cases c46 : (bt a0 0) = 120
                        · rw [if_pos c46] at H
                          have c46b0 : ((bt a0 0) == 120) = true := beq_iff_eq.mpr c46
                          have c46b1 : ((bt a0 0) != 120) = false := bne_eq_false_iff_eq.mpr c46
                          clear c46
                          by_cases c47 : (bt a0 x3_1) ≤ 70
                          · rw [if_pos c47] at H
                            have c47b0 : decide ((bt a0 x3_1) ≤ 70) = true := decide_eq_true c47
                            clear c47
                            have H' := Aside0.mk H
                            clear H
                            have p5 : 0 ≤ (x3_1 : Int) := of_decide_eq_true (by first | (with_reducible assumption) | assumption)
                            have q5 : x3_1 < (a0.size : Int) := of_decide_eq_true (by first | (with_reducible assumption) | assumption)
                            have hx5 := bt_at a0 x3_1
                            replace p5 := eq_true p5
                            replace q5 := eq_true q5
                            go_wp2_with (first | ((with_reducible refine gate_callee (f := 70) rfl ?_); refine goesL_ (some 20) rfl rfl Tryz.func70 (by kernel_rfl) rfl #[.int .u8 (bt a0 x3_1)] rfl (by (try simp only [List.map_toArray, List.map_cons, List.map_nil]); first | done | rfl | (simp only [List.length_drop, List.length_take]; rfl)) ?_; (with_reducible refine (juristref03_digit.calls (bt a0 x3_1) false _ A6.out).mono ?_); rintro e w' ⟨rfl, ⟨nd, rfl⟩⟩; refine ⟨_, rfl, ?_⟩; have p45 : 0 ≤ (0 : Int) := (by omega); have q45 : 0 < a0.size := (by have : (0 : Int) < (a0.size : Int) := of_decide_eq_true (by first | (with_reducible assumption) | assumption); omega); have hx45 : ∀ h : 0 < a0.size, ((a0[0]'h).toNat : Int) = bt a0 0 := bt_at a0 0; clear p45; have qi45 : (0 < (a0.size : Int)) = True := eq_true (of_decide_eq_true (by first | (with_reducible assumption) | assumption)); replace q45 := eq_true q45))
                            go_roundg k1
                            case measure => have := HK1.out; omega
                            case rel => exact ⟨(wrap64 (x3_1 + 1)), (by first | rfl | (simp; done) | (simp [*]; done)), H', ⟨by have := HK1.out; omega⟩, by repeat (first | exact Drawn0.refl _ | apply Drawn0.step)⟩
                          · rw [if_neg c47] at H
                            have c47b0 : decide ((bt a0 x3_1) ≤ 70) = false := decide_eq_false c47
                            clear c47
                            by_cases c49 : (bt a0 0) = 98
                            · rw [if_pos c49] at H
                              have c49b0 : ((bt a0 0) == 98) = true := beq_iff_eq.mpr c49
                              have c49b1 : ((bt a0 0) != 98) = false := bne_eq_false_iff_eq.mpr c49
                              clear c49
                              by_cases c50 : ((bt a0 x3_1) = 49)
                              · rw [if_pos c50] at H
                                have c50b0 : ((bt a0 x3_1) == 49) = true := beq_iff_eq.mpr c50
                                have c50b1 : ((bt a0 x3_1) != 49) = false := bne_eq_false_iff_eq.mpr c50
                                clear c50
                                have H' := Aside0.mk H
                                clear H
                                have p5 : 0 ≤ (x3_1 : Int) := of_decide_eq_true (by first | (with_reducible assumption) | assumption)
                                have q5 : x3_1 < (a0.size : Int) := of_decide_eq_true (by first | (with_reducible assumption) | assumption)
                                have hx5 := bt_at a0 x3_1
                                replace p5 := eq_true p5
                                replace q5 := eq_true q5
                                go_wp2_with (first | ((with_reducible refine gate_callee (f := 70) rfl ?_); refine goesL_ (some 20) rfl rfl Tryz.func70 (by kernel_rfl) rfl #[.int .u8 (bt a0 x3_1)] rfl (by (try simp only [List.map_toArray, List.map_cons, List.map_nil]); first | done | rfl | (simp only [List.length_drop, List.length_take]; rfl)) ?_; (with_reducible refine (juristref03_digit.calls (bt a0 x3_1) false _ A6.out).mono ?_); rintro e w' ⟨rfl, ⟨nd, rfl⟩⟩; refine ⟨_, rfl, ?_⟩; have p45 : 0 ≤ (0 : Int) := (by omega); have q45 : 0 < a0.size := (by have : (0 : Int) < (a0.size : Int) := of_decide_eq_true (by first | (with_reducible assumption) | assumption); omega); have hx45 : ∀ h : 0 < a0.size, ((a0[0]'h).toNat : Int) = bt a0 0 := bt_at a0 0; clear p45; have qi45 : (0 < (a0.size : Int)) = True := eq_true (of_decide_eq_true (by first | (with_reducible assumption) | assumption)); replace q45 := eq_true q45; have p48 : 0 ≤ (0 : Int) := (by omega); have q48 : 0 < a0.size := (by have : (0 : Int) < (a0.size : Int) := of_decide_eq_true (by first | (with_reducible assumption) | assumption); omega); have hx48 : ∀ h : 0 < a0.size, ((a0[0]'h).toNat : Int) = bt a0 0 := bt_at a0 0; clear p48; have qi48 : (0 < (a0.size : Int)) = True := eq_true (of_decide_eq_true (by first | (with_reducible assumption) | assumption)); replace q48 := eq_true q48))
                                go_roundg k1
                                case measure => have := HK1.out; omega
                                case rel => exact ⟨(wrap64 (x3_1 + 1)), (by first | rfl | (simp; done) | (simp [*]; done)), H', ⟨by have := HK1.out; omega⟩, by repeat (first | exact Drawn0.refl _ | apply Drawn0.step)⟩
                              · rw [if_neg c50] at H
                                have c50b0 : ((bt a0 x3_1) == 49) = false := beq_eq_false_iff_ne.mpr c50
                                have c50b1 : ((bt a0 x3_1) != 49) = true := bne_iff_ne.mpr c50
                                obtain rfl := Option.some.inj H
                                have p5 : 0 ≤ (x3_1 : Int) := of_decide_eq_true (by first | (with_reducible assumption) | assumption)
                                have q5 : x3_1 < (a0.size : Int) := of_decide_eq_true (by first | (with_reducible assumption) | assumption)
                                have hx5 := bt_at a0 x3_1
                                replace p5 := eq_true p5
                                replace q5 := eq_true q5
                                go_wp2_with (first | ((with_reducible refine gate_callee (f := 70) rfl ?_); refine goesL_ (some 20) rfl rfl Tryz.func70 (by kernel_rfl) rfl #[.int .u8 (bt a0 x3_1)] rfl (by (try simp only [List.map_toArray, List.map_cons, List.map_nil]); first | done | rfl | (simp only [List.length_drop, List.length_take]; rfl)) ?_; (with_reducible refine (juristref03_digit.calls (bt a0 x3_1) false _ A6.out).mono ?_); rintro e w' ⟨rfl, ⟨nd, rfl⟩⟩; refine ⟨_, rfl, ?_⟩; have p45 : 0 ≤ (0 : Int) := (by omega); have q45 : 0 < a0.size := (by have : (0 : Int) < (a0.size : Int) := of_decide_eq_true (by first | (with_reducible assumption) | assumption); omega); have hx45 : ∀ h : 0 < a0.size, ((a0[0]'h).toNat : Int) = bt a0 0 := bt_at a0 0; clear p45; have qi45 : (0 < (a0.size : Int)) = True := eq_true (of_decide_eq_true (by first | (with_reducible assumption) | assumption)); replace q45 := eq_true q45; have p48 : 0 ≤ (0 : Int) := (by omega); have q48 : 0 < a0.size := (by have : (0 : Int) < (a0.size : Int) := of_decide_eq_true (by first | (with_reducible assumption) | assumption); omega); have hx48 : ∀ h : 0 < a0.size, ((a0[0]'h).toNat : Int) = bt a0 0 := bt_at a0 0; clear p48; have qi48 : (0 < (a0.size : Int)) = True := eq_true (of_decide_eq_true (by first | (with_reducible assumption) | assumption)); replace q48 := eq_true q48))
                                go_ret
                                exact ⟨by first | rfl | (simp; done) | (simp [*]; done), by repeat (first | exact Drawn0.refl _ | apply Drawn0.step)⟩
                            · rw [if_neg c49] at H
                              have c49b0 : ((bt a0 0) == 98) = false := beq_eq_false_iff_ne.mpr c49
                              have c49b1 : ((bt a0 0) != 98) = true := bne_iff_ne.mpr c49
                              obtain rfl := Option.some.inj H
                              have p5 : 0 ≤ (x3_1 : Int) := of_decide_eq_true (by first | (with_reducible assumption) | assumption)
                              have q5 : x3_1 < (a0.size : Int) := of_decide_eq_true (by first | (with_reducible assumption) | assumption)
                              have hx5 := bt_at a0 x3_1
                              replace p5 := eq_true p5
                              replace q5 := eq_true q5
                              go_wp2_with (first | ((with_reducible refine gate_callee (f := 70) rfl ?_); refine goesL_ (some 20) rfl rfl Tryz.func70 (by kernel_rfl) rfl #[.int .u8 (bt a0 x3_1)] rfl (by (try simp only [List.map_toArray, List.map_cons, List.map_nil]); first | done | rfl | (simp only [List.length_drop, List.length_take]; rfl)) ?_; (with_reducible refine (juristref03_digit.calls (bt a0 x3_1) false _ A6.out).mono ?_); rintro e w' ⟨rfl, ⟨nd, rfl⟩⟩; refine ⟨_, rfl, ?_⟩; have p45 : 0 ≤ (0 : Int) := (by omega); have q45 : 0 < a0.size := (by have : (0 : Int) < (a0.size : Int) := of_decide_eq_true (by first | (with_reducible assumption) | assumption); omega); have hx45 : ∀ h : 0 < a0.size, ((a0[0]'h).toNat : Int) = bt a0 0 := bt_at a0 0; clear p45; have qi45 : (0 < (a0.size : Int)) = True := eq_true (of_decide_eq_true (by first | (with_reducible assumption) | assumption)); replace q45 := eq_true q45; have p48 : 0 ≤ (0 : Int) := (by omega); have q48 : 0 < a0.size := (by have : (0 : Int) < (a0.size : Int) := of_decide_eq_true (by first | (with_reducible assumption) | assumption); omega); have hx48 : ∀ h : 0 < a0.size, ((a0[0]'h).toNat : Int) = bt a0 0 := bt_at a0 0; clear p48; have qi48 : (0 < (a0.size : Int)) = True := eq_true (of_decide_eq_true (by first | (with_reducible assumption) | assumption)); replace q48 := eq_true q48))
                              go_ret
                              exact ⟨by first | rfl | (simp; done) | (simp [*]; done), by repeat (first | exact Drawn0.refl _ | apply Drawn0.step)⟩
                        · rw [if_neg c46] at H
                          have c46b0 : ((bt a0 0) == 120) = false := beq_eq_false_iff_ne.mpr c46
                          have c46b1 : ((bt a0 0) != 120) = true := bne_iff_ne.mpr c46
                          by_cases c52 : (bt a0 0) = 98
                          · rw [if_pos c52] at H
                            have c52b0 : ((bt a0 0) == 98) = true := beq_iff_eq.mpr c52
                            have c52b1 : ((bt a0 0) != 98) = false := bne_eq_false_iff_eq.mpr c52
                            clear c52
                            by_cases c53 : ((bt a0 x3_1) = 49)
                            · rw [if_pos c53] at H
                              have c53b0 : ((bt a0 x3_1) == 49) = true := beq_iff_eq.mpr c53
                              have c53b1 : ((bt a0 x3_1) != 49) = false := bne_eq_false_iff_eq.mpr c53
                              clear c53
                              have H' := Aside0.mk H
                              clear H
                              have p5 : 0 ≤ (x3_1 : Int) := of_decide_eq_true (by first | (with_reducible assumption) | assumption)
                              have q5 : x3_1 < (a0.size : Int) := of_decide_eq_true (by first | (with_reducible assumption) | assumption)
                              have hx5 := bt_at a0 x3_1
                              replace p5 := eq_true p5
                              replace q5 := eq_true q5
                              go_wp2_with (first | ((with_reducible refine gate_callee (f := 70) rfl ?_); refine goesL_ (some 20) rfl rfl Tryz.func70 (by kernel_rfl) rfl #[.int .u8 (bt a0 x3_1)] rfl (by (try simp only [List.map_toArray, List.map_cons, List.map_nil]); first | done | rfl | (simp only [List.length_drop, List.length_take]; rfl)) ?_; (with_reducible refine (juristref03_digit.calls (bt a0 x3_1) false _ A6.out).mono ?_); rintro e w' ⟨rfl, ⟨nd, rfl⟩⟩; refine ⟨_, rfl, ?_⟩; have p45 : 0 ≤ (0 : Int) := (by omega); have q45 : 0 < a0.size := (by have : (0 : Int) < (a0.size : Int) := of_decide_eq_true (by first | (with_reducible assumption) | assumption); omega); have hx45 : ∀ h : 0 < a0.size, ((a0[0]'h).toNat : Int) = bt a0 0 := bt_at a0 0; clear p45; have qi45 : (0 < (a0.size : Int)) = True := eq_true (of_decide_eq_true (by first | (with_reducible assumption) | assumption)); replace q45 := eq_true q45; have p51 : 0 ≤ (0 : Int) := (by omega); have q51 : 0 < a0.size := (by have : (0 : Int) < (a0.size : Int) := of_decide_eq_true (by first | (with_reducible assumption) | assumption); omega); have hx51 : ∀ h : 0 < a0.size, ((a0[0]'h).toNat : Int) = bt a0 0 := bt_at a0 0; clear p51; have qi51 : (0 < (a0.size : Int)) = True := eq_true (of_decide_eq_true (by first | (with_reducible assumption) | assumption)); replace q51 := eq_true q51))
                              go_roundg k1
                              case measure => have := HK1.out; omega
                              case rel => exact ⟨(wrap64 (x3_1 + 1)), (by first | rfl | (simp; done) | (simp [*]; done)), H', ⟨by have := HK1.out; omega⟩, by repeat (first | exact Drawn0.refl _ | apply Drawn0.step)⟩
                            · rw [if_neg c53] at H
                              have c53b0 : ((bt a0 x3_1) == 49) = false := beq_eq_false_iff_ne.mpr c53
                              have c53b1 : ((bt a0 x3_1) != 49) = true := bne_iff_ne.mpr c53
                              obtain rfl := Option.some.inj H
                              have p5 : 0 ≤ (x3_1 : Int) := of_decide_eq_true (by first | (with_reducible assumption) | assumption)
                              have q5 : x3_1 < (a0.size : Int) := of_decide_eq_true (by first | (with_reducible assumption) | assumption)
                              have hx5 := bt_at a0 x3_1
                              replace p5 := eq_true p5
                              replace q5 := eq_true q5
                              go_wp2_with (first | ((with_reducible refine gate_callee (f := 70) rfl ?_); refine goesL_ (some 20) rfl rfl Tryz.func70 (by kernel_rfl) rfl #[.int .u8 (bt a0 x3_1)] rfl (by (try simp only [List.map_toArray, List.map_cons, List.map_nil]); first | done | rfl | (simp only [List.length_drop, List.length_take]; rfl)) ?_; (with_reducible refine (juristref03_digit.calls (bt a0 x3_1) false _ A6.out).mono ?_); rintro e w' ⟨rfl, ⟨nd, rfl⟩⟩; refine ⟨_, rfl, ?_⟩; have p45 : 0 ≤ (0 : Int) := (by omega); have q45 : 0 < a0.size := (by have : (0 : Int) < (a0.size : Int) := of_decide_eq_true (by first | (with_reducible assumption) | assumption); omega); have hx45 : ∀ h : 0 < a0.size, ((a0[0]'h).toNat : Int) = bt a0 0 := bt_at a0 0; clear p45; have qi45 : (0 < (a0.size : Int)) = True := eq_true (of_decide_eq_true (by first | (with_reducible assumption) | assumption)); replace q45 := eq_true q45; have p51 : 0 ≤ (0 : Int) := (by omega); have q51 : 0 < a0.size := (by have : (0 : Int) < (a0.size : Int) := of_decide_eq_true (by first | (with_reducible assumption) | assumption); omega); have hx51 : ∀ h : 0 < a0.size, ((a0[0]'h).toNat : Int) = bt a0 0 := bt_at a0 0; clear p51; have qi51 : (0 < (a0.size : Int)) = True := eq_true (of_decide_eq_true (by first | (with_reducible assumption) | assumption)); replace q51 := eq_true q51))
                              go_ret
                              exact ⟨by first | rfl | (simp; done) | (simp [*]; done), by repeat (first | exact Drawn0.refl _ | apply Drawn0.step)⟩
                          · rw [if_neg c52] at H
                            have c52b0 : ((bt a0 0) == 98) = false := beq_eq_false_iff_ne.mpr c52
                            have c52b1 : ((bt a0 0) != 98) = true := bne_iff_ne.mpr c52
                            obtain rfl := Option.some.inj H
                            have p5 : 0 ≤ (x3_1 : Int) := of_decide_eq_true (by first | (with_reducible assumption) | assumption)
                            have q5 : x3_1 < (a0.size : Int) := of_decide_eq_true (by first | (with_reducible assumption) | assumption)
                            have hx5 := bt_at a0 x3_1
                            replace p5 := eq_true p5
                            replace q5 := eq_true q5
                            go_wp2_with (first | ((with_reducible refine gate_callee (f := 70) rfl ?_); refine goesL_ (some 20) rfl rfl Tryz.func70 (by kernel_rfl) rfl #[.int .u8 (bt a0 x3_1)] rfl (by (try simp only [List.map_toArray, List.map_cons, List.map_nil]); first | done | rfl | (simp only [List.length_drop, List.length_take]; rfl)) ?_; (with_reducible refine (juristref03_digit.calls (bt a0 x3_1) false _ A6.out).mono ?_); rintro e w' ⟨rfl, ⟨nd, rfl⟩⟩; refine ⟨_, rfl, ?_⟩; have p45 : 0 ≤ (0 : Int) := (by omega); have q45 : 0 < a0.size := (by have : (0 : Int) < (a0.size : Int) := of_decide_eq_true (by first | (with_reducible assumption) | assumption); omega); have hx45 : ∀ h : 0 < a0.size, ((a0[0]'h).toNat : Int) = bt a0 0 := bt_at a0 0; clear p45; have qi45 : (0 < (a0.size : Int)) = True := eq_true (of_decide_eq_true (by first | (with_reducible assumption) | assumption)); replace q45 := eq_true q45; have p51 : 0 ≤ (0 : Int) := (by omega); have q51 : 0 < a0.size := (by have : (0 : Int) < (a0.size : Int) := of_decide_eq_true (by first | (with_reducible assumption) | assumption); omega); have hx51 : ∀ h : 0 < a0.size, ((a0[0]'h).toNat : Int) = bt a0 0 := bt_at a0 0; clear p51; have qi51 : (0 < (a0.size : Int)) = True := eq_true (of_decide_eq_true (by first | (with_reducible assumption) | assumption)); replace q51 := eq_true q51))
                            go_ret
                            exact ⟨by first | rfl | (simp; done) | (simp [*]; done), by repeat (first | exact Drawn0.refl _ | apply Drawn0.step)⟩
                      · rw [if_neg c44] at H
                        exact absurd H (by simp)
                  · rw [if_neg c34] at H
                    have c34b0 : decide (65 ≤ (bt a0 x3_1)) = false := decide_eq_false c34
                    clear c34
                    by_cases c54 : (bt a0 x3_1) = 48
                    · rw [if_pos c54] at H
                      have c54b0 : ((bt a0 x3_1) == 48) = true := beq_iff_eq.mpr c54
                      have c54b1 : ((bt a0 x3_1) != 48) = false := bne_eq_false_iff_eq.mpr c54
                      clear c54
                      by_cases c55 : 0 < (a0.size : Int)
                      · rw [if_pos c55] at H
                        have c55b0 : decide (0 < (a0.size : Int)) = true := decide_eq_true c55
                        have c55b1 : decide (0 < a0.size) = true := decide_eq_true (by omega)
                        clear c55
                        by_cases c57 : (bt a0 0) = 120
                        · rw [if_pos c57] at H
                          have c57b0 : ((bt a0 0) == 120) = true := beq_iff_eq.mpr c57
                          have c57b1 : ((bt a0 0) != 120) = false := bne_eq_false_iff_eq.mpr c57
                          clear c57
                          by_cases c59 : (bt a0 0) = 98
                          · rw [if_pos c59] at H
                            have c59b0 : ((bt a0 0) == 98) = true := beq_iff_eq.mpr c59
                            have c59b1 : ((bt a0 0) != 98) = false := bne_eq_false_iff_eq.mpr c59
                            clear c59
                            have H' := Aside0.mk H
                            clear H
                            have p5 : 0 ≤ (x3_1 : Int) := of_decide_eq_true (by first | (with_reducible assumption) | assumption)
                            have q5 : x3_1 < (a0.size : Int) := of_decide_eq_true (by first | (with_reducible assumption) | assumption)
                            have hx5 := bt_at a0 x3_1
                            replace p5 := eq_true p5
                            replace q5 := eq_true q5
                            go_wp2_with (first | ((with_reducible refine gate_callee (f := 70) rfl ?_); refine goesL_ (some 20) rfl rfl Tryz.func70 (by kernel_rfl) rfl #[.int .u8 (bt a0 x3_1)] rfl (by (try simp only [List.map_toArray, List.map_cons, List.map_nil]); first | done | rfl | (simp only [List.length_drop, List.length_take]; rfl)) ?_; (with_reducible refine (juristref03_digit.calls (bt a0 x3_1) false _ A6.out).mono ?_); rintro e w' ⟨rfl, ⟨nd, rfl⟩⟩; refine ⟨_, rfl, ?_⟩; have p56 : 0 ≤ (0 : Int) := (by omega); have q56 : 0 < a0.size := (by have : (0 : Int) < (a0.size : Int) := of_decide_eq_true (by first | (with_reducible assumption) | assumption); omega); have hx56 : ∀ h : 0 < a0.size, ((a0[0]'h).toNat : Int) = bt a0 0 := bt_at a0 0; clear p56; have qi56 : (0 < (a0.size : Int)) = True := eq_true (of_decide_eq_true (by first | (with_reducible assumption) | assumption)); replace q56 := eq_true q56; have p58 : 0 ≤ (0 : Int) := (by omega); have q58 : 0 < a0.size := (by have : (0 : Int) < (a0.size : Int) := of_decide_eq_true (by first | (with_reducible assumption) | assumption); omega); have hx58 : ∀ h : 0 < a0.size, ((a0[0]'h).toNat : Int) = bt a0 0 := bt_at a0 0; clear p58; have qi58 : (0 < (a0.size : Int)) = True := eq_true (of_decide_eq_true (by first | (with_reducible assumption) | assumption)); replace q58 := eq_true q58))
                            go_roundg k1
                            case measure => have := HK1.out; omega
                            case rel => exact ⟨(wrap64 (x3_1 + 1)), (by first | rfl | (simp; done) | (simp [*]; done)), H', ⟨by have := HK1.out; omega⟩, by repeat (first | exact Drawn0.refl _ | apply Drawn0.step)⟩
                          · rw [if_neg c59] at H
                            have c59b0 : ((bt a0 0) == 98) = false := beq_eq_false_iff_ne.mpr c59
                            have c59b1 : ((bt a0 0) != 98) = true := bne_iff_ne.mpr c59
                            obtain rfl := Option.some.inj H
                            have p5 : 0 ≤ (x3_1 : Int) := of_decide_eq_true (by first | (with_reducible assumption) | assumption)
                            have q5 : x3_1 < (a0.size : Int) := of_decide_eq_true (by first | (with_reducible assumption) | assumption)
                            have hx5 := bt_at a0 x3_1
                            replace p5 := eq_true p5
                            replace q5 := eq_true q5
                            go_wp2_with (first | ((with_reducible refine gate_callee (f := 70) rfl ?_); refine goesL_ (some 20) rfl rfl Tryz.func70 (by kernel_rfl) rfl #[.int .u8 (bt a0 x3_1)] rfl (by (try simp only [List.map_toArray, List.map_cons, List.map_nil]); first | done | rfl | (simp only [List.length_drop, List.length_take]; rfl)) ?_; (with_reducible refine (juristref03_digit.calls (bt a0 x3_1) false _ A6.out).mono ?_); rintro e w' ⟨rfl, ⟨nd, rfl⟩⟩; refine ⟨_, rfl, ?_⟩; have p56 : 0 ≤ (0 : Int) := (by omega); have q56 : 0 < a0.size := (by have : (0 : Int) < (a0.size : Int) := of_decide_eq_true (by first | (with_reducible assumption) | assumption); omega); have hx56 : ∀ h : 0 < a0.size, ((a0[0]'h).toNat : Int) = bt a0 0 := bt_at a0 0; clear p56; have qi56 : (0 < (a0.size : Int)) = True := eq_true (of_decide_eq_true (by first | (with_reducible assumption) | assumption)); replace q56 := eq_true q56; have p58 : 0 ≤ (0 : Int) := (by omega); have q58 : 0 < a0.size := (by have : (0 : Int) < (a0.size : Int) := of_decide_eq_true (by first | (with_reducible assumption) | assumption); omega); have hx58 : ∀ h : 0 < a0.size, ((a0[0]'h).toNat : Int) = bt a0 0 := bt_at a0 0; clear p58; have qi58 : (0 < (a0.size : Int)) = True := eq_true (of_decide_eq_true (by first | (with_reducible assumption) | assumption)); replace q58 := eq_true q58))
                            go_ret
                            exact ⟨by first | rfl | (simp; done) | (simp [*]; done), by repeat (first | exact Drawn0.refl _ | apply Drawn0.step)⟩
                        · rw [if_neg c57] at H
                          have c57b0 : ((bt a0 0) == 120) = false := beq_eq_false_iff_ne.mpr c57
                          have c57b1 : ((bt a0 0) != 120) = true := bne_iff_ne.mpr c57
                          by_cases c61 : (bt a0 0) = 98
                          · rw [if_pos c61] at H
                            have c61b0 : ((bt a0 0) == 98) = true := beq_iff_eq.mpr c61
                            have c61b1 : ((bt a0 0) != 98) = false := bne_eq_false_iff_eq.mpr c61
                            clear c61
                            have H' := Aside0.mk H
                            clear H
                            have p5 : 0 ≤ (x3_1 : Int) := of_decide_eq_true (by first | (with_reducible assumption) | assumption)
                            have q5 : x3_1 < (a0.size : Int) := of_decide_eq_true (by first | (with_reducible assumption) | assumption)
                            have hx5 := bt_at a0 x3_1
                            replace p5 := eq_true p5
                            replace q5 := eq_true q5
                            go_wp2_with (first | ((with_reducible refine gate_callee (f := 70) rfl ?_); refine goesL_ (some 20) rfl rfl Tryz.func70 (by kernel_rfl) rfl #[.int .u8 (bt a0 x3_1)] rfl (by (try simp only [List.map_toArray, List.map_cons, List.map_nil]); first | done | rfl | (simp only [List.length_drop, List.length_take]; rfl)) ?_; (with_reducible refine (juristref03_digit.calls (bt a0 x3_1) false _ A6.out).mono ?_); rintro e w' ⟨rfl, ⟨nd, rfl⟩⟩; refine ⟨_, rfl, ?_⟩; have p56 : 0 ≤ (0 : Int) := (by omega); have q56 : 0 < a0.size := (by have : (0 : Int) < (a0.size : Int) := of_decide_eq_true (by first | (with_reducible assumption) | assumption); omega); have hx56 : ∀ h : 0 < a0.size, ((a0[0]'h).toNat : Int) = bt a0 0 := bt_at a0 0; clear p56; have qi56 : (0 < (a0.size : Int)) = True := eq_true (of_decide_eq_true (by first | (with_reducible assumption) | assumption)); replace q56 := eq_true q56; have p60 : 0 ≤ (0 : Int) := (by omega); have q60 : 0 < a0.size := (by have : (0 : Int) < (a0.size : Int) := of_decide_eq_true (by first | (with_reducible assumption) | assumption); omega); have hx60 : ∀ h : 0 < a0.size, ((a0[0]'h).toNat : Int) = bt a0 0 := bt_at a0 0; clear p60; have qi60 : (0 < (a0.size : Int)) = True := eq_true (of_decide_eq_true (by first | (with_reducible assumption) | assumption)); replace q60 := eq_true q60))
                            go_roundg k1
                            case measure => have := HK1.out; omega
                            case rel => exact ⟨(wrap64 (x3_1 + 1)), (by first | rfl | (simp; done) | (simp [*]; done)), H', ⟨by have := HK1.out; omega⟩, by repeat (first | exact Drawn0.refl _ | apply Drawn0.step)⟩
                          · rw [if_neg c61] at H
                            have c61b0 : ((bt a0 0) == 98) = false := beq_eq_false_iff_ne.mpr c61
                            have c61b1 : ((bt a0 0) != 98) = true := bne_iff_ne.mpr c61
                            obtain rfl := Option.some.inj H
                            have p5 : 0 ≤ (x3_1 : Int) := of_decide_eq_true (by first | (with_reducible assumption) | assumption)
                            have q5 : x3_1 < (a0.size : Int) := of_decide_eq_true (by first | (with_reducible assumption) | assumption)
                            have hx5 := bt_at a0 x3_1
                            replace p5 := eq_true p5
                            replace q5 := eq_true q5
                            go_wp2_with (first | ((with_reducible refine gate_callee (f := 70) rfl ?_); refine goesL_ (some 20) rfl rfl Tryz.func70 (by kernel_rfl) rfl #[.int .u8 (bt a0 x3_1)] rfl (by (try simp only [List.map_toArray, List.map_cons, List.map_nil]); first | done | rfl | (simp only [List.length_drop, List.length_take]; rfl)) ?_; (with_reducible refine (juristref03_digit.calls (bt a0 x3_1) false _ A6.out).mono ?_); rintro e w' ⟨rfl, ⟨nd, rfl⟩⟩; refine ⟨_, rfl, ?_⟩; have p56 : 0 ≤ (0 : Int) := (by omega); have q56 : 0 < a0.size := (by have : (0 : Int) < (a0.size : Int) := of_decide_eq_true (by first | (with_reducible assumption) | assumption); omega); have hx56 : ∀ h : 0 < a0.size, ((a0[0]'h).toNat : Int) = bt a0 0 := bt_at a0 0; clear p56; have qi56 : (0 < (a0.size : Int)) = True := eq_true (of_decide_eq_true (by first | (with_reducible assumption) | assumption)); replace q56 := eq_true q56; have p60 : 0 ≤ (0 : Int) := (by omega); have q60 : 0 < a0.size := (by have : (0 : Int) < (a0.size : Int) := of_decide_eq_true (by first | (with_reducible assumption) | assumption); omega); have hx60 : ∀ h : 0 < a0.size, ((a0[0]'h).toNat : Int) = bt a0 0 := bt_at a0 0; clear p60; have qi60 : (0 < (a0.size : Int)) = True := eq_true (of_decide_eq_true (by first | (with_reducible assumption) | assumption)); replace q60 := eq_true q60))
                            go_ret
                            exact ⟨by first | rfl | (simp; done) | (simp [*]; done), by repeat (first | exact Drawn0.refl _ | apply Drawn0.step)⟩
                      · rw [if_neg c55] at H
                        exact absurd H (by simp)
                    · rw [if_neg c54] at H
                      have c54b0 : ((bt a0 x3_1) == 48) = false := beq_eq_false_iff_ne.mpr c54
                      have c54b1 : ((bt a0 x3_1) != 48) = true := bne_iff_ne.mpr c54
                      by_cases c62 : 0 < (a0.size : Int)
                      · rw [if_pos c62] at H
                        have c62b0 : decide (0 < (a0.size : Int)) = true := decide_eq_true c62
                        have c62b1 : decide (0 < a0.size) = true := decide_eq_true (by omega)
                        clear c62
                        by_cases c64 : (bt a0 0) = 120
                        · rw [if_pos c64] at H
                          have c64b0 : ((bt a0 0) == 120) = true := beq_iff_eq.mpr c64
                          have c64b1 : ((bt a0 0) != 120) = false := bne_eq_false_iff_eq.mpr c64
                          clear c64
                          by_cases c66 : (bt a0 0) = 98
                          · rw [if_pos c66] at H
                            have c66b0 : ((bt a0 0) == 98) = true := beq_iff_eq.mpr c66
                            have c66b1 : ((bt a0 0) != 98) = false := bne_eq_false_iff_eq.mpr c66
                            clear c66
                            by_cases c67 : ((bt a0 x3_1) = 49)
                            · rw [if_pos c67] at H
                              have c67b0 : ((bt a0 x3_1) == 49) = true := beq_iff_eq.mpr c67
                              have c67b1 : ((bt a0 x3_1) != 49) = false := bne_eq_false_iff_eq.mpr c67
                              clear c67
                              have H' := Aside0.mk H
                              clear H
                              have p5 : 0 ≤ (x3_1 : Int) := of_decide_eq_true (by first | (with_reducible assumption) | assumption)
                              have q5 : x3_1 < (a0.size : Int) := of_decide_eq_true (by first | (with_reducible assumption) | assumption)
                              have hx5 := bt_at a0 x3_1
                              replace p5 := eq_true p5
                              replace q5 := eq_true q5
                              go_wp2_with (first | ((with_reducible refine gate_callee (f := 70) rfl ?_); refine goesL_ (some 20) rfl rfl Tryz.func70 (by kernel_rfl) rfl #[.int .u8 (bt a0 x3_1)] rfl (by (try simp only [List.map_toArray, List.map_cons, List.map_nil]); first | done | rfl | (simp only [List.length_drop, List.length_take]; rfl)) ?_; (with_reducible refine (juristref03_digit.calls (bt a0 x3_1) false _ A6.out).mono ?_); rintro e w' ⟨rfl, ⟨nd, rfl⟩⟩; refine ⟨_, rfl, ?_⟩; have p63 : 0 ≤ (0 : Int) := (by omega); have q63 : 0 < a0.size := (by have : (0 : Int) < (a0.size : Int) := of_decide_eq_true (by first | (with_reducible assumption) | assumption); omega); have hx63 : ∀ h : 0 < a0.size, ((a0[0]'h).toNat : Int) = bt a0 0 := bt_at a0 0; clear p63; have qi63 : (0 < (a0.size : Int)) = True := eq_true (of_decide_eq_true (by first | (with_reducible assumption) | assumption)); replace q63 := eq_true q63; have p65 : 0 ≤ (0 : Int) := (by omega); have q65 : 0 < a0.size := (by have : (0 : Int) < (a0.size : Int) := of_decide_eq_true (by first | (with_reducible assumption) | assumption); omega); have hx65 : ∀ h : 0 < a0.size, ((a0[0]'h).toNat : Int) = bt a0 0 := bt_at a0 0; clear p65; have qi65 : (0 < (a0.size : Int)) = True := eq_true (of_decide_eq_true (by first | (with_reducible assumption) | assumption)); replace q65 := eq_true q65))
                              go_roundg k1
                              case measure => have := HK1.out; omega
                              case rel => exact ⟨(wrap64 (x3_1 + 1)), (by first | rfl | (simp; done) | (simp [*]; done)), H', ⟨by have := HK1.out; omega⟩, by repeat (first | exact Drawn0.refl _ | apply Drawn0.step)⟩
                            · rw [if_neg c67] at H
                              have c67b0 : ((bt a0 x3_1) == 49) = false := beq_eq_false_iff_ne.mpr c67
                              have c67b1 : ((bt a0 x3_1) != 49) = true := bne_iff_ne.mpr c67
                              obtain rfl := Option.some.inj H
                              have p5 : 0 ≤ (x3_1 : Int) := of_decide_eq_true (by first | (with_reducible assumption) | assumption)
                              have q5 : x3_1 < (a0.size : Int) := of_decide_eq_true (by first | (with_reducible assumption) | assumption)
                              have hx5 := bt_at a0 x3_1
                              replace p5 := eq_true p5
                              replace q5 := eq_true q5
                              go_wp2_with (first | ((with_reducible refine gate_callee (f := 70) rfl ?_); refine goesL_ (some 20) rfl rfl Tryz.func70 (by kernel_rfl) rfl #[.int .u8 (bt a0 x3_1)] rfl (by (try simp only [List.map_toArray, List.map_cons, List.map_nil]); first | done | rfl | (simp only [List.length_drop, List.length_take]; rfl)) ?_; (with_reducible refine (juristref03_digit.calls (bt a0 x3_1) false _ A6.out).mono ?_); rintro e w' ⟨rfl, ⟨nd, rfl⟩⟩; refine ⟨_, rfl, ?_⟩; have p63 : 0 ≤ (0 : Int) := (by omega); have q63 : 0 < a0.size := (by have : (0 : Int) < (a0.size : Int) := of_decide_eq_true (by first | (with_reducible assumption) | assumption); omega); have hx63 : ∀ h : 0 < a0.size, ((a0[0]'h).toNat : Int) = bt a0 0 := bt_at a0 0; clear p63; have qi63 : (0 < (a0.size : Int)) = True := eq_true (of_decide_eq_true (by first | (with_reducible assumption) | assumption)); replace q63 := eq_true q63; have p65 : 0 ≤ (0 : Int) := (by omega); have q65 : 0 < a0.size := (by have : (0 : Int) < (a0.size : Int) := of_decide_eq_true (by first | (with_reducible assumption) | assumption); omega); have hx65 : ∀ h : 0 < a0.size, ((a0[0]'h).toNat : Int) = bt a0 0 := bt_at a0 0; clear p65; have qi65 : (0 < (a0.size : Int)) = True := eq_true (of_decide_eq_true (by first | (with_reducible assumption) | assumption)); replace q65 := eq_true q65))
                              go_ret
                              exact ⟨by first | rfl | (simp; done) | (simp [*]; done), by repeat (first | exact Drawn0.refl _ | apply Drawn0.step)⟩
                          · rw [if_neg c66] at H
                            have c66b0 : ((bt a0 0) == 98) = false := beq_eq_false_iff_ne.mpr c66
                            have c66b1 : ((bt a0 0) != 98) = true := bne_iff_ne.mpr c66
                            obtain rfl := Option.some.inj H
                            have p5 : 0 ≤ (x3_1 : Int) := of_decide_eq_true (by first | (with_reducible assumption) | assumption)
                            have q5 : x3_1 < (a0.size : Int) := of_decide_eq_true (by first | (with_reducible assumption) | assumption)
                            have hx5 := bt_at a0 x3_1
                            replace p5 := eq_true p5
                            replace q5 := eq_true q5
                            go_wp2_with (first | ((with_reducible refine gate_callee (f := 70) rfl ?_); refine goesL_ (some 20) rfl rfl Tryz.func70 (by kernel_rfl) rfl #[.int .u8 (bt a0 x3_1)] rfl (by (try simp only [List.map_toArray, List.map_cons, List.map_nil]); first | done | rfl | (simp only [List.length_drop, List.length_take]; rfl)) ?_; (with_reducible refine (juristref03_digit.calls (bt a0 x3_1) false _ A6.out).mono ?_); rintro e w' ⟨rfl, ⟨nd, rfl⟩⟩; refine ⟨_, rfl, ?_⟩; have p63 : 0 ≤ (0 : Int) := (by omega); have q63 : 0 < a0.size := (by have : (0 : Int) < (a0.size : Int) := of_decide_eq_true (by first | (with_reducible assumption) | assumption); omega); have hx63 : ∀ h : 0 < a0.size, ((a0[0]'h).toNat : Int) = bt a0 0 := bt_at a0 0; clear p63; have qi63 : (0 < (a0.size : Int)) = True := eq_true (of_decide_eq_true (by first | (with_reducible assumption) | assumption)); replace q63 := eq_true q63; have p65 : 0 ≤ (0 : Int) := (by omega); have q65 : 0 < a0.size := (by have : (0 : Int) < (a0.size : Int) := of_decide_eq_true (by first | (with_reducible assumption) | assumption); omega); have hx65 : ∀ h : 0 < a0.size, ((a0[0]'h).toNat : Int) = bt a0 0 := bt_at a0 0; clear p65; have qi65 : (0 < (a0.size : Int)) = True := eq_true (of_decide_eq_true (by first | (with_reducible assumption) | assumption)); replace q65 := eq_true q65))
                            go_ret
                            exact ⟨by first | rfl | (simp; done) | (simp [*]; done), by repeat (first | exact Drawn0.refl _ | apply Drawn0.step)⟩
                        · rw [if_neg c64] at H
                          have c64b0 : ((bt a0 0) == 120) = false := beq_eq_false_iff_ne.mpr c64
                          have c64b1 : ((bt a0 0) != 120) = true := bne_iff_ne.mpr c64
                          by_cases c69 : (bt a0 0) = 98
                          · rw [if_pos c69] at H
                            have c69b0 : ((bt a0 0) == 98) = true := beq_iff_eq.mpr c69
                            have c69b1 : ((bt a0 0) != 98) = false := bne_eq_false_iff_eq.mpr c69
                            clear c69
                            by_cases c70 : ((bt a0 x3_1) = 49)
                            · rw [if_pos c70] at H
                              have c70b0 : ((bt a0 x3_1) == 49) = true := beq_iff_eq.mpr c70
                              have c70b1 : ((bt a0 x3_1) != 49) = false := bne_eq_false_iff_eq.mpr c70
                              clear c70
                              have H' := Aside0.mk H
                              clear H
                              have p5 : 0 ≤ (x3_1 : Int) := of_decide_eq_true (by first | (with_reducible assumption) | assumption)
                              have q5 : x3_1 < (a0.size : Int) := of_decide_eq_true (by first | (with_reducible assumption) | assumption)
                              have hx5 := bt_at a0 x3_1
                              replace p5 := eq_true p5
                              replace q5 := eq_true q5
                              go_wp2_with (first | ((with_reducible refine gate_callee (f := 70) rfl ?_); refine goesL_ (some 20) rfl rfl Tryz.func70 (by kernel_rfl) rfl #[.int .u8 (bt a0 x3_1)] rfl (by (try simp only [List.map_toArray, List.map_cons, List.map_nil]); first | done | rfl | (simp only [List.length_drop, List.length_take]; rfl)) ?_; (with_reducible refine (juristref03_digit.calls (bt a0 x3_1) false _ A6.out).mono ?_); rintro e w' ⟨rfl, ⟨nd, rfl⟩⟩; refine ⟨_, rfl, ?_⟩; have p63 : 0 ≤ (0 : Int) := (by omega); have q63 : 0 < a0.size := (by have : (0 : Int) < (a0.size : Int) := of_decide_eq_true (by first | (with_reducible assumption) | assumption); omega); have hx63 : ∀ h : 0 < a0.size, ((a0[0]'h).toNat : Int) = bt a0 0 := bt_at a0 0; clear p63; have qi63 : (0 < (a0.size : Int)) = True := eq_true (of_decide_eq_true (by first | (with_reducible assumption) | assumption)); replace q63 := eq_true q63; have p68 : 0 ≤ (0 : Int) := (by omega); have q68 : 0 < a0.size := (by have : (0 : Int) < (a0.size : Int) := of_decide_eq_true (by first | (with_reducible assumption) | assumption); omega); have hx68 : ∀ h : 0 < a0.size, ((a0[0]'h).toNat : Int) = bt a0 0 := bt_at a0 0; clear p68; have qi68 : (0 < (a0.size : Int)) = True := eq_true (of_decide_eq_true (by first | (with_reducible assumption) | assumption)); replace q68 := eq_true q68))
                              go_roundg k1
                              case measure => have := HK1.out; omega
                              case rel => exact ⟨(wrap64 (x3_1 + 1)), (by first | rfl | (simp; done) | (simp [*]; done)), H', ⟨by have := HK1.out; omega⟩, by repeat (first | exact Drawn0.refl _ | apply Drawn0.step)⟩
                            · rw [if_neg c70] at H
                              have c70b0 : ((bt a0 x3_1) == 49) = false := beq_eq_false_iff_ne.mpr c70
                              have c70b1 : ((bt a0 x3_1) != 49) = true := bne_iff_ne.mpr c70
                              obtain rfl := Option.some.inj H
                              have p5 : 0 ≤ (x3_1 : Int) := of_decide_eq_true (by first | (with_reducible assumption) | assumption)
                              have q5 : x3_1 < (a0.size : Int) := of_decide_eq_true (by first | (with_reducible assumption) | assumption)
                              have hx5 := bt_at a0 x3_1
                              replace p5 := eq_true p5
                              replace q5 := eq_true q5
                              go_wp2_with (first | ((with_reducible refine gate_callee (f := 70) rfl ?_); refine goesL_ (some 20) rfl rfl Tryz.func70 (by kernel_rfl) rfl #[.int .u8 (bt a0 x3_1)] rfl (by (try simp only [List.map_toArray, List.map_cons, List.map_nil]); first | done | rfl | (simp only [List.length_drop, List.length_take]; rfl)) ?_; (with_reducible refine (juristref03_digit.calls (bt a0 x3_1) false _ A6.out).mono ?_); rintro e w' ⟨rfl, ⟨nd, rfl⟩⟩; refine ⟨_, rfl, ?_⟩; have p63 : 0 ≤ (0 : Int) := (by omega); have q63 : 0 < a0.size := (by have : (0 : Int) < (a0.size : Int) := of_decide_eq_true (by first | (with_reducible assumption) | assumption); omega); have hx63 : ∀ h : 0 < a0.size, ((a0[0]'h).toNat : Int) = bt a0 0 := bt_at a0 0; clear p63; have qi63 : (0 < (a0.size : Int)) = True := eq_true (of_decide_eq_true (by first | (with_reducible assumption) | assumption)); replace q63 := eq_true q63; have p68 : 0 ≤ (0 : Int) := (by omega); have q68 : 0 < a0.size := (by have : (0 : Int) < (a0.size : Int) := of_decide_eq_true (by first | (with_reducible assumption) | assumption); omega); have hx68 : ∀ h : 0 < a0.size, ((a0[0]'h).toNat : Int) = bt a0 0 := bt_at a0 0; clear p68; have qi68 : (0 < (a0.size : Int)) = True := eq_true (of_decide_eq_true (by first | (with_reducible assumption) | assumption)); replace q68 := eq_true q68))
                              go_ret
                              exact ⟨by first | rfl | (simp; done) | (simp [*]; done), by repeat (first | exact Drawn0.refl _ | apply Drawn0.step)⟩
                          · rw [if_neg c69] at H
                            have c69b0 : ((bt a0 0) == 98) = false := beq_eq_false_iff_ne.mpr c69
                            have c69b1 : ((bt a0 0) != 98) = true := bne_iff_ne.mpr c69
                            obtain rfl := Option.some.inj H
                            have p5 : 0 ≤ (x3_1 : Int) := of_decide_eq_true (by first | (with_reducible assumption) | assumption)
                            have q5 : x3_1 < (a0.size : Int) := of_decide_eq_true (by first | (with_reducible assumption) | assumption)
                            have hx5 := bt_at a0 x3_1
                            replace p5 := eq_true p5
                            replace q5 := eq_true q5
                            go_wp2_with (first | ((with_reducible refine gate_callee (f := 70) rfl ?_); refine goesL_ (some 20) rfl rfl Tryz.func70 (by kernel_rfl) rfl #[.int .u8 (bt a0 x3_1)] rfl (by (try simp only [List.map_toArray, List.map_cons, List.map_nil]); first | done | rfl | (simp only [List.length_drop, List.length_take]; rfl)) ?_; (with_reducible refine (juristref03_digit.calls (bt a0 x3_1) false _ A6.out).mono ?_); rintro e w' ⟨rfl, ⟨nd, rfl⟩⟩; refine ⟨_, rfl, ?_⟩; have p63 : 0 ≤ (0 : Int) := (by omega); have q63 : 0 < a0.size := (by have : (0 : Int) < (a0.size : Int) := of_decide_eq_true (by first | (with_reducible assumption) | assumption); omega); have hx63 : ∀ h : 0 < a0.size, ((a0[0]'h).toNat : Int) = bt a0 0 := bt_at a0 0; clear p63; have qi63 : (0 < (a0.size : Int)) = True := eq_true (of_decide_eq_true (by first | (with_reducible assumption) | assumption)); replace q63 := eq_true q63; have p68 : 0 ≤ (0 : Int) := (by omega); have q68 : 0 < a0.size := (by have : (0 : Int) < (a0.size : Int) := of_decide_eq_true (by first | (with_reducible assumption) | assumption); omega); have hx68 : ∀ h : 0 < a0.size, ((a0[0]'h).toNat : Int) = bt a0 0 := bt_at a0 0; clear p68; have qi68 : (0 < (a0.size : Int)) = True := eq_true (of_decide_eq_true (by first | (with_reducible assumption) | assumption)); replace q68 := eq_true q68))
                            go_ret
                            exact ⟨by first | rfl | (simp; done) | (simp [*]; done), by repeat (first | exact Drawn0.refl _ | apply Drawn0.step)⟩
                      · rw [if_neg c62] at H
                        exact absurd H (by simp)
              · rw [if_neg c20] at H
                have c20b0 : decide (97 ≤ (bt a0 x3_1)) = false := decide_eq_false c20
                clear c20
                by_cases c71 : (bt a0 x3_1) ≥ 65
                · rw [if_pos c71] at H
                  have c71b0 : decide (65 ≤ (bt a0 x3_1)) = true := decide_eq_true c71
                  clear c71
                  by_cases c72 : (bt a0 x3_1) = 48
                  · rw [if_pos c72] at H
                    have c72b0 : ((bt a0 x3_1) == 48) = true := beq_iff_eq.mpr c72
                    have c72b1 : ((bt a0 x3_1) != 48) = false := bne_eq_false_iff_eq.mpr c72
                    clear c72
                    by_cases c73 : 0 < (a0.size : Int)
                    · rw [if_pos c73] at H
                      have c73b0 : decide (0 < (a0.size : Int)) = true := decide_eq_true c73
                      have c73b1 : decide (0 < a0.size) = true := decide_eq_true (by omega)
                      clear c73
                      by_cases c75 : (bt a0 0) = 120
                      · rw [if_pos c75] at H
                        have c75b0 : ((bt a0 0) == 120) = true := beq_iff_eq.mpr c75
                        have c75b1 : ((bt a0 0) != 120) = false := bne_eq_false_iff_eq.mpr c75
                        clear c75
                        by_cases c76 : (bt a0 x3_1) ≤ 70
                        · rw [if_pos c76] at H
                          have c76b0 : decide ((bt a0 x3_1) ≤ 70) = true := decide_eq_true c76
                          clear c76
                          have H' := Aside0.mk H
                          clear H
                          have p5 : 0 ≤ (x3_1 : Int) := of_decide_eq_true (by first | (with_reducible assumption) | assumption)
                          have q5 : x3_1 < (a0.size : Int) := of_decide_eq_true (by first | (with_reducible assumption) | assumption)
                          have hx5 := bt_at a0 x3_1
                          replace p5 := eq_true p5
                          replace q5 := eq_true q5
                          go_wp2_with (first | ((with_reducible refine gate_callee (f := 70) rfl ?_); refine goesL_ (some 20) rfl rfl Tryz.func70 (by kernel_rfl) rfl #[.int .u8 (bt a0 x3_1)] rfl (by (try simp only [List.map_toArray, List.map_cons, List.map_nil]); first | done | rfl | (simp only [List.length_drop, List.length_take]; rfl)) ?_; (with_reducible refine (juristref03_digit.calls (bt a0 x3_1) false _ A6.out).mono ?_); rintro e w' ⟨rfl, ⟨nd, rfl⟩⟩; refine ⟨_, rfl, ?_⟩; have p74 : 0 ≤ (0 : Int) := (by omega); have q74 : 0 < a0.size := (by have : (0 : Int) < (a0.size : Int) := of_decide_eq_true (by first | (with_reducible assumption) | assumption); omega); have hx74 : ∀ h : 0 < a0.size, ((a0[0]'h).toNat : Int) = bt a0 0 := bt_at a0 0; clear p74; have qi74 : (0 < (a0.size : Int)) = True := eq_true (of_decide_eq_true (by first | (with_reducible assumption) | assumption)); replace q74 := eq_true q74))
                          go_roundg k1
                          case measure => have := HK1.out; omega
                          case rel => exact ⟨(wrap64 (x3_1 + 1)), (by first | rfl | (simp; done) | (simp [*]; done)), H', ⟨by have := HK1.out; omega⟩, by repeat (first | exact Drawn0.refl _ | apply Drawn0.step)⟩
                        · rw [if_neg c76] at H
                          have c76b0 : decide ((bt a0 x3_1) ≤ 70) = false := decide_eq_false c76
                          clear c76
                          by_cases c78 : (bt a0 0) = 98
                          · rw [if_pos c78] at H
                            have c78b0 : ((bt a0 0) == 98) = true := beq_iff_eq.mpr c78
                            have c78b1 : ((bt a0 0) != 98) = false := bne_eq_false_iff_eq.mpr c78
                            clear c78
                            have H' := Aside0.mk H
                            clear H
                            have p5 : 0 ≤ (x3_1 : Int) := of_decide_eq_true (by first | (with_reducible assumption) | assumption)
                            have q5 : x3_1 < (a0.size : Int) := of_decide_eq_true (by first | (with_reducible assumption) | assumption)
                            have hx5 := bt_at a0 x3_1
                            replace p5 := eq_true p5
                            replace q5 := eq_true q5
                            go_wp2_with (first | ((with_reducible refine gate_callee (f := 70) rfl ?_); refine goesL_ (some 20) rfl rfl Tryz.func70 (by kernel_rfl) rfl #[.int .u8 (bt a0 x3_1)] rfl (by (try simp only [List.map_toArray, List.map_cons, List.map_nil]); first | done | rfl | (simp only [List.length_drop, List.length_take]; rfl)) ?_; (with_reducible refine (juristref03_digit.calls (bt a0 x3_1) false _ A6.out).mono ?_); rintro e w' ⟨rfl, ⟨nd, rfl⟩⟩; refine ⟨_, rfl, ?_⟩; have p74 : 0 ≤ (0 : Int) := (by omega); have q74 : 0 < a0.size := (by have : (0 : Int) < (a0.size : Int) := of_decide_eq_true (by first | (with_reducible assumption) | assumption); omega); have hx74 : ∀ h : 0 < a0.size, ((a0[0]'h).toNat : Int) = bt a0 0 := bt_at a0 0; clear p74; have qi74 : (0 < (a0.size : Int)) = True := eq_true (of_decide_eq_true (by first | (with_reducible assumption) | assumption)); replace q74 := eq_true q74; have p77 : 0 ≤ (0 : Int) := (by omega); have q77 : 0 < a0.size := (by have : (0 : Int) < (a0.size : Int) := of_decide_eq_true (by first | (with_reducible assumption) | assumption); omega); have hx77 : ∀ h : 0 < a0.size, ((a0[0]'h).toNat : Int) = bt a0 0 := bt_at a0 0; clear p77; have qi77 : (0 < (a0.size : Int)) = True := eq_true (of_decide_eq_true (by first | (with_reducible assumption) | assumption)); replace q77 := eq_true q77))
                            go_roundg k1
                            case measure => have := HK1.out; omega
                            case rel => exact ⟨(wrap64 (x3_1 + 1)), (by first | rfl | (simp; done) | (simp [*]; done)), H', ⟨by have := HK1.out; omega⟩, by repeat (first | exact Drawn0.refl _ | apply Drawn0.step)⟩
                          · rw [if_neg c78] at H
                            have c78b0 : ((bt a0 0) == 98) = false := beq_eq_false_iff_ne.mpr c78
                            have c78b1 : ((bt a0 0) != 98) = true := bne_iff_ne.mpr c78
                            obtain rfl := Option.some.inj H
                            have p5 : 0 ≤ (x3_1 : Int) := of_decide_eq_true (by first | (with_reducible assumption) | assumption)
                            have q5 : x3_1 < (a0.size : Int) := of_decide_eq_true (by first | (with_reducible assumption) | assumption)
                            have hx5 := bt_at a0 x3_1
                            replace p5 := eq_true p5
                            replace q5 := eq_true q5
                            go_wp2_with (first | ((with_reducible refine gate_callee (f := 70) rfl ?_); refine goesL_ (some 20) rfl rfl Tryz.func70 (by kernel_rfl) rfl #[.int .u8 (bt a0 x3_1)] rfl (by (try simp only [List.map_toArray, List.map_cons, List.map_nil]); first | done | rfl | (simp only [List.length_drop, List.length_take]; rfl)) ?_; (with_reducible refine (juristref03_digit.calls (bt a0 x3_1) false _ A6.out).mono ?_); rintro e w' ⟨rfl, ⟨nd, rfl⟩⟩; refine ⟨_, rfl, ?_⟩; have p74 : 0 ≤ (0 : Int) := (by omega); have q74 : 0 < a0.size := (by have : (0 : Int) < (a0.size : Int) := of_decide_eq_true (by first | (with_reducible assumption) | assumption); omega); have hx74 : ∀ h : 0 < a0.size, ((a0[0]'h).toNat : Int) = bt a0 0 := bt_at a0 0; clear p74; have qi74 : (0 < (a0.size : Int)) = True := eq_true (of_decide_eq_true (by first | (with_reducible assumption) | assumption)); replace q74 := eq_true q74; have p77 : 0 ≤ (0 : Int) := (by omega); have q77 : 0 < a0.size := (by have : (0 : Int) < (a0.size : Int) := of_decide_eq_true (by first | (with_reducible assumption) | assumption); omega); have hx77 : ∀ h : 0 < a0.size, ((a0[0]'h).toNat : Int) = bt a0 0 := bt_at a0 0; clear p77; have qi77 : (0 < (a0.size : Int)) = True := eq_true (of_decide_eq_true (by first | (with_reducible assumption) | assumption)); replace q77 := eq_true q77))
                            go_ret
                            exact ⟨by first | rfl | (simp; done) | (simp [*]; done), by repeat (first | exact Drawn0.refl _ | apply Drawn0.step)⟩
                      · rw [if_neg c75] at H
                        have c75b0 : ((bt a0 0) == 120) = false := beq_eq_false_iff_ne.mpr c75
                        have c75b1 : ((bt a0 0) != 120) = true := bne_iff_ne.mpr c75
                        by_cases c80 : (bt a0 0) = 98
                        · rw [if_pos c80] at H
                          have c80b0 : ((bt a0 0) == 98) = true := beq_iff_eq.mpr c80
                          have c80b1 : ((bt a0 0) != 98) = false := bne_eq_false_iff_eq.mpr c80
                          clear c80
                          have H' := Aside0.mk H
                          clear H
                          have p5 : 0 ≤ (x3_1 : Int) := of_decide_eq_true (by first | (with_reducible assumption) | assumption)
                          have q5 : x3_1 < (a0.size : Int) := of_decide_eq_true (by first | (with_reducible assumption) | assumption)
                          have hx5 := bt_at a0 x3_1
                          replace p5 := eq_true p5
                          replace q5 := eq_true q5
                          go_wp2_with (first | ((with_reducible refine gate_callee (f := 70) rfl ?_); refine goesL_ (some 20) rfl rfl Tryz.func70 (by kernel_rfl) rfl #[.int .u8 (bt a0 x3_1)] rfl (by (try simp only [List.map_toArray, List.map_cons, List.map_nil]); first | done | rfl | (simp only [List.length_drop, List.length_take]; rfl)) ?_; (with_reducible refine (juristref03_digit.calls (bt a0 x3_1) false _ A6.out).mono ?_); rintro e w' ⟨rfl, ⟨nd, rfl⟩⟩; refine ⟨_, rfl, ?_⟩; have p74 : 0 ≤ (0 : Int) := (by omega); have q74 : 0 < a0.size := (by have : (0 : Int) < (a0.size : Int) := of_decide_eq_true (by first | (with_reducible assumption) | assumption); omega); have hx74 : ∀ h : 0 < a0.size, ((a0[0]'h).toNat : Int) = bt a0 0 := bt_at a0 0; clear p74; have qi74 : (0 < (a0.size : Int)) = True := eq_true (of_decide_eq_true (by first | (with_reducible assumption) | assumption)); replace q74 := eq_true q74; have p79 : 0 ≤ (0 : Int) := (by omega); have q79 : 0 < a0.size := (by have : (0 : Int) < (a0.size : Int) := of_decide_eq_true (by first | (with_reducible assumption) | assumption); omega); have hx79 : ∀ h : 0 < a0.size, ((a0[0]'h).toNat : Int) = bt a0 0 := bt_at a0 0; clear p79; have qi79 : (0 < (a0.size : Int)) = True := eq_true (of_decide_eq_true (by first | (with_reducible assumption) | assumption)); replace q79 := eq_true q79))
                          go_roundg k1
                          case measure => have := HK1.out; omega
                          case rel => exact ⟨(wrap64 (x3_1 + 1)), (by first | rfl | (simp; done) | (simp [*]; done)), H', ⟨by have := HK1.out; omega⟩, by repeat (first | exact Drawn0.refl _ | apply Drawn0.step)⟩
                        · rw [if_neg c80] at H
                          have c80b0 : ((bt a0 0) == 98) = false := beq_eq_false_iff_ne.mpr c80
                          have c80b1 : ((bt a0 0) != 98) = true := bne_iff_ne.mpr c80
                          obtain rfl := Option.some.inj H
                          have p5 : 0 ≤ (x3_1 : Int) := of_decide_eq_true (by first | (with_reducible assumption) | assumption)
                          have q5 : x3_1 < (a0.size : Int) := of_decide_eq_true (by first | (with_reducible assumption) | assumption)
                          have hx5 := bt_at a0 x3_1
                          replace p5 := eq_true p5
                          replace q5 := eq_true q5
                          go_wp2_with (first | ((with_reducible refine gate_callee (f := 70) rfl ?_); refine goesL_ (some 20) rfl rfl Tryz.func70 (by kernel_rfl) rfl #[.int .u8 (bt a0 x3_1)] rfl (by (try simp only [List.map_toArray, List.map_cons, List.map_nil]); first | done | rfl | (simp only [List.length_drop, List.length_take]; rfl)) ?_; (with_reducible refine (juristref03_digit.calls (bt a0 x3_1) false _ A6.out).mono ?_); rintro e w' ⟨rfl, ⟨nd, rfl⟩⟩; refine ⟨_, rfl, ?_⟩; have p74 : 0 ≤ (0 : Int) := (by omega); have q74 : 0 < a0.size := (by have : (0 : Int) < (a0.size : Int) := of_decide_eq_true (by first | (with_reducible assumption) | assumption); omega); have hx74 : ∀ h : 0 < a0.size, ((a0[0]'h).toNat : Int) = bt a0 0 := bt_at a0 0; clear p74; have qi74 : (0 < (a0.size : Int)) = True := eq_true (of_decide_eq_true (by first | (with_reducible assumption) | assumption)); replace q74 := eq_true q74; have p79 : 0 ≤ (0 : Int) := (by omega); have q79 : 0 < a0.size := (by have : (0 : Int) < (a0.size : Int) := of_decide_eq_true (by first | (with_reducible assumption) | assumption); omega); have hx79 : ∀ h : 0 < a0.size, ((a0[0]'h).toNat : Int) = bt a0 0 := bt_at a0 0; clear p79; have qi79 : (0 < (a0.size : Int)) = True := eq_true (of_decide_eq_true (by first | (with_reducible assumption) | assumption)); replace q79 := eq_true q79))
                          go_ret
                          exact ⟨by first | rfl | (simp; done) | (simp [*]; done), by repeat (first | exact Drawn0.refl _ | apply Drawn0.step)⟩
                    · rw [if_neg c73] at H
                      exact absurd H (by simp)
                  · rw [if_neg c72] at H
                    have c72b0 : ((bt a0 x3_1) == 48) = false := beq_eq_false_iff_ne.mpr c72
                    have c72b1 : ((bt a0 x3_1) != 48) = true := bne_iff_ne.mpr c72
                    by_cases c81 : 0 < (a0.size : Int)
                    · rw [if_pos c81] at H
                      have c81b0 : decide (0 < (a0.size : Int)) = true := decide_eq_true c81
                      have c81b1 : decide (0 < a0.size) = true := decide_eq_true (by omega)
                      clear c81
                      by_cases c83 : (bt a0 0) = 120
                      · rw [if_pos c83] at H
                        have c83b0 : ((bt a0 0) == 120) = true := beq_iff_eq.mpr c83
                        have c83b1 : ((bt a0 0) != 120) = false := bne_eq_false_iff_eq.mpr c83
                        clear c83
                        by_cases c84 : (bt a0 x3_1) ≤ 70
                        · rw [if_pos c84] at H
                          have c84b0 : decide ((bt a0 x3_1) ≤ 70) = true := decide_eq_true c84
                          clear c84
                          have H' := Aside0.mk H
                          clear H
                          have p5 : 0 ≤ (x3_1 : Int) := of_decide_eq_true (by first | (with_reducible assumption) | assumption)
                          have q5 : x3_1 < (a0.size : Int) := of_decide_eq_true (by first | (with_reducible assumption) | assumption)
                          have hx5 := bt_at a0 x3_1
                          replace p5 := eq_true p5
                          replace q5 := eq_true q5
                          go_wp2_with (first | ((with_reducible refine gate_callee (f := 70) rfl ?_); refine goesL_ (some 20) rfl rfl Tryz.func70 (by kernel_rfl) rfl #[.int .u8 (bt a0 x3_1)] rfl (by (try simp only [List.map_toArray, List.map_cons, List.map_nil]); first | done | rfl | (simp only [List.length_drop, List.length_take]; rfl)) ?_; (with_reducible refine (juristref03_digit.calls (bt a0 x3_1) false _ A6.out).mono ?_); rintro e w' ⟨rfl, ⟨nd, rfl⟩⟩; refine ⟨_, rfl, ?_⟩; have p82 : 0 ≤ (0 : Int) := (by omega); have q82 : 0 < a0.size := (by have : (0 : Int) < (a0.size : Int) := of_decide_eq_true (by first | (with_reducible assumption) | assumption); omega); have hx82 : ∀ h : 0 < a0.size, ((a0[0]'h).toNat : Int) = bt a0 0 := bt_at a0 0; clear p82; have qi82 : (0 < (a0.size : Int)) = True := eq_true (of_decide_eq_true (by first | (with_reducible assumption) | assumption)); replace q82 := eq_true q82))
                          go_roundg k1
                          case measure => have := HK1.out; omega
                          case rel => exact ⟨(wrap64 (x3_1 + 1)), (by first | rfl | (simp; done) | (simp [*]; done)), H', ⟨by have := HK1.out; omega⟩, by repeat (first | exact Drawn0.refl _ | apply Drawn0.step)⟩
                        · rw [if_neg c84] at H
                          have c84b0 : decide ((bt a0 x3_1) ≤ 70) = false := decide_eq_false c84
                          clear c84
                          by_cases c86 : (bt a0 0) = 98
                          · rw [if_pos c86] at H
                            have c86b0 : ((bt a0 0) == 98) = true := beq_iff_eq.mpr c86
                            have c86b1 : ((bt a0 0) != 98) = false := bne_eq_false_iff_eq.mpr c86
                            clear c86
                            by_cases c87 : ((bt a0 x3_1) = 49)
                            · rw [if_pos c87] at H
                              have c87b0 : ((bt a0 x3_1) == 49) = true := beq_iff_eq.mpr c87
                              have c87b1 : ((bt a0 x3_1) != 49) = false := bne_eq_false_iff_eq.mpr c87
                              clear c87
                              have H' := Aside0.mk H
                              clear H
                              have p5 : 0 ≤ (x3_1 : Int) := of_decide_eq_true (by first | (with_reducible assumption) | assumption)
                              have q5 : x3_1 < (a0.size : Int) := of_decide_eq_true (by first | (with_reducible assumption) | assumption)
                              have hx5 := bt_at a0 x3_1
                              replace p5 := eq_true p5
                              replace q5 := eq_true q5
                              go_wp2_with (first | ((with_reducible refine gate_callee (f := 70) rfl ?_); refine goesL_ (some 20) rfl rfl Tryz.func70 (by kernel_rfl) rfl #[.int .u8 (bt a0 x3_1)] rfl (by (try simp only [List.map_toArray, List.map_cons, List.map_nil]); first | done | rfl | (simp only [List.length_drop, List.length_take]; rfl)) ?_; (with_reducible refine (juristref03_digit.calls (bt a0 x3_1) false _ A6.out).mono ?_); rintro e w' ⟨rfl, ⟨nd, rfl⟩⟩; refine ⟨_, rfl, ?_⟩; have p82 : 0 ≤ (0 : Int) := (by omega); have q82 : 0 < a0.size := (by have : (0 : Int) < (a0.size : Int) := of_decide_eq_true (by first | (with_reducible assumption) | assumption); omega); have hx82 : ∀ h : 0 < a0.size, ((a0[0]'h).toNat : Int) = bt a0 0 := bt_at a0 0; clear p82; have qi82 : (0 < (a0.size : Int)) = True := eq_true (of_decide_eq_true (by first | (with_reducible assumption) | assumption)); replace q82 := eq_true q82; have p85 : 0 ≤ (0 : Int) := (by omega); have q85 : 0 < a0.size := (by have : (0 : Int) < (a0.size : Int) := of_decide_eq_true (by first | (with_reducible assumption) | assumption); omega); have hx85 : ∀ h : 0 < a0.size, ((a0[0]'h).toNat : Int) = bt a0 0 := bt_at a0 0; clear p85; have qi85 : (0 < (a0.size : Int)) = True := eq_true (of_decide_eq_true (by first | (with_reducible assumption) | assumption)); replace q85 := eq_true q85))
                              go_roundg k1
                              case measure => have := HK1.out; omega
                              case rel => exact ⟨(wrap64 (x3_1 + 1)), (by first | rfl | (simp; done) | (simp [*]; done)), H', ⟨by have := HK1.out; omega⟩, by repeat (first | exact Drawn0.refl _ | apply Drawn0.step)⟩
                            · rw [if_neg c87] at H
                              have c87b0 : ((bt a0 x3_1) == 49) = false := beq_eq_false_iff_ne.mpr c87
                              have c87b1 : ((bt a0 x3_1) != 49) = true := bne_iff_ne.mpr c87
                              obtain rfl := Option.some.inj H
                              have p5 : 0 ≤ (x3_1 : Int) := of_decide_eq_true (by first | (with_reducible assumption) | assumption)
                              have q5 : x3_1 < (a0.size : Int) := of_decide_eq_true (by first | (with_reducible assumption) | assumption)
                              have hx5 := bt_at a0 x3_1
                              replace p5 := eq_true p5
                              replace q5 := eq_true q5
                              go_wp2_with (first | ((with_reducible refine gate_callee (f := 70) rfl ?_); refine goesL_ (some 20) rfl rfl Tryz.func70 (by kernel_rfl) rfl #[.int .u8 (bt a0 x3_1)] rfl (by (try simp only [List.map_toArray, List.map_cons, List.map_nil]); first | done | rfl | (simp only [List.length_drop, List.length_take]; rfl)) ?_; (with_reducible refine (juristref03_digit.calls (bt a0 x3_1) false _ A6.out).mono ?_); rintro e w' ⟨rfl, ⟨nd, rfl⟩⟩; refine ⟨_, rfl, ?_⟩; have p82 : 0 ≤ (0 : Int) := (by omega); have q82 : 0 < a0.size := (by have : (0 : Int) < (a0.size : Int) := of_decide_eq_true (by first | (with_reducible assumption) | assumption); omega); have hx82 : ∀ h : 0 < a0.size, ((a0[0]'h).toNat : Int) = bt a0 0 := bt_at a0 0; clear p82; have qi82 : (0 < (a0.size : Int)) = True := eq_true (of_decide_eq_true (by first | (with_reducible assumption) | assumption)); replace q82 := eq_true q82; have p85 : 0 ≤ (0 : Int) := (by omega); have q85 : 0 < a0.size := (by have : (0 : Int) < (a0.size : Int) := of_decide_eq_true (by first | (with_reducible assumption) | assumption); omega); have hx85 : ∀ h : 0 < a0.size, ((a0[0]'h).toNat : Int) = bt a0 0 := bt_at a0 0; clear p85; have qi85 : (0 < (a0.size : Int)) = True := eq_true (of_decide_eq_true (by first | (with_reducible assumption) | assumption)); replace q85 := eq_true q85))
                              go_ret
                              exact ⟨by first | rfl | (simp; done) | (simp [*]; done), by repeat (first | exact Drawn0.refl _ | apply Drawn0.step)⟩
                          · rw [if_neg c86] at H
                            have c86b0 : ((bt a0 0) == 98) = false := beq_eq_false_iff_ne.mpr c86
                            have c86b1 : ((bt a0 0) != 98) = true := bne_iff_ne.mpr c86
                            obtain rfl := Option.some.inj H
                            have p5 : 0 ≤ (x3_1 : Int) := of_decide_eq_true (by first | (with_reducible assumption) | assumption)
                            have q5 : x3_1 < (a0.size : Int) := of_decide_eq_true (by first | (with_reducible assumption) | assumption)
                            have hx5 := bt_at a0 x3_1
                            replace p5 := eq_true p5
                            replace q5 := eq_true q5
                            go_wp2_with (first | ((with_reducible refine gate_callee (f := 70) rfl ?_); refine goesL_ (some 20) rfl rfl Tryz.func70 (by kernel_rfl) rfl #[.int .u8 (bt a0 x3_1)] rfl (by (try simp only [List.map_toArray, List.map_cons, List.map_nil]); first | done | rfl | (simp only [List.length_drop, List.length_take]; rfl)) ?_; (with_reducible refine (juristref03_digit.calls (bt a0 x3_1) false _ A6.out).mono ?_); rintro e w' ⟨rfl, ⟨nd, rfl⟩⟩; refine ⟨_, rfl, ?_⟩; have p82 : 0 ≤ (0 : Int) := (by omega); have q82 : 0 < a0.size := (by have : (0 : Int) < (a0.size : Int) := of_decide_eq_true (by first | (with_reducible assumption) | assumption); omega); have hx82 : ∀ h : 0 < a0.size, ((a0[0]'h).toNat : Int) = bt a0 0 := bt_at a0 0; clear p82; have qi82 : (0 < (a0.size : Int)) = True := eq_true (of_decide_eq_true (by first | (with_reducible assumption) | assumption)); replace q82 := eq_true q82; have p85 : 0 ≤ (0 : Int) := (by omega); have q85 : 0 < a0.size := (by have : (0 : Int) < (a0.size : Int) := of_decide_eq_true (by first | (with_reducible assumption) | assumption); omega); have hx85 : ∀ h : 0 < a0.size, ((a0[0]'h).toNat : Int) = bt a0 0 := bt_at a0 0; clear p85; have qi85 : (0 < (a0.size : Int)) = True := eq_true (of_decide_eq_true (by first | (with_reducible assumption) | assumption)); replace q85 := eq_true q85))
                            go_ret
                            exact ⟨by first | rfl | (simp; done) | (simp [*]; done), by repeat (first | exact Drawn0.refl _ | apply Drawn0.step)⟩
                      · rw [if_neg c83] at H
                        have c83b0 : ((bt a0 0) == 120) = false := beq_eq_false_iff_ne.mpr c83
                        have c83b1 : ((bt a0 0) != 120) = true := bne_iff_ne.mpr c83
                        by_cases c89 : (bt a0 0) = 98
                        · rw [if_pos c89] at H
                          have c89b0 : ((bt a0 0) == 98) = true := beq_iff_eq.mpr c89
                          have c89b1 : ((bt a0 0) != 98) = false := bne_eq_false_iff_eq.mpr c89
                          clear c89
                          by_cases c90 : ((bt a0 x3_1) = 49)
                          · rw [if_pos c90] at H
                            have c90b0 : ((bt a0 x3_1) == 49) = true := beq_iff_eq.mpr c90
                            have c90b1 : ((bt a0 x3_1) != 49) = false := bne_eq_false_iff_eq.mpr c90
                            clear c90
                            have H' := Aside0.mk H
                            clear H
                            have p5 : 0 ≤ (x3_1 : Int) := of_decide_eq_true (by first | (with_reducible assumption) | assumption)
                            have q5 : x3_1 < (a0.size : Int) := of_decide_eq_true (by first | (with_reducible assumption) | assumption)
                            have hx5 := bt_at a0 x3_1
                            replace p5 := eq_true p5
                            replace q5 := eq_true q5
                            go_wp2_with (first | ((with_reducible refine gate_callee (f := 70) rfl ?_); refine goesL_ (some 20) rfl rfl Tryz.func70 (by kernel_rfl) rfl #[.int .u8 (bt a0 x3_1)] rfl (by (try simp only [List.map_toArray, List.map_cons, List.map_nil]); first | done | rfl | (simp only [List.length_drop, List.length_take]; rfl)) ?_; (with_reducible refine (juristref03_digit.calls (bt a0 x3_1) false _ A6.out).mono ?_); rintro e w' ⟨rfl, ⟨nd, rfl⟩⟩; refine ⟨_, rfl, ?_⟩; have p82 : 0 ≤ (0 : Int) := (by omega); have q82 : 0 < a0.size := (by have : (0 : Int) < (a0.size : Int) := of_decide_eq_true (by first | (with_reducible assumption) | assumption); omega); have hx82 : ∀ h : 0 < a0.size, ((a0[0]'h).toNat : Int) = bt a0 0 := bt_at a0 0; clear p82; have qi82 : (0 < (a0.size : Int)) = True := eq_true (of_decide_eq_true (by first | (with_reducible assumption) | assumption)); replace q82 := eq_true q82; have p88 : 0 ≤ (0 : Int) := (by omega); have q88 : 0 < a0.size := (by have : (0 : Int) < (a0.size : Int) := of_decide_eq_true (by first | (with_reducible assumption) | assumption); omega); have hx88 : ∀ h : 0 < a0.size, ((a0[0]'h).toNat : Int) = bt a0 0 := bt_at a0 0; clear p88; have qi88 : (0 < (a0.size : Int)) = True := eq_true (of_decide_eq_true (by first | (with_reducible assumption) | assumption)); replace q88 := eq_true q88))
                            go_roundg k1
                            case measure => have := HK1.out; omega
                            case rel => exact ⟨(wrap64 (x3_1 + 1)), (by first | rfl | (simp; done) | (simp [*]; done)), H', ⟨by have := HK1.out; omega⟩, by repeat (first | exact Drawn0.refl _ | apply Drawn0.step)⟩
                          · rw [if_neg c90] at H
                            have c90b0 : ((bt a0 x3_1) == 49) = false := beq_eq_false_iff_ne.mpr c90
                            have c90b1 : ((bt a0 x3_1) != 49) = true := bne_iff_ne.mpr c90
                            obtain rfl := Option.some.inj H
                            have p5 : 0 ≤ (x3_1 : Int) := of_decide_eq_true (by first | (with_reducible assumption) | assumption)
                            have q5 : x3_1 < (a0.size : Int) := of_decide_eq_true (by first | (with_reducible assumption) | assumption)
                            have hx5 := bt_at a0 x3_1
                            replace p5 := eq_true p5
                            replace q5 := eq_true q5
                            go_wp2_with (first | ((with_reducible refine gate_callee (f := 70) rfl ?_); refine goesL_ (some 20) rfl rfl Tryz.func70 (by kernel_rfl) rfl #[.int .u8 (bt a0 x3_1)] rfl (by (try simp only [List.map_toArray, List.map_cons, List.map_nil]); first | done | rfl | (simp only [List.length_drop, List.length_take]; rfl)) ?_; (with_reducible refine (juristref03_digit.calls (bt a0 x3_1) false _ A6.out).mono ?_); rintro e w' ⟨rfl, ⟨nd, rfl⟩⟩; refine ⟨_, rfl, ?_⟩; have p82 : 0 ≤ (0 : Int) := (by omega); have q82 : 0 < a0.size := (by have : (0 : Int) < (a0.size : Int) := of_decide_eq_true (by first | (with_reducible assumption) | assumption); omega); have hx82 : ∀ h : 0 < a0.size, ((a0[0]'h).toNat : Int) = bt a0 0 := bt_at a0 0; clear p82; have qi82 : (0 < (a0.size : Int)) = True := eq_true (of_decide_eq_true (by first | (with_reducible assumption) | assumption)); replace q82 := eq_true q82; have p88 : 0 ≤ (0 : Int) := (by omega); have q88 : 0 < a0.size := (by have : (0 : Int) < (a0.size : Int) := of_decide_eq_true (by first | (with_reducible assumption) | assumption); omega); have hx88 : ∀ h : 0 < a0.size, ((a0[0]'h).toNat : Int) = bt a0 0 := bt_at a0 0; clear p88; have qi88 : (0 < (a0.size : Int)) = True := eq_true (of_decide_eq_true (by first | (with_reducible assumption) | assumption)); replace q88 := eq_true q88))
                            go_ret
                            exact ⟨by first | rfl | (simp; done) | (simp [*]; done), by repeat (first | exact Drawn0.refl _ | apply Drawn0.step)⟩
                        · rw [if_neg c89] at H
                          have c89b0 : ((bt a0 0) == 98) = false := beq_eq_false_iff_ne.mpr c89
                          have c89b1 : ((bt a0 0) != 98) = true := bne_iff_ne.mpr c89
                          obtain rfl := Option.some.inj H
                          have p5 : 0 ≤ (x3_1 : Int) := of_decide_eq_true (by first | (with_reducible assumption) | assumption)
                          have q5 : x3_1 < (a0.size : Int) := of_decide_eq_true (by first | (with_reducible assumption) | assumption)
                          have hx5 := bt_at a0 x3_1
                          replace p5 := eq_true p5
                          replace q5 := eq_true q5
                          go_wp2_with (first | ((with_reducible refine gate_callee (f := 70) rfl ?_); refine goesL_ (some 20) rfl rfl Tryz.func70 (by kernel_rfl) rfl #[.int .u8 (bt a0 x3_1)] rfl (by (try simp only [List.map_toArray, List.map_cons, List.map_nil]); first | done | rfl | (simp only [List.length_drop, List.length_take]; rfl)) ?_; (with_reducible refine (juristref03_digit.calls (bt a0 x3_1) false _ A6.out).mono ?_); rintro e w' ⟨rfl, ⟨nd, rfl⟩⟩; refine ⟨_, rfl, ?_⟩; have p82 : 0 ≤ (0 : Int) := (by omega); have q82 : 0 < a0.size := (by have : (0 : Int) < (a0.size : Int) := of_decide_eq_true (by first | (with_reducible assumption) | assumption); omega); have hx82 : ∀ h : 0 < a0.size, ((a0[0]'h).toNat : Int) = bt a0 0 := bt_at a0 0; clear p82; have qi82 : (0 < (a0.size : Int)) = True := eq_true (of_decide_eq_true (by first | (with_reducible assumption) | assumption)); replace q82 := eq_true q82; have p88 : 0 ≤ (0 : Int) := (by omega); have q88 : 0 < a0.size := (by have : (0 : Int) < (a0.size : Int) := of_decide_eq_true (by first | (with_reducible assumption) | assumption); omega); have hx88 : ∀ h : 0 < a0.size, ((a0[0]'h).toNat : Int) = bt a0 0 := bt_at a0 0; clear p88; have qi88 : (0 < (a0.size : Int)) = True := eq_true (of_decide_eq_true (by first | (with_reducible assumption) | assumption)); replace q88 := eq_true q88))
                          go_ret
                          exact ⟨by first | rfl | (simp; done) | (simp [*]; done), by repeat (first | exact Drawn0.refl _ | apply Drawn0.step)⟩
                    · rw [if_neg c81] at H
                      exact absurd H (by simp)
                · rw [if_neg c71] at H
                  have c71b0 : decide (65 ≤ (bt a0 x3_1)) = false := decide_eq_false c71
                  clear c71
                  by_cases c91 : (bt a0 x3_1) = 48
                  · rw [if_pos c91] at H
                    have c91b0 : ((bt a0 x3_1) == 48) = true := beq_iff_eq.mpr c91
                    have c91b1 : ((bt a0 x3_1) != 48) = false := bne_eq_false_iff_eq.mpr c91
                    clear c91
                    by_cases c92 : 0 < (a0.size : Int)
                    · rw [if_pos c92] at H
                      have c92b0 : decide (0 < (a0.size : Int)) = true := decide_eq_true c92
                      have c92b1 : decide (0 < a0.size) = true := decide_eq_true (by omega)
                      clear c92
                      by_cases c94 : (bt a0 0) = 120
                      · rw [if_pos c94] at H
                        have c94b0 : ((bt a0 0) == 120) = true := beq_iff_eq.mpr c94
                        have c94b1 : ((bt a0 0) != 120) = false := bne_eq_false_iff_eq.mpr c94
                        clear c94
                        by_cases c96 : (bt a0 0) = 98
                        · rw [if_pos c96] at H
                          have c96b0 : ((bt a0 0) == 98) = true := beq_iff_eq.mpr c96
                          have c96b1 : ((bt a0 0) != 98) = false := bne_eq_false_iff_eq.mpr c96
                          clear c96
                          have H' := Aside0.mk H
                          clear H
                          have p5 : 0 ≤ (x3_1 : Int) := of_decide_eq_true (by first | (with_reducible assumption) | assumption)
                          have q5 : x3_1 < (a0.size : Int) := of_decide_eq_true (by first | (with_reducible assumption) | assumption)
                          have hx5 := bt_at a0 x3_1
                          replace p5 := eq_true p5
                          replace q5 := eq_true q5
                          go_wp2_with (first | ((with_reducible refine gate_callee (f := 70) rfl ?_); refine goesL_ (some 20) rfl rfl Tryz.func70 (by kernel_rfl) rfl #[.int .u8 (bt a0 x3_1)] rfl (by (try simp only [List.map_toArray, List.map_cons, List.map_nil]); first | done | rfl | (simp only [List.length_drop, List.length_take]; rfl)) ?_; (with_reducible refine (juristref03_digit.calls (bt a0 x3_1) false _ A6.out).mono ?_); rintro e w' ⟨rfl, ⟨nd, rfl⟩⟩; refine ⟨_, rfl, ?_⟩; have p93 : 0 ≤ (0 : Int) := (by omega); have q93 : 0 < a0.size := (by have : (0 : Int) < (a0.size : Int) := of_decide_eq_true (by first | (with_reducible assumption) | assumption); omega); have hx93 : ∀ h : 0 < a0.size, ((a0[0]'h).toNat : Int) = bt a0 0 := bt_at a0 0; clear p93; have qi93 : (0 < (a0.size : Int)) = True := eq_true (of_decide_eq_true (by first | (with_reducible assumption) | assumption)); replace q93 := eq_true q93; have p95 : 0 ≤ (0 : Int) := (by omega); have q95 : 0 < a0.size := (by have : (0 : Int) < (a0.size : Int) := of_decide_eq_true (by first | (with_reducible assumption) | assumption); omega); have hx95 : ∀ h : 0 < a0.size, ((a0[0]'h).toNat : Int) = bt a0 0 := bt_at a0 0; clear p95; have qi95 : (0 < (a0.size : Int)) = True := eq_true (of_decide_eq_true (by first | (with_reducible assumption) | assumption)); replace q95 := eq_true q95))
                          go_roundg k1
                          case measure => have := HK1.out; omega
                          case rel => exact ⟨(wrap64 (x3_1 + 1)), (by first | rfl | (simp; done) | (simp [*]; done)), H', ⟨by have := HK1.out; omega⟩, by repeat (first | exact Drawn0.refl _ | apply Drawn0.step)⟩
                        · rw [if_neg c96] at H
                          have c96b0 : ((bt a0 0) == 98) = false := beq_eq_false_iff_ne.mpr c96
                          have c96b1 : ((bt a0 0) != 98) = true := bne_iff_ne.mpr c96
                          obtain rfl := Option.some.inj H
                          have p5 : 0 ≤ (x3_1 : Int) := of_decide_eq_true (by first | (with_reducible assumption) | assumption)
                          have q5 : x3_1 < (a0.size : Int) := of_decide_eq_true (by first | (with_reducible assumption) | assumption)
                          have hx5 := bt_at a0 x3_1
                          replace p5 := eq_true p5
                          replace q5 := eq_true q5
                          go_wp2_with (first | ((with_reducible refine gate_callee (f := 70) rfl ?_); refine goesL_ (some 20) rfl rfl Tryz.func70 (by kernel_rfl) rfl #[.int .u8 (bt a0 x3_1)] rfl (by (try simp only [List.map_toArray, List.map_cons, List.map_nil]); first | done | rfl | (simp only [List.length_drop, List.length_take]; rfl)) ?_; (with_reducible refine (juristref03_digit.calls (bt a0 x3_1) false _ A6.out).mono ?_); rintro e w' ⟨rfl, ⟨nd, rfl⟩⟩; refine ⟨_, rfl, ?_⟩; have p93 : 0 ≤ (0 : Int) := (by omega); have q93 : 0 < a0.size := (by have : (0 : Int) < (a0.size : Int) := of_decide_eq_true (by first | (with_reducible assumption) | assumption); omega); have hx93 : ∀ h : 0 < a0.size, ((a0[0]'h).toNat : Int) = bt a0 0 := bt_at a0 0; clear p93; have qi93 : (0 < (a0.size : Int)) = True := eq_true (of_decide_eq_true (by first | (with_reducible assumption) | assumption)); replace q93 := eq_true q93; have p95 : 0 ≤ (0 : Int) := (by omega); have q95 : 0 < a0.size := (by have : (0 : Int) < (a0.size : Int) := of_decide_eq_true (by first | (with_reducible assumption) | assumption); omega); have hx95 : ∀ h : 0 < a0.size, ((a0[0]'h).toNat : Int) = bt a0 0 := bt_at a0 0; clear p95; have qi95 : (0 < (a0.size : Int)) = True := eq_true (of_decide_eq_true (by first | (with_reducible assumption) | assumption)); replace q95 := eq_true q95))
                          go_ret
                          exact ⟨by first | rfl | (simp; done) | (simp [*]; done), by repeat (first | exact Drawn0.refl _ | apply Drawn0.step)⟩
                      · rw [if_neg c94] at H
                        have c94b0 : ((bt a0 0) == 120) = false := beq_eq_false_iff_ne.mpr c94
                        have c94b1 : ((bt a0 0) != 120) = true := bne_iff_ne.mpr c94
                        by_cases c98 : (bt a0 0) = 98
                        · rw [if_pos c98] at H
                          have c98b0 : ((bt a0 0) == 98) = true := beq_iff_eq.mpr c98
                          have c98b1 : ((bt a0 0) != 98) = false := bne_eq_false_iff_eq.mpr c98
                          clear c98
                          have H' := Aside0.mk H
                          clear H
                          have p5 : 0 ≤ (x3_1 : Int) := of_decide_eq_true (by first | (with_reducible assumption) | assumption)
                          have q5 : x3_1 < (a0.size : Int) := of_decide_eq_true (by first | (with_reducible assumption) | assumption)
                          have hx5 := bt_at a0 x3_1
                          replace p5 := eq_true p5
                          replace q5 := eq_true q5
                          go_wp2_with (first | ((with_reducible refine gate_callee (f := 70) rfl ?_); refine goesL_ (some 20) rfl rfl Tryz.func70 (by kernel_rfl) rfl #[.int .u8 (bt a0 x3_1)] rfl (by (try simp only [List.map_toArray, List.map_cons, List.map_nil]); first | done | rfl | (simp only [List.length_drop, List.length_take]; rfl)) ?_; (with_reducible refine (juristref03_digit.calls (bt a0 x3_1) false _ A6.out).mono ?_); rintro e w' ⟨rfl, ⟨nd, rfl⟩⟩; refine ⟨_, rfl, ?_⟩; have p93 : 0 ≤ (0 : Int) := (by omega); have q93 : 0 < a0.size := (by have : (0 : Int) < (a0.size : Int) := of_decide_eq_true (by first | (with_reducible assumption) | assumption); omega); have hx93 : ∀ h : 0 < a0.size, ((a0[0]'h).toNat : Int) = bt a0 0 := bt_at a0 0; clear p93; have qi93 : (0 < (a0.size : Int)) = True := eq_true (of_decide_eq_true (by first | (with_reducible assumption) | assumption)); replace q93 := eq_true q93; have p97 : 0 ≤ (0 : Int) := (by omega); have q97 : 0 < a0.size := (by have : (0 : Int) < (a0.size : Int) := of_decide_eq_true (by first | (with_reducible assumption) | assumption); omega); have hx97 : ∀ h : 0 < a0.size, ((a0[0]'h).toNat : Int) = bt a0 0 := bt_at a0 0; clear p97; have qi97 : (0 < (a0.size : Int)) = True := eq_true (of_decide_eq_true (by first | (with_reducible assumption) | assumption)); replace q97 := eq_true q97))
                          go_roundg k1
                          case measure => have := HK1.out; omega
                          case rel => exact ⟨(wrap64 (x3_1 + 1)), (by first | rfl | (simp; done) | (simp [*]; done)), H', ⟨by have := HK1.out; omega⟩, by repeat (first | exact Drawn0.refl _ | apply Drawn0.step)⟩
                        · rw [if_neg c98] at H
                          have c98b0 : ((bt a0 0) == 98) = false := beq_eq_false_iff_ne.mpr c98
                          have c98b1 : ((bt a0 0) != 98) = true := bne_iff_ne.mpr c98
                          obtain rfl := Option.some.inj H
                          have p5 : 0 ≤ (x3_1 : Int) := of_decide_eq_true (by first | (with_reducible assumption) | assumption)
                          have q5 : x3_1 < (a0.size : Int) := of_decide_eq_true (by first | (with_reducible assumption) | assumption)
                          have hx5 := bt_at a0 x3_1
                          replace p5 := eq_true p5
                          replace q5 := eq_true q5
                          go_wp2_with (first | ((with_reducible refine gate_callee (f := 70) rfl ?_); refine goesL_ (some 20) rfl rfl Tryz.func70 (by kernel_rfl) rfl #[.int .u8 (bt a0 x3_1)] rfl (by (try simp only [List.map_toArray, List.map_cons, List.map_nil]); first | done | rfl | (simp only [List.length_drop, List.length_take]; rfl)) ?_; (with_reducible refine (juristref03_digit.calls (bt a0 x3_1) false _ A6.out).mono ?_); rintro e w' ⟨rfl, ⟨nd, rfl⟩⟩; refine ⟨_, rfl, ?_⟩; have p93 : 0 ≤ (0 : Int) := (by omega); have q93 : 0 < a0.size := (by have : (0 : Int) < (a0.size : Int) := of_decide_eq_true (by first | (with_reducible assumption) | assumption); omega); have hx93 : ∀ h : 0 < a0.size, ((a0[0]'h).toNat : Int) = bt a0 0 := bt_at a0 0; clear p93; have qi93 : (0 < (a0.size : Int)) = True := eq_true (of_decide_eq_true (by first | (with_reducible assumption) | assumption)); replace q93 := eq_true q93; have p97 : 0 ≤ (0 : Int) := (by omega); have q97 : 0 < a0.size := (by have : (0 : Int) < (a0.size : Int) := of_decide_eq_true (by first | (with_reducible assumption) | assumption); omega); have hx97 : ∀ h : 0 < a0.size, ((a0[0]'h).toNat : Int) = bt a0 0 := bt_at a0 0; clear p97; have qi97 : (0 < (a0.size : Int)) = True := eq_true (of_decide_eq_true (by first | (with_reducible assumption) | assumption)); replace q97 := eq_true q97))
                          go_ret
                          exact ⟨by first | rfl | (simp; done) | (simp [*]; done), by repeat (first | exact Drawn0.refl _ | apply Drawn0.step)⟩
                    · rw [if_neg c92] at H
                      exact absurd H (by simp)
                  · rw [if_neg c91] at H
                    have c91b0 : ((bt a0 x3_1) == 48) = false := beq_eq_false_iff_ne.mpr c91
                    have c91b1 : ((bt a0 x3_1) != 48) = true := bne_iff_ne.mpr c91
                    by_cases c99 : 0 < (a0.size : Int)
                    · rw [if_pos c99] at H
                      have c99b0 : decide (0 < (a0.size : Int)) = true := decide_eq_true c99
                      have c99b1 : decide (0 < a0.size) = true := decide_eq_true (by omega)
                      clear c99
                      by_cases c101 : (bt a0 0) = 120
                      · rw [if_pos c101] at H
                        have c101b0 : ((bt a0 0) == 120) = true := beq_iff_eq.mpr c101
                        have c101b1 : ((bt a0 0) != 120) = false := bne_eq_false_iff_eq.mpr c101
                        clear c101
                        by_cases c103 : (bt a0 0) = 98
                        · rw [if_pos c103] at H
                          have c103b0 : ((bt a0 0) == 98) = true := beq_iff_eq.mpr c103
                          have c103b1 : ((bt a0 0) != 98) = false := bne_eq_false_iff_eq.mpr c103
                          clear c103
                          by_cases c104 : ((bt a0 x3_1) = 49)
                          · rw [if_pos c104] at H
                            have c104b0 : ((bt a0 x3_1) == 49) = true := beq_iff_eq.mpr c104
                            have c104b1 : ((bt a0 x3_1) != 49) = false := bne_eq_false_iff_eq.mpr c104
                            clear c104
                            have H' := Aside0.mk H
                            clear H
                            have p5 : 0 ≤ (x3_1 : Int) := of_decide_eq_true (by first | (with_reducible assumption) | assumption)
                            have q5 : x3_1 < (a0.size : Int) := of_decide_eq_true (by first | (with_reducible assumption) | assumption)
                            have hx5 := bt_at a0 x3_1
                            replace p5 := eq_true p5
                            replace q5 := eq_true q5
                            go_wp2_with (first | ((with_reducible refine gate_callee (f := 70) rfl ?_); refine goesL_ (some 20) rfl rfl Tryz.func70 (by kernel_rfl) rfl #[.int .u8 (bt a0 x3_1)] rfl (by (try simp only [List.map_toArray, List.map_cons, List.map_nil]); first | done | rfl | (simp only [List.length_drop, List.length_take]; rfl)) ?_; (with_reducible refine (juristref03_digit.calls (bt a0 x3_1) false _ A6.out).mono ?_); rintro e w' ⟨rfl, ⟨nd, rfl⟩⟩; refine ⟨_, rfl, ?_⟩; have p100 : 0 ≤ (0 : Int) := (by omega); have q100 : 0 < a0.size := (by have : (0 : Int) < (a0.size : Int) := of_decide_eq_true (by first | (with_reducible assumption) | assumption); omega); have hx100 : ∀ h : 0 < a0.size, ((a0[0]'h).toNat : Int) = bt a0 0 := bt_at a0 0; clear p100; have qi100 : (0 < (a0.size : Int)) = True := eq_true (of_decide_eq_true (by first | (with_reducible assumption) | assumption)); replace q100 := eq_true q100; have p102 : 0 ≤ (0 : Int) := (by omega); have q102 : 0 < a0.size := (by have : (0 : Int) < (a0.size : Int) := of_decide_eq_true (by first | (with_reducible assumption) | assumption); omega); have hx102 : ∀ h : 0 < a0.size, ((a0[0]'h).toNat : Int) = bt a0 0 := bt_at a0 0; clear p102; have qi102 : (0 < (a0.size : Int)) = True := eq_true (of_decide_eq_true (by first | (with_reducible assumption) | assumption)); replace q102 := eq_true q102))
                            go_roundg k1
                            case measure => have := HK1.out; omega
                            case rel => exact ⟨(wrap64 (x3_1 + 1)), (by first | rfl | (simp; done) | (simp [*]; done)), H', ⟨by have := HK1.out; omega⟩, by repeat (first | exact Drawn0.refl _ | apply Drawn0.step)⟩
                          · rw [if_neg c104] at H
                            have c104b0 : ((bt a0 x3_1) == 49) = false := beq_eq_false_iff_ne.mpr c104
                            have c104b1 : ((bt a0 x3_1) != 49) = true := bne_iff_ne.mpr c104
                            obtain rfl := Option.some.inj H
                            have p5 : 0 ≤ (x3_1 : Int) := of_decide_eq_true (by first | (with_reducible assumption) | assumption)
                            have q5 : x3_1 < (a0.size : Int) := of_decide_eq_true (by first | (with_reducible assumption) | assumption)
                            have hx5 := bt_at a0 x3_1
                            replace p5 := eq_true p5
                            replace q5 := eq_true q5
                            go_wp2_with (first | ((with_reducible refine gate_callee (f := 70) rfl ?_); refine goesL_ (some 20) rfl rfl Tryz.func70 (by kernel_rfl) rfl #[.int .u8 (bt a0 x3_1)] rfl (by (try simp only [List.map_toArray, List.map_cons, List.map_nil]); first | done | rfl | (simp only [List.length_drop, List.length_take]; rfl)) ?_; (with_reducible refine (juristref03_digit.calls (bt a0 x3_1) false _ A6.out).mono ?_); rintro e w' ⟨rfl, ⟨nd, rfl⟩⟩; refine ⟨_, rfl, ?_⟩; have p100 : 0 ≤ (0 : Int) := (by omega); have q100 : 0 < a0.size := (by have : (0 : Int) < (a0.size : Int) := of_decide_eq_true (by first | (with_reducible assumption) | assumption); omega); have hx100 : ∀ h : 0 < a0.size, ((a0[0]'h).toNat : Int) = bt a0 0 := bt_at a0 0; clear p100; have qi100 : (0 < (a0.size : Int)) = True := eq_true (of_decide_eq_true (by first | (with_reducible assumption) | assumption)); replace q100 := eq_true q100; have p102 : 0 ≤ (0 : Int) := (by omega); have q102 : 0 < a0.size := (by have : (0 : Int) < (a0.size : Int) := of_decide_eq_true (by first | (with_reducible assumption) | assumption); omega); have hx102 : ∀ h : 0 < a0.size, ((a0[0]'h).toNat : Int) = bt a0 0 := bt_at a0 0; clear p102; have qi102 : (0 < (a0.size : Int)) = True := eq_true (of_decide_eq_true (by first | (with_reducible assumption) | assumption)); replace q102 := eq_true q102))
                            go_ret
                            exact ⟨by first | rfl | (simp; done) | (simp [*]; done), by repeat (first | exact Drawn0.refl _ | apply Drawn0.step)⟩
                        · rw [if_neg c103] at H
                          have c103b0 : ((bt a0 0) == 98) = false := beq_eq_false_iff_ne.mpr c103
                          have c103b1 : ((bt a0 0) != 98) = true := bne_iff_ne.mpr c103
                          obtain rfl := Option.some.inj H
                          have p5 : 0 ≤ (x3_1 : Int) := of_decide_eq_true (by first | (with_reducible assumption) | assumption)
                          have q5 : x3_1 < (a0.size : Int) := of_decide_eq_true (by first | (with_reducible assumption) | assumption)
                          have hx5 := bt_at a0 x3_1
                          replace p5 := eq_true p5
                          replace q5 := eq_true q5
                          go_wp2_with (first | ((with_reducible refine gate_callee (f := 70) rfl ?_); refine goesL_ (some 20) rfl rfl Tryz.func70 (by kernel_rfl) rfl #[.int .u8 (bt a0 x3_1)] rfl (by (try simp only [List.map_toArray, List.map_cons, List.map_nil]); first | done | rfl | (simp only [List.length_drop, List.length_take]; rfl)) ?_; (with_reducible refine (juristref03_digit.calls (bt a0 x3_1) false _ A6.out).mono ?_); rintro e w' ⟨rfl, ⟨nd, rfl⟩⟩; refine ⟨_, rfl, ?_⟩; have p100 : 0 ≤ (0 : Int) := (by omega); have q100 : 0 < a0.size := (by have : (0 : Int) < (a0.size : Int) := of_decide_eq_true (by first | (with_reducible assumption) | assumption); omega); have hx100 : ∀ h : 0 < a0.size, ((a0[0]'h).toNat : Int) = bt a0 0 := bt_at a0 0; clear p100; have qi100 : (0 < (a0.size : Int)) = True := eq_true (of_decide_eq_true (by first | (with_reducible assumption) | assumption)); replace q100 := eq_true q100; have p102 : 0 ≤ (0 : Int) := (by omega); have q102 : 0 < a0.size := (by have : (0 : Int) < (a0.size : Int) := of_decide_eq_true (by first | (with_reducible assumption) | assumption); omega); have hx102 : ∀ h : 0 < a0.size, ((a0[0]'h).toNat : Int) = bt a0 0 := bt_at a0 0; clear p102; have qi102 : (0 < (a0.size : Int)) = True := eq_true (of_decide_eq_true (by first | (with_reducible assumption) | assumption)); replace q102 := eq_true q102))
                          go_ret
                          exact ⟨by first | rfl | (simp; done) | (simp [*]; done), by repeat (first | exact Drawn0.refl _ | apply Drawn0.step)⟩
                      · rw [if_neg c101] at H
                        have c101b0 : ((bt a0 0) == 120) = false := beq_eq_false_iff_ne.mpr c101
                        have c101b1 : ((bt a0 0) != 120) = true := bne_iff_ne.mpr c101
                        by_cases c106 : (bt a0 0) = 98
                        · rw [if_pos c106] at H
                          have c106b0 : ((bt a0 0) == 98) = true := beq_iff_eq.mpr c106
                          have c106b1 : ((bt a0 0) != 98) = false := bne_eq_false_iff_eq.mpr c106
                          clear c106
                          by_cases c107 : ((bt a0 x3_1) = 49)
                          · rw [if_pos c107] at H
                            have c107b0 : ((bt a0 x3_1) == 49) = true := beq_iff_eq.mpr c107
                            have c107b1 : ((bt a0 x3_1) != 49) = false := bne_eq_false_iff_eq.mpr c107
                            clear c107
                            have H' := Aside0.mk H
                            clear H
                            have p5 : 0 ≤ (x3_1 : Int) := of_decide_eq_true (by first | (with_reducible assumption) | assumption)
                            have q5 : x3_1 < (a0.size : Int) := of_decide_eq_true (by first | (with_reducible assumption) | assumption)
                            have hx5 := bt_at a0 x3_1
                            replace p5 := eq_true p5
                            replace q5 := eq_true q5
                            go_wp2_with (first | ((with_reducible refine gate_callee (f := 70) rfl ?_); refine goesL_ (some 20) rfl rfl Tryz.func70 (by kernel_rfl) rfl #[.int .u8 (bt a0 x3_1)] rfl (by (try simp only [List.map_toArray, List.map_cons, List.map_nil]); first | done | rfl | (simp only [List.length_drop, List.length_take]; rfl)) ?_; (with_reducible refine (juristref03_digit.calls (bt a0 x3_1) false _ A6.out).mono ?_); rintro e w' ⟨rfl, ⟨nd, rfl⟩⟩; refine ⟨_, rfl, ?_⟩; have p100 : 0 ≤ (0 : Int) := (by omega); have q100 : 0 < a0.size := (by have : (0 : Int) < (a0.size : Int) := of_decide_eq_true (by first | (with_reducible assumption) | assumption); omega); have hx100 : ∀ h : 0 < a0.size, ((a0[0]'h).toNat : Int) = bt a0 0 := bt_at a0 0; clear p100; have qi100 : (0 < (a0.size : Int)) = True := eq_true (of_decide_eq_true (by first | (with_reducible assumption) | assumption)); replace q100 := eq_true q100; have p105 : 0 ≤ (0 : Int) := (by omega); have q105 : 0 < a0.size := (by have : (0 : Int) < (a0.size : Int) := of_decide_eq_true (by first | (with_reducible assumption) | assumption); omega); have hx105 : ∀ h : 0 < a0.size, ((a0[0]'h).toNat : Int) = bt a0 0 := bt_at a0 0; clear p105; have qi105 : (0 < (a0.size : Int)) = True := eq_true (of_decide_eq_true (by first | (with_reducible assumption) | assumption)); replace q105 := eq_true q105))
                            go_roundg k1
                            case measure => have := HK1.out; omega
                            case rel => exact ⟨(wrap64 (x3_1 + 1)), (by first | rfl | (simp; done) | (simp [*]; done)), H', ⟨by have := HK1.out; omega⟩, by repeat (first | exact Drawn0.refl _ | apply Drawn0.step)⟩
                          · rw [if_neg c107] at H
                            have c107b0 : ((bt a0 x3_1) == 49) = false := beq_eq_false_iff_ne.mpr c107
                            have c107b1 : ((bt a0 x3_1) != 49) = true := bne_iff_ne.mpr c107
                            obtain rfl := Option.some.inj H
                            have p5 : 0 ≤ (x3_1 : Int) := of_decide_eq_true (by first | (with_reducible assumption) | assumption)
                            have q5 : x3_1 < (a0.size : Int) := of_decide_eq_true (by first | (with_reducible assumption) | assumption)
                            have hx5 := bt_at a0 x3_1
                            replace p5 := eq_true p5
                            replace q5 := eq_true q5
                            go_wp2_with (first | ((with_reducible refine gate_callee (f := 70) rfl ?_); refine goesL_ (some 20) rfl rfl Tryz.func70 (by kernel_rfl) rfl #[.int .u8 (bt a0 x3_1)] rfl (by (try simp only [List.map_toArray, List.map_cons, List.map_nil]); first | done | rfl | (simp only [List.length_drop, List.length_take]; rfl)) ?_; (with_reducible refine (juristref03_digit.calls (bt a0 x3_1) false _ A6.out).mono ?_); rintro e w' ⟨rfl, ⟨nd, rfl⟩⟩; refine ⟨_, rfl, ?_⟩; have p100 : 0 ≤ (0 : Int) := (by omega); have q100 : 0 < a0.size := (by have : (0 : Int) < (a0.size : Int) := of_decide_eq_true (by first | (with_reducible assumption) | assumption); omega); have hx100 : ∀ h : 0 < a0.size, ((a0[0]'h).toNat : Int) = bt a0 0 := bt_at a0 0; clear p100; have qi100 : (0 < (a0.size : Int)) = True := eq_true (of_decide_eq_true (by first | (with_reducible assumption) | assumption)); replace q100 := eq_true q100; have p105 : 0 ≤ (0 : Int) := (by omega); have q105 : 0 < a0.size := (by have : (0 : Int) < (a0.size : Int) := of_decide_eq_true (by first | (with_reducible assumption) | assumption); omega); have hx105 : ∀ h : 0 < a0.size, ((a0[0]'h).toNat : Int) = bt a0 0 := bt_at a0 0; clear p105; have qi105 : (0 < (a0.size : Int)) = True := eq_true (of_decide_eq_true (by first | (with_reducible assumption) | assumption)); replace q105 := eq_true q105))
                            go_ret
                            exact ⟨by first | rfl | (simp; done) | (simp [*]; done), by repeat (first | exact Drawn0.refl _ | apply Drawn0.step)⟩
                        · rw [if_neg c106] at H
                          have c106b0 : ((bt a0 0) == 98) = false := beq_eq_false_iff_ne.mpr c106
                          have c106b1 : ((bt a0 0) != 98) = true := bne_iff_ne.mpr c106
                          obtain rfl := Option.some.inj H
                          have p5 : 0 ≤ (x3_1 : Int) := of_decide_eq_true (by first | (with_reducible assumption) | assumption)
                          have q5 : x3_1 < (a0.size : Int) := of_decide_eq_true (by first | (with_reducible assumption) | assumption)
                          have hx5 := bt_at a0 x3_1
                          replace p5 := eq_true p5
                          replace q5 := eq_true q5
                          go_wp2_with (first | ((with_reducible refine gate_callee (f := 70) rfl ?_); refine goesL_ (some 20) rfl rfl Tryz.func70 (by kernel_rfl) rfl #[.int .u8 (bt a0 x3_1)] rfl (by (try simp only [List.map_toArray, List.map_cons, List.map_nil]); first | done | rfl | (simp only [List.length_drop, List.length_take]; rfl)) ?_; (with_reducible refine (juristref03_digit.calls (bt a0 x3_1) false _ A6.out).mono ?_); rintro e w' ⟨rfl, ⟨nd, rfl⟩⟩; refine ⟨_, rfl, ?_⟩; have p100 : 0 ≤ (0 : Int) := (by omega); have q100 : 0 < a0.size := (by have : (0 : Int) < (a0.size : Int) := of_decide_eq_true (by first | (with_reducible assumption) | assumption); omega); have hx100 : ∀ h : 0 < a0.size, ((a0[0]'h).toNat : Int) = bt a0 0 := bt_at a0 0; clear p100; have qi100 : (0 < (a0.size : Int)) = True := eq_true (of_decide_eq_true (by first | (with_reducible assumption) | assumption)); replace q100 := eq_true q100; have p105 : 0 ≤ (0 : Int) := (by omega); have q105 : 0 < a0.size := (by have : (0 : Int) < (a0.size : Int) := of_decide_eq_true (by first | (with_reducible assumption) | assumption); omega); have hx105 : ∀ h : 0 < a0.size, ((a0[0]'h).toNat : Int) = bt a0 0 := bt_at a0 0; clear p105; have qi105 : (0 < (a0.size : Int)) = True := eq_true (of_decide_eq_true (by first | (with_reducible assumption) | assumption)); replace q105 := eq_true q105))
                          go_ret
                          exact ⟨by first | rfl | (simp; done) | (simp [*]; done), by repeat (first | exact Drawn0.refl _ | apply Drawn0.step)⟩
                    · rw [if_neg c99] at H
                      exact absurd H (by simp)
          · rw [if_neg c4] at H
            exact absurd H (by simp)
        · rw [if_neg c3] at H
          have c3b0 : decide (x3_1 < (a0.size : Int)) = false := decide_eq_false c3
          clear c3
          obtain rfl := Option.some.inj H
          go_wp2
          go_ret
          exact ⟨by first | rfl | (simp; done) | (simp [*]; done), by repeat (first | exact Drawn0.refl _ | apply Drawn0.step)⟩

end Go.Proofs.YtmlkfgoiakcnhaaGreatDoor.PStackNone
