-- PRINTED BY print.sh 35421559b90ae4d0a3588c463048766b98c2df88dd9212a6774a882060cdf62d: not written by this session
import Derived.Test.YtmlkfgoiakcnhaaGreatDoorPStackNonex0
namespace Go.Proofs.YtmlkfgoiakcnhaaGreatDoor.PStackNone
open Go.RowKit Go.Proofs.YtmlkfgoiakcnhaaGreatDoorW.PrintWords Go.Proofs.YtmlkfgoiakcnhaaGreatDoorW.PrintLast Go.Proofs.YtmlkfgoiakcnhaaGreatDoorW.PrintMore
attribute [local go_sem] max2_int min2_int max_two min_two max_three min_three max_four min_four   -- for this text's walks alone
set_option linter.unusedVariables false
set_option linter.unusedSimpArgs false

/-! ### juristlaw26_tame: function 4 -/
mutual
def juristlaw26_tame.l0 : Nat → List (S27) → Int → Option (Bool)
  | 0, _, _ => none
  | k + 1, x0, x5 => if x5 < (x0.length : Int) then (if 0 ≤ x5 then (if (((rd_T27 x0 x5).f4).length : Int) > 40 then (juristlaw26_tame.j1 k x0 x5 (wrap64 ((wrap64 ((((rd_T27 x0 x5).f3).size : Int) + (((rd_T27 x0 x5).f6).size : Int))) + (((rd_T27 x0 x5).f7).length : Int))) true) else (juristlaw26_tame.j1 k x0 x5 (wrap64 ((wrap64 ((((rd_T27 x0 x5).f3).size : Int) + (((rd_T27 x0 x5).f6).size : Int))) + (((rd_T27 x0 x5).f7).length : Int))) (decide ((((rd_T27 x0 x5).f5).length : Int) > 40)))) else (none)) else (some true)
def juristlaw26_tame.j1 : Nat → List (S27) → Int → Int → Bool → Option (Bool)
  | 0, _, _, _, _ => none
  | k + 1, x0, x5, x6, x54 => if x54 = true then (some false) else (juristlaw26_tame.l1 k x0 x5 x6 0)
def juristlaw26_tame.l1 : Nat → List (S27) → Int → Int → Int → Option (Bool)
  | 0, _, _, _, _ => none
  | k + 1, x0, x5, x6, x7 => if 0 ≤ x5 then (if x5 < (x0.length : Int) then (if x7 < (((rd_T27 x0 x5).f4).length : Int) then (if 0 ≤ x7 then (juristlaw26_tame.l1 k x0 x5 (wrap64 (x6 + ((rdOf ByteArray.empty ((rd_T27 x0 x5).f4) x7).size : Int))) (wrap64 (x7 + 1))) else (none)) else (juristlaw26_tame.l2 k x0 x5 x6 0)) else (none)) else (none)
def juristlaw26_tame.l2 : Nat → List (S27) → Int → Int → Int → Option (Bool)
  | 0, _, _, _, _ => none
  | k + 1, x0, x5, x6, x8 => if 0 ≤ x5 then (if x5 < (x0.length : Int) then (if x8 < (((rd_T27 x0 x5).f5).length : Int) then (if 0 ≤ x8 then (juristlaw26_tame.l2 k x0 x5 (wrap64 (x6 + ((rdOf ByteArray.empty ((rd_T27 x0 x5).f5) x8).size : Int))) (wrap64 (x8 + 1))) else (none)) else (if x6 > 3000 then (some false) else (juristlaw26_tame.l0 k x0 (wrap64 (x5 + 1))))) else (none)) else (none)
end
def juristlaw26_tame.f (k : Nat) (l0 : List (S27)) (a1 : Int) : Option (Bool) := if (l0.length : Int) > a1 then (some false) else (juristlaw26_tame.l0 k l0 0)
theorem juristlaw26_tame.mono_l : ∀ k, (∀ y0 y1, LeO (juristlaw26_tame.l0 k y0 y1) (juristlaw26_tame.l0 (k + 1) y0 y1)) ∧ (∀ y0 y1 y2 y3, LeO (juristlaw26_tame.j1 k y0 y1 y2 y3) (juristlaw26_tame.j1 (k + 1) y0 y1 y2 y3)) ∧ (∀ y0 y1 y2 y3, LeO (juristlaw26_tame.l1 k y0 y1 y2 y3) (juristlaw26_tame.l1 (k + 1) y0 y1 y2 y3)) ∧ (∀ y0 y1 y2 y3, LeO (juristlaw26_tame.l2 k y0 y1 y2 y3) (juristlaw26_tame.l2 (k + 1) y0 y1 y2 y3))
  | 0 => ⟨fun _ _ r h => by simp [juristlaw26_tame.l0] at h, fun _ _ _ _ r h => by simp [juristlaw26_tame.j1] at h, fun _ _ _ _ r h => by simp [juristlaw26_tame.l1] at h, fun _ _ _ _ r h => by simp [juristlaw26_tame.l2] at h⟩
  | k + 1 => by
    obtain ⟨ih0, ih1, ih2, ih3⟩ := juristlaw26_tame.mono_l k
    refine ⟨?_, ?_, ?_, ?_⟩
    · intro y0 y1
      unfold juristlaw26_tame.l0
      repeat' first
      | (with_reducible exact ih0 _ _)
      | (with_reducible exact ih1 _ _ _ _)
      | (with_reducible exact ih2 _ _ _ _)
      | (with_reducible exact ih3 _ _ _ _)
      | (with_reducible exact LeO.refl _)
      | (with_reducible exact LeO.none _)
      | (with_reducible refine LeO.ite ?_ ?_)
      | (with_reducible refine LeO.bind ?_ (fun _ => ?_))
      | exact ih0 _ _
      | exact ih1 _ _ _ _
      | exact ih2 _ _ _ _
      | exact ih3 _ _ _ _
      | exact LeO.none _
      | refine LeO.ite ?_ ?_
      | refine LeO.bind ?_ (fun _ => ?_)
    · intro y0 y1 y2 y3
      unfold juristlaw26_tame.j1
      repeat' first
      | (with_reducible exact ih0 _ _)
      | (with_reducible exact ih1 _ _ _ _)
      | (with_reducible exact ih2 _ _ _ _)
      | (with_reducible exact ih3 _ _ _ _)
      | (with_reducible exact LeO.refl _)
      | (with_reducible exact LeO.none _)
      | (with_reducible refine LeO.ite ?_ ?_)
      | (with_reducible refine LeO.bind ?_ (fun _ => ?_))
      | exact ih0 _ _
      | exact ih1 _ _ _ _
      | exact ih2 _ _ _ _
      | exact ih3 _ _ _ _
      | exact LeO.none _
      | refine LeO.ite ?_ ?_
      | refine LeO.bind ?_ (fun _ => ?_)
    · intro y0 y1 y2 y3
      unfold juristlaw26_tame.l1
      repeat' first
      | (with_reducible exact ih0 _ _)
      | (with_reducible exact ih1 _ _ _ _)
      | (with_reducible exact ih2 _ _ _ _)
      | (with_reducible exact ih3 _ _ _ _)
      | (with_reducible exact LeO.refl _)
      | (with_reducible exact LeO.none _)
      | (with_reducible refine LeO.ite ?_ ?_)
      | (with_reducible refine LeO.bind ?_ (fun _ => ?_))
      | exact ih0 _ _
      | exact ih1 _ _ _ _
      | exact ih2 _ _ _ _
      | exact ih3 _ _ _ _
      | exact LeO.none _
      | refine LeO.ite ?_ ?_
      | refine LeO.bind ?_ (fun _ => ?_)
    · intro y0 y1 y2 y3
      unfold juristlaw26_tame.l2
      repeat' first
      | (with_reducible exact ih0 _ _)
      | (with_reducible exact ih1 _ _ _ _)
      | (with_reducible exact ih2 _ _ _ _)
      | (with_reducible exact ih3 _ _ _ _)
      | (with_reducible exact LeO.refl _)
      | (with_reducible exact LeO.none _)
      | (with_reducible refine LeO.ite ?_ ?_)
      | (with_reducible refine LeO.bind ?_ (fun _ => ?_))
      | exact ih0 _ _
      | exact ih1 _ _ _ _
      | exact ih2 _ _ _ _
      | exact ih3 _ _ _ _
      | exact LeO.none _
      | refine LeO.ite ?_ ?_
      | refine LeO.bind ?_ (fun _ => ?_)
theorem juristlaw26_tame.mono : ∀ a0 a1 k, LeO (juristlaw26_tame.f k a0 a1) (juristlaw26_tame.f (k + 1) a0 a1) := by
  intro a0 a1 k
  obtain ⟨ih0, ih1, ih2, ih3⟩ := juristlaw26_tame.mono_l k
  unfold juristlaw26_tame.f
  repeat' first
      | (with_reducible exact ih0 _ _)
      | (with_reducible exact ih1 _ _ _ _)
      | (with_reducible exact ih2 _ _ _ _)
      | (with_reducible exact ih3 _ _ _ _)
      | (with_reducible exact LeO.refl _)
      | (with_reducible exact LeO.none _)
      | (with_reducible refine LeO.ite ?_ ?_)
      | (with_reducible refine LeO.bind ?_ (fun _ => ?_))
      | exact ih0 _ _
      | exact ih1 _ _ _ _
      | exact ih2 _ _ _ _
      | exact ih3 _ _ _ _
      | exact LeO.none _
      | refine LeO.ite ?_ ?_
      | refine LeO.bind ?_ (fun _ => ?_)
set_option maxHeartbeats 8000000 in
set_option maxRecDepth 100000 in
theorem juristlaw26_tame.calls (k : Nat) (A0 : Option Addr) (c0 : Nat) (l0 : List (S27)) (a1 : Int) (r : Bool) (w : World) (hr0 : Kd.C k27 w A0 l0.length l0) (hc0 : l0.length ≤ c0) (h : juristlaw26_tame.f k l0 a1 = some r) :
    Calls Tryz.prog 4 #[.slice A0 l0.length c0, .int .i64 a1] w fun e w' => e = .returned (.bool r) ∧ Drawn0 w w' := by
  have HR0 := Aside0.mk hr0
  have HC0 := Aside0.mk hc0
  clear hr0 hc0
  have H : (if (l0.length : Int) > a1 then (some false) else (juristlaw26_tame.l0 k l0 0)) = some r := h
  clear h
  by_cases c3 : (l0.length : Int) > a1
  · rw [if_pos c3] at H
    have c3b0 : decide (a1 < (l0.length : Int)) = true := decide_eq_true c3
    clear c3
    obtain rfl := Option.some.inj H
    go_enter Tryz.func4, Tryz.ntmps4
    go_wp2
    repeat (go_quiet (fail); try go_wp2)
    go_ret
    exact ⟨by first | rfl | (simp; done) | (simp [*]; done), by repeat (first | exact Drawn0.refl _ | apply Drawn0.step)⟩
  · rw [if_neg c3] at H
    have c3b0 : decide (a1 < (l0.length : Int)) = false := decide_eq_false c3
    clear c3
    have H' := Aside0.mk H
    clear H
    go_enter Tryz.func4, Tryz.ntmps4
    go_wp2
    repeat (go_quiet (fail); try go_wp2)
    go_loopg [5] k (fun kq v5 w' => ∃ (x5_1 : Int), v5 = .int .i64 x5_1 ∧ Aside0 (juristlaw26_tame.l0 kq l0 x5_1 = some r) ∧ Aside0 (kq ≤ k) ∧ Drawn0 w w')
    case atStart => exact ⟨(0), (by first | rfl | (simp; done) | (simp [*]; done)), H', ⟨Nat.le_refl _⟩, by repeat (first | exact Drawn0.refl _ | apply Drawn0.step)⟩
    case round =>
      clear H'
      try clear p2
      try clear c3
      try clear c3b0
      obtain ⟨x5_1, rfl, HA, HK1, ⟨m1, rfl⟩⟩ := hrel
      cases gk with
      | zero => exact absurd HA.out (by simp [juristlaw26_tame.l0])
      | succ k1 =>
        have H := HA.out
        clear HA
        simp only [juristlaw26_tame.l0] at H
        by_cases c4 : x5_1 < (l0.length : Int)
        · rw [if_pos c4] at H
          have c4b0 : decide (x5_1 < (l0.length : Int)) = true := decide_eq_true c4
          clear c4
          by_cases c5 : 0 ≤ x5_1
          · rw [if_pos c5] at H
            have c5b0 : decide (0 ≤ x5_1) = true := decide_eq_true c5
            clear c5
            have HC6 := Aside0.mk H
            clear H
            have p101 : 0 ≤ (x5_1 : Int) := of_decide_eq_true (by first | (with_reducible assumption) | assumption)
            have q101 : x5_1 < (l0.length : Int) := of_decide_eq_true (by first | (with_reducible assumption) | assumption)
            obtain ⟨ad101, A101_6, c101_6, A101_7, c101_7, A101_9, c101_9, e101, hx101_0, hx101_1, hx101_2, hx101_3, hx101_4, hx101_5, hx101_6, hx101_7, hx101_8, hx101_9, hl101_6, hi101_6, hl101_7, hi101_7, hl101_9, hi101_9⟩ := at_T27 HR0.out x5_1 p101 q101
            cases e101
            have HR101_6 := Aside0.mk hi101_6
            have HC101_6 := Aside0.mk hl101_6
            clear hi101_6 hl101_6
            have HR101_7 := Aside0.mk hi101_7
            have HC101_7 := Aside0.mk hl101_7
            clear hi101_7 hl101_7
            have HR101_9 := Aside0.mk hi101_9
            have HC101_9 := Aside0.mk hl101_9
            clear hi101_9 hl101_9
            replace p101 := eq_true p101
            replace q101 := eq_true q101
            have p102 : 0 ≤ (x5_1 : Int) := of_decide_eq_true (by first | (with_reducible assumption) | assumption)
            have q102 : x5_1 < (l0.length : Int) := of_decide_eq_true (by first | (with_reducible assumption) | assumption)
            obtain ⟨ad102, A102_6, c102_6, A102_7, c102_7, A102_9, c102_9, e102, hx102_0, hx102_1, hx102_2, hx102_3, hx102_4, hx102_5, hx102_6, hx102_7, hx102_8, hx102_9, hl102_6, hi102_6, hl102_7, hi102_7, hl102_9, hi102_9⟩ := at_T27 HR0.out x5_1 p102 q102
            obtain rfl : ad101 = ad102 := (by injection e102)
            have HR102_6 := Aside0.mk hi102_6
            have HC102_6 := Aside0.mk hl102_6
            clear hi102_6 hl102_6
            have HR102_7 := Aside0.mk hi102_7
            have HC102_7 := Aside0.mk hl102_7
            clear hi102_7 hl102_7
            have HR102_9 := Aside0.mk hi102_9
            have HC102_9 := Aside0.mk hl102_9
            clear hi102_9 hl102_9
            replace p102 := eq_true p102
            replace q102 := eq_true q102
            have ea_ := Option.some.inj (hx101_6.symm.trans hx102_6)
            injection ea_ with ea_ en_ ec_
            subst ea_
            subst ec_
            clear en_
            have ea_ := Option.some.inj (hx101_7.symm.trans hx102_7)
            injection ea_ with ea_ en_ ec_
            subst ea_
            subst ec_
            clear en_
            have ea_ := Option.some.inj (hx101_9.symm.trans hx102_9)
            injection ea_ with ea_ en_ ec_
            subst ea_
            subst ec_
            clear en_
            have p103 : 0 ≤ (x5_1 : Int) := of_decide_eq_true (by first | (with_reducible assumption) | assumption)
            have q103 : x5_1 < (l0.length : Int) := of_decide_eq_true (by first | (with_reducible assumption) | assumption)
            obtain ⟨ad103, A103_6, c103_6, A103_7, c103_7, A103_9, c103_9, e103, hx103_0, hx103_1, hx103_2, hx103_3, hx103_4, hx103_5, hx103_6, hx103_7, hx103_8, hx103_9, hl103_6, hi103_6, hl103_7, hi103_7, hl103_9, hi103_9⟩ := at_T27 HR0.out x5_1 p103 q103
            obtain rfl : ad101 = ad103 := (by injection e103)
            have HR103_6 := Aside0.mk hi103_6
            have HC103_6 := Aside0.mk hl103_6
            clear hi103_6 hl103_6
            have HR103_7 := Aside0.mk hi103_7
            have HC103_7 := Aside0.mk hl103_7
            clear hi103_7 hl103_7
            have HR103_9 := Aside0.mk hi103_9
            have HC103_9 := Aside0.mk hl103_9
            clear hi103_9 hl103_9
            replace p103 := eq_true p103
            replace q103 := eq_true q103
            have ea_ := Option.some.inj (hx101_6.symm.trans hx103_6)
            injection ea_ with ea_ en_ ec_
            subst ea_
            subst ec_
            clear en_
            have ea_ := Option.some.inj (hx101_7.symm.trans hx103_7)
            injection ea_ with ea_ en_ ec_
            subst ea_
            subst ec_
            clear en_
            have ea_ := Option.some.inj (hx101_9.symm.trans hx103_9)
            injection ea_ with ea_ en_ ec_
            subst ea_
            subst ec_
            clear en_
            go_upto_region 7 with (fail)
            repeat (go_quiet (fail); go_upto_region 7 with (fail))
            go_cut [54] (fun v54 wc => ∃ (kq : Nat) (x54_5 : Bool), v54 = .bool x54_5 ∧ Aside0 (juristlaw26_tame.j1 kq l0 x5_1 (wrap64 ((wrap64 ((((rd_T27 l0 x5_1).f3).size : Int) + (((rd_T27 l0 x5_1).f6).size : Int))) + (((rd_T27 l0 x5_1).f7).length : Int))) x54_5 = some r) ∧ Aside0 (kq ≤ k1) ∧ Drawn0 w wc)
            case first =>
              have H := HC6.out
              clear HC6
              by_cases c7 : (((rd_T27 l0 x5_1).f4).length : Int) > 40
              · rw [if_pos c7] at H
                have c7b0 : decide (40 < (((rd_T27 l0 x5_1).f4).length : Int)) = true := decide_eq_true c7
                have c7b1 : decide (40 < ((rd_T27 l0 x5_1).f4).length) = true := decide_eq_true (by omega)
                clear c7
                (first | rw [c7b0] | (simp only [i64_w, i32_w]; rw [c7b0]) | skip)
                have H' := Aside0.mk H
                clear H
                have p104 : 0 ≤ (x5_1 : Int) := of_decide_eq_true (by first | (with_reducible assumption) | assumption)
                have q104 : x5_1 < (l0.length : Int) := of_decide_eq_true (by first | (with_reducible assumption) | assumption)
                obtain ⟨ad104, A104_6, c104_6, A104_7, c104_7, A104_9, c104_9, e104, hx104_0, hx104_1, hx104_2, hx104_3, hx104_4, hx104_5, hx104_6, hx104_7, hx104_8, hx104_9, hl104_6, hi104_6, hl104_7, hi104_7, hl104_9, hi104_9⟩ := at_T27 HR0.out x5_1 p104 q104
                obtain rfl : ad101 = ad104 := (by injection e104)
                have HR104_6 := Aside0.mk hi104_6
                have HC104_6 := Aside0.mk hl104_6
                clear hi104_6 hl104_6
                have HR104_7 := Aside0.mk hi104_7
                have HC104_7 := Aside0.mk hl104_7
                clear hi104_7 hl104_7
                have HR104_9 := Aside0.mk hi104_9
                have HC104_9 := Aside0.mk hl104_9
                clear hi104_9 hl104_9
                replace p104 := eq_true p104
                replace q104 := eq_true q104
                go_wp2
                repeat (go_quiet (fail); try go_wp2)
                go_meet
                case rel => exact ⟨_, (true), (by first | rfl | (simp; done) | (simp [*]; done)), H', ⟨by have := HK1.out; first | omega | exact Nat.le_refl _⟩, by repeat (first | exact Drawn0.refl _ | apply Drawn0.step)⟩
              · rw [if_neg c7] at H
                have c7b0 : decide (40 < (((rd_T27 l0 x5_1).f4).length : Int)) = false := decide_eq_false c7
                have c7b1 : decide (40 < ((rd_T27 l0 x5_1).f4).length) = false := decide_eq_false (by omega)
                clear c7
                (first | rw [c7b0] | (simp only [i64_w, i32_w]; rw [c7b0]) | skip)
                have H' := Aside0.mk H
                clear H
                have p104 : 0 ≤ (x5_1 : Int) := of_decide_eq_true (by first | (with_reducible assumption) | assumption)
                have q104 : x5_1 < (l0.length : Int) := of_decide_eq_true (by first | (with_reducible assumption) | assumption)
                obtain ⟨ad104, A104_6, c104_6, A104_7, c104_7, A104_9, c104_9, e104, hx104_0, hx104_1, hx104_2, hx104_3, hx104_4, hx104_5, hx104_6, hx104_7, hx104_8, hx104_9, hl104_6, hi104_6, hl104_7, hi104_7, hl104_9, hi104_9⟩ := at_T27 HR0.out x5_1 p104 q104
                obtain rfl : ad101 = ad104 := (by injection e104)
                have HR104_6 := Aside0.mk hi104_6
                have HC104_6 := Aside0.mk hl104_6
                clear hi104_6 hl104_6
                have HR104_7 := Aside0.mk hi104_7
                have HC104_7 := Aside0.mk hl104_7
                clear hi104_7 hl104_7
                have HR104_9 := Aside0.mk hi104_9
                have HC104_9 := Aside0.mk hl104_9
                clear hi104_9 hl104_9
                replace p104 := eq_true p104
                replace q104 := eq_true q104
                have p105 : 0 ≤ (x5_1 : Int) := of_decide_eq_true (by first | (with_reducible assumption) | assumption)
                have q105 : x5_1 < (l0.length : Int) := of_decide_eq_true (by first | (with_reducible assumption) | assumption)
                obtain ⟨ad105, A105_6, c105_6, A105_7, c105_7, A105_9, c105_9, e105, hx105_0, hx105_1, hx105_2, hx105_3, hx105_4, hx105_5, hx105_6, hx105_7, hx105_8, hx105_9, hl105_6, hi105_6, hl105_7, hi105_7, hl105_9, hi105_9⟩ := at_T27 HR0.out x5_1 p105 q105
                obtain rfl : ad101 = ad105 := (by injection e105)
                have HR105_6 := Aside0.mk hi105_6
                have HC105_6 := Aside0.mk hl105_6
                clear hi105_6 hl105_6
                have HR105_7 := Aside0.mk hi105_7
                have HC105_7 := Aside0.mk hl105_7
                clear hi105_7 hl105_7
                have HR105_9 := Aside0.mk hi105_9
                have HC105_9 := Aside0.mk hl105_9
                clear hi105_9 hl105_9
                replace p105 := eq_true p105
                replace q105 := eq_true q105
                have ea_ := Option.some.inj (hx104_6.symm.trans hx105_6)
                injection ea_ with ea_ en_ ec_
                subst ea_
                subst ec_
                clear en_
                have ea_ := Option.some.inj (hx104_7.symm.trans hx105_7)
                injection ea_ with ea_ en_ ec_
                subst ea_
                subst ec_
                clear en_
                have ea_ := Option.some.inj (hx104_9.symm.trans hx105_9)
                injection ea_ with ea_ en_ ec_
                subst ea_
                subst ec_
                clear en_
                go_wp2
                repeat (go_quiet (fail); try go_wp2)
                go_meet
                case rel => exact ⟨_, (decide ((((rd_T27 l0 x5_1).f5).length : Int) > 40)), (by first | rfl | (simp; done) | (simp [*]; done)), H', ⟨by have := HK1.out; first | omega | exact Nat.le_refl _⟩, by repeat (first | exact Drawn0.refl _ | apply Drawn0.step)⟩
            case rest =>
              clear HC6
              try clear c1
              try clear p1
              try clear q1
              try clear hx1
              try clear p2
              try clear c3
              try clear c3b0
              try clear c4
              try clear c4b0
              try clear c5
              try clear c5b0
              try clear p6
              try clear c7
              try clear c7b0
              try clear c7b1
              try clear hx101_0
              try clear hx101_1
              try clear hx101_2
              try clear hx101_3
              try clear hx101_4
              try clear hx101_5
              try clear hx101_6
              try clear hx101_7
              try clear hx101_8
              try clear hx101_9
              try clear hx102_0
              try clear hx102_1
              try clear hx102_2
              try clear hx102_3
              try clear hx102_4
              try clear hx102_5
              try clear hx102_6
              try clear hx102_7
              try clear hx102_8
              try clear hx102_9
              try clear hx103_0
              try clear hx103_1
              try clear hx103_2
              try clear hx103_3
              try clear hx103_4
              try clear hx103_5
              try clear hx103_6
              try clear hx103_7
              try clear hx103_8
              try clear hx103_9
              try clear hx104_0
              try clear hx104_1
              try clear hx104_2
              try clear hx104_3
              try clear hx104_4
              try clear hx104_5
              try clear hx104_6
              try clear hx104_7
              try clear hx104_8
              try clear hx104_9
              try clear hx105_0
              try clear hx105_1
              try clear hx105_2
              try clear hx105_3
              try clear hx105_4
              try clear hx105_5
              try clear hx105_6
              try clear hx105_7
              try clear hx105_8
              try clear hx105_9
              try clear p101
              try clear p102
              try clear p103
              try clear p104
              try clear p105
              try clear p2
              try clear q101
              try clear q102
              try clear q103
              try clear q104
              try clear q105
              obtain ⟨kq, x54_5, rfl, HA, HJ5, ⟨mc5, rfl⟩⟩ := hcut
              cases kq with
              | zero => exact absurd HA.out (by simp [juristlaw26_tame.j1])
              | succ kj5 =>
                have H := HA.out
                clear HA
                simp only [juristlaw26_tame.j1] at H
                by_cases c8 : x54_5 = true
                · subst c8
                  have H1 : (some false) = some r := by rw [if_pos rfl] at H; exact H
                  clear H
                  have H := H1
                  clear H1
                  obtain rfl := Option.some.inj H
                  go_wp2
                  repeat (go_quiet (fail); try go_wp2)
                  go_ret
                  exact ⟨by first | rfl | (simp; done) | (simp [*]; done), by repeat (first | exact Drawn0.refl _ | apply Drawn0.step)⟩
                · replace c8 := Bool.eq_false_iff.mpr c8
                  subst c8
                  have H1 : (juristlaw26_tame.l1 kj5 l0 x5_1 (wrap64 ((wrap64 ((((rd_T27 l0 x5_1).f3).size : Int) + (((rd_T27 l0 x5_1).f6).size : Int))) + (((rd_T27 l0 x5_1).f7).length : Int))) 0) = some r := by rw [if_neg (show ¬ (false = true) by decide)] at H; exact H
                  clear H
                  have H := H1
                  clear H1
                  have H' := Aside0.mk H
                  clear H
                  go_wp2
                  repeat (go_quiet (fail); try go_wp2)
                  go_loopg [6, 7] kj5 (fun kq v6 v7 w' => ∃ (x6_3 : Int) (x7_3 : Int), v6 = .int .i64 x6_3 ∧ v7 = .int .i64 x7_3 ∧ Aside0 (juristlaw26_tame.l1 kq l0 x5_1 x6_3 x7_3 = some r) ∧ Aside0 (kq ≤ kj5) ∧ Drawn0 w w')
                  case atStart => exact ⟨((wrap64 ((wrap64 ((((rd_T27 l0 x5_1).f3).size : Int) + (((rd_T27 l0 x5_1).f6).size : Int))) + (((rd_T27 l0 x5_1).f7).length : Int)))), (0), (by first | rfl | (simp; done) | (simp [*]; done)), (by first | rfl | (simp; done) | (simp [*]; done)), H', ⟨Nat.le_refl _⟩, by repeat (first | exact Drawn0.refl _ | apply Drawn0.step)⟩
                  case round =>
                    clear H'
                    try clear c1
                    try clear p1
                    try clear q1
                    try clear hx1
                    try clear p2
                    try clear c3
                    try clear c3b0
                    try clear c4
                    try clear c4b0
                    try clear c5
                    try clear c5b0
                    try clear p6
                    try clear c7
                    try clear c7b0
                    try clear c7b1
                    try clear c8
                    try clear hx101_0
                    try clear hx101_1
                    try clear hx101_2
                    try clear hx101_3
                    try clear hx101_4
                    try clear hx101_5
                    try clear hx101_6
                    try clear hx101_7
                    try clear hx101_8
                    try clear hx101_9
                    try clear hx102_0
                    try clear hx102_1
                    try clear hx102_2
                    try clear hx102_3
                    try clear hx102_4
                    try clear hx102_5
                    try clear hx102_6
                    try clear hx102_7
                    try clear hx102_8
                    try clear hx102_9
                    try clear hx103_0
                    try clear hx103_1
                    try clear hx103_2
                    try clear hx103_3
                    try clear hx103_4
                    try clear hx103_5
                    try clear hx103_6
                    try clear hx103_7
                    try clear hx103_8
                    try clear hx103_9
                    try clear hx104_0
                    try clear hx104_1
                    try clear hx104_2
                    try clear hx104_3
                    try clear hx104_4
                    try clear hx104_5
                    try clear hx104_6
                    try clear hx104_7
                    try clear hx104_8
                    try clear hx104_9
                    try clear hx105_0
                    try clear hx105_1
                    try clear hx105_2
                    try clear hx105_3
                    try clear hx105_4
                    try clear hx105_5
                    try clear hx105_6
                    try clear hx105_7
                    try clear hx105_8
                    try clear hx105_9
                    try clear p1
                    try clear p101
                    try clear p102
                    try clear p103
                    try clear p104
                    try clear p105
                    try clear p2
                    try clear p6
                    try clear q1
                    try clear q101
                    try clear q102
                    try clear q103
                    try clear q104
                    try clear q105
                    obtain ⟨x6_3, x7_3, rfl, rfl, HA, HK3, ⟨m3, rfl⟩⟩ := hrel
                    cases gk with
                    | zero => exact absurd HA.out (by simp [juristlaw26_tame.l1])
                    | succ k3 =>
                      have H := HA.out
                      clear HA
                      simp only [juristlaw26_tame.l1] at H
                      by_cases c9 : 0 ≤ x5_1
                      · rw [if_pos c9] at H
                        have c9b0 : decide (0 ≤ x5_1) = true := decide_eq_true c9
                        clear c9
                        by_cases c10 : x5_1 < (l0.length : Int)
                        · rw [if_pos c10] at H
                          have c10b0 : decide (x5_1 < (l0.length : Int)) = true := decide_eq_true c10
                          clear c10
                          by_cases c11 : x7_3 < (((rd_T27 l0 x5_1).f4).length : Int)
                          · rw [if_pos c11] at H
                            have c11b0 : decide (x7_3 < (((rd_T27 l0 x5_1).f4).length : Int)) = true := decide_eq_true c11
                            clear c11
                            by_cases c12 : 0 ≤ x7_3
                            · rw [if_pos c12] at H
                              have c12b0 : decide (0 ≤ x7_3) = true := decide_eq_true c12
                              clear c12
                              have H' := Aside0.mk H
                              clear H
                              have p106 : 0 ≤ (x5_1 : Int) := of_decide_eq_true (by first | (with_reducible assumption) | assumption)
                              have q106 : x5_1 < (l0.length : Int) := of_decide_eq_true (by first | (with_reducible assumption) | assumption)
                              obtain ⟨ad106, A106_6, c106_6, A106_7, c106_7, A106_9, c106_9, e106, hx106_0, hx106_1, hx106_2, hx106_3, hx106_4, hx106_5, hx106_6, hx106_7, hx106_8, hx106_9, hl106_6, hi106_6, hl106_7, hi106_7, hl106_9, hi106_9⟩ := at_T27 HR0.out x5_1 p106 q106
                              obtain rfl : ad101 = ad106 := (by injection e106)
                              have HR106_6 := Aside0.mk hi106_6
                              have HC106_6 := Aside0.mk hl106_6
                              clear hi106_6 hl106_6
                              have HR106_7 := Aside0.mk hi106_7
                              have HC106_7 := Aside0.mk hl106_7
                              clear hi106_7 hl106_7
                              have HR106_9 := Aside0.mk hi106_9
                              have HC106_9 := Aside0.mk hl106_9
                              clear hi106_9 hl106_9
                              replace p106 := eq_true p106
                              replace q106 := eq_true q106
                              have p107 : 0 ≤ (x5_1 : Int) := of_decide_eq_true (by first | (with_reducible assumption) | assumption)
                              have q107 : x5_1 < (l0.length : Int) := of_decide_eq_true (by first | (with_reducible assumption) | assumption)
                              obtain ⟨ad107, A107_6, c107_6, A107_7, c107_7, A107_9, c107_9, e107, hx107_0, hx107_1, hx107_2, hx107_3, hx107_4, hx107_5, hx107_6, hx107_7, hx107_8, hx107_9, hl107_6, hi107_6, hl107_7, hi107_7, hl107_9, hi107_9⟩ := at_T27 HR0.out x5_1 p107 q107
                              obtain rfl : ad101 = ad107 := (by injection e107)
                              have HR107_6 := Aside0.mk hi107_6
                              have HC107_6 := Aside0.mk hl107_6
                              clear hi107_6 hl107_6
                              have HR107_7 := Aside0.mk hi107_7
                              have HC107_7 := Aside0.mk hl107_7
                              clear hi107_7 hl107_7
                              have HR107_9 := Aside0.mk hi107_9
                              have HC107_9 := Aside0.mk hl107_9
                              clear hi107_9 hl107_9
                              replace p107 := eq_true p107
                              replace q107 := eq_true q107
                              have ea_ := Option.some.inj (hx106_6.symm.trans hx107_6)
                              injection ea_ with ea_ en_ ec_
                              subst ea_
                              subst ec_
                              clear en_
                              have ea_ := Option.some.inj (hx106_7.symm.trans hx107_7)
                              injection ea_ with ea_ en_ ec_
                              subst ea_
                              subst ec_
                              clear en_
                              have ea_ := Option.some.inj (hx106_9.symm.trans hx107_9)
                              injection ea_ with ea_ en_ ec_
                              subst ea_
                              subst ec_
                              clear en_
                              have p108 : 0 ≤ (x7_3 : Int) := of_decide_eq_true (by first | (with_reducible assumption) | assumption)
                              have q108 : x7_3 < (((rd_T27 l0 x5_1).f4).length : Int) := of_decide_eq_true (by first | (with_reducible assumption) | assumption)
                              obtain ⟨ad108, e108, hx108_0⟩ := Kd.at_string HR107_6.out x7_3 p108 q108
                              cases e108
                              replace p108 := eq_true p108
                              replace q108 := eq_true q108
                              go_wp2
                              repeat (go_quiet (fail); try go_wp2)
                              go_roundg k3
                              case measure => have := HK1.out; have := HJ5.out; have := HK3.out; omega
                              case rel => exact ⟨(wrap64 (x6_3 + ((rdOf ByteArray.empty ((rd_T27 l0 x5_1).f4) x7_3).size : Int))), (wrap64 (x7_3 + 1)), (by first | rfl | (simp; done) | (simp [*]; done)), (by first | rfl | (simp; done) | (simp [*]; done)), H', ⟨by have := HK1.out; have := HJ5.out; have := HK3.out; omega⟩, by repeat (first | exact Drawn0.refl _ | apply Drawn0.step)⟩
                            · rw [if_neg c12] at H
                              exact absurd H (by simp)
                          · rw [if_neg c11] at H
                            have c11b0 : decide (x7_3 < (((rd_T27 l0 x5_1).f4).length : Int)) = false := decide_eq_false c11
                            clear c11
                            have H' := Aside0.mk H
                            clear H
                            have p106 : 0 ≤ (x5_1 : Int) := of_decide_eq_true (by first | (with_reducible assumption) | assumption)
                            have q106 : x5_1 < (l0.length : Int) := of_decide_eq_true (by first | (with_reducible assumption) | assumption)
                            obtain ⟨ad106, A106_6, c106_6, A106_7, c106_7, A106_9, c106_9, e106, hx106_0, hx106_1, hx106_2, hx106_3, hx106_4, hx106_5, hx106_6, hx106_7, hx106_8, hx106_9, hl106_6, hi106_6, hl106_7, hi106_7, hl106_9, hi106_9⟩ := at_T27 HR0.out x5_1 p106 q106
                            obtain rfl : ad101 = ad106 := (by injection e106)
                            have HR106_6 := Aside0.mk hi106_6
                            have HC106_6 := Aside0.mk hl106_6
                            clear hi106_6 hl106_6
                            have HR106_7 := Aside0.mk hi106_7
                            have HC106_7 := Aside0.mk hl106_7
                            clear hi106_7 hl106_7
                            have HR106_9 := Aside0.mk hi106_9
                            have HC106_9 := Aside0.mk hl106_9
                            clear hi106_9 hl106_9
                            replace p106 := eq_true p106
                            replace q106 := eq_true q106
                            go_wp2
                            repeat (go_quiet (fail); try go_wp2)
                            go_loopg [6, 8] k3 (fun kq v6 v8 w' => ∃ (x6_4 : Int) (x8_4 : Int), v6 = .int .i64 x6_4 ∧ v8 = .int .i64 x8_4 ∧ Aside0 (juristlaw26_tame.l2 kq l0 x5_1 x6_4 x8_4 = some r) ∧ Aside0 (kq ≤ k3) ∧ Drawn0 w w')
                            case atStart => exact ⟨(x6_3), (0), (by first | rfl | (simp; done) | (simp [*]; done)), (by first | rfl | (simp; done) | (simp [*]; done)), H', ⟨Nat.le_refl _⟩, by repeat (first | exact Drawn0.refl _ | apply Drawn0.step)⟩
                            case round =>
                              clear H'
                              try clear c1
                              try clear p1
                              try clear q1
                              try clear hx1
                              try clear p2
                              try clear c3
                              try clear c3b0
                              try clear c4
                              try clear c4b0
                              try clear c5
                              try clear c5b0
                              try clear p6
                              try clear c7
                              try clear c7b0
                              try clear c7b1
                              try clear c8
                              try clear c9
                              try clear c9b0
                              try clear c10
                              try clear c10b0
                              try clear p10
                              try clear q10
                              try clear hx10
                              try clear c11
                              try clear c11b0
                              try clear c12
                              try clear c12b0
                              try clear hx101_0
                              try clear hx101_1
                              try clear hx101_2
                              try clear hx101_3
                              try clear hx101_4
                              try clear hx101_5
                              try clear hx101_6
                              try clear hx101_7
                              try clear hx101_8
                              try clear hx101_9
                              try clear hx102_0
                              try clear hx102_1
                              try clear hx102_2
                              try clear hx102_3
                              try clear hx102_4
                              try clear hx102_5
                              try clear hx102_6
                              try clear hx102_7
                              try clear hx102_8
                              try clear hx102_9
                              try clear hx103_0
                              try clear hx103_1
                              try clear hx103_2
                              try clear hx103_3
                              try clear hx103_4
                              try clear hx103_5
                              try clear hx103_6
                              try clear hx103_7
                              try clear hx103_8
                              try clear hx103_9
                              try clear hx104_0
                              try clear hx104_1
                              try clear hx104_2
                              try clear hx104_3
                              try clear hx104_4
                              try clear hx104_5
                              try clear hx104_6
                              try clear hx104_7
                              try clear hx104_8
                              try clear hx104_9
                              try clear hx105_0
                              try clear hx105_1
                              try clear hx105_2
                              try clear hx105_3
                              try clear hx105_4
                              try clear hx105_5
                              try clear hx105_6
                              try clear hx105_7
                              try clear hx105_8
                              try clear hx105_9
                              try clear hx106_0
                              try clear hx106_1
                              try clear hx106_2
                              try clear hx106_3
                              try clear hx106_4
                              try clear hx106_5
                              try clear hx106_6
                              try clear hx106_7
                              try clear hx106_8
                              try clear hx106_9
                              try clear hx107_0
                              try clear hx107_1
                              try clear hx107_2
                              try clear hx107_3
                              try clear hx107_4
                              try clear hx107_5
                              try clear hx107_6
                              try clear hx107_7
                              try clear hx107_8
                              try clear hx107_9
                              try clear hx108_0
                              try clear p1
                              try clear p101
                              try clear p102
                              try clear p103
                              try clear p104
                              try clear p105
                              try clear p106
                              try clear p107
                              try clear p108
                              try clear p2
                              try clear p6
                              try clear q1
                              try clear q101
                              try clear q102
                              try clear q103
                              try clear q104
                              try clear q105
                              try clear q106
                              try clear q107
                              try clear q108
                              obtain ⟨x6_4, x8_4, rfl, rfl, HA, HK4, ⟨m4, rfl⟩⟩ := hrel
                              cases gk with
                              | zero => exact absurd HA.out (by simp [juristlaw26_tame.l2])
                              | succ k4 =>
                                have H := HA.out
                                clear HA
                                simp only [juristlaw26_tame.l2] at H
                                by_cases c13 : 0 ≤ x5_1
                                · rw [if_pos c13] at H
                                  have c13b0 : decide (0 ≤ x5_1) = true := decide_eq_true c13
                                  clear c13
                                  by_cases c14 : x5_1 < (l0.length : Int)
                                  · rw [if_pos c14] at H
                                    have c14b0 : decide (x5_1 < (l0.length : Int)) = true := decide_eq_true c14
                                    clear c14
                                    by_cases c15 : x8_4 < (((rd_T27 l0 x5_1).f5).length : Int)
                                    · rw [if_pos c15] at H
                                      have c15b0 : decide (x8_4 < (((rd_T27 l0 x5_1).f5).length : Int)) = true := decide_eq_true c15
                                      clear c15
                                      by_cases c16 : 0 ≤ x8_4
                                      · rw [if_pos c16] at H
                                        have c16b0 : decide (0 ≤ x8_4) = true := decide_eq_true c16
                                        clear c16
                                        have H' := Aside0.mk H
                                        clear H
                                        have p109 : 0 ≤ (x5_1 : Int) := of_decide_eq_true (by first | (with_reducible assumption) | assumption)
                                        have q109 : x5_1 < (l0.length : Int) := of_decide_eq_true (by first | (with_reducible assumption) | assumption)
                                        obtain ⟨ad109, A109_6, c109_6, A109_7, c109_7, A109_9, c109_9, e109, hx109_0, hx109_1, hx109_2, hx109_3, hx109_4, hx109_5, hx109_6, hx109_7, hx109_8, hx109_9, hl109_6, hi109_6, hl109_7, hi109_7, hl109_9, hi109_9⟩ := at_T27 HR0.out x5_1 p109 q109
                                        obtain rfl : ad101 = ad109 := (by injection e109)
                                        have HR109_6 := Aside0.mk hi109_6
                                        have HC109_6 := Aside0.mk hl109_6
                                        clear hi109_6 hl109_6
                                        have HR109_7 := Aside0.mk hi109_7
                                        have HC109_7 := Aside0.mk hl109_7
                                        clear hi109_7 hl109_7
                                        have HR109_9 := Aside0.mk hi109_9
                                        have HC109_9 := Aside0.mk hl109_9
                                        clear hi109_9 hl109_9
                                        replace p109 := eq_true p109
                                        replace q109 := eq_true q109
                                        have p110 : 0 ≤ (x5_1 : Int) := of_decide_eq_true (by first | (with_reducible assumption) | assumption)
                                        have q110 : x5_1 < (l0.length : Int) := of_decide_eq_true (by first | (with_reducible assumption) | assumption)
                                        obtain ⟨ad110, A110_6, c110_6, A110_7, c110_7, A110_9, c110_9, e110, hx110_0, hx110_1, hx110_2, hx110_3, hx110_4, hx110_5, hx110_6, hx110_7, hx110_8, hx110_9, hl110_6, hi110_6, hl110_7, hi110_7, hl110_9, hi110_9⟩ := at_T27 HR0.out x5_1 p110 q110
                                        obtain rfl : ad101 = ad110 := (by injection e110)
                                        have HR110_6 := Aside0.mk hi110_6
                                        have HC110_6 := Aside0.mk hl110_6
                                        clear hi110_6 hl110_6
                                        have HR110_7 := Aside0.mk hi110_7
                                        have HC110_7 := Aside0.mk hl110_7
                                        clear hi110_7 hl110_7
                                        have HR110_9 := Aside0.mk hi110_9
                                        have HC110_9 := Aside0.mk hl110_9
                                        clear hi110_9 hl110_9
                                        replace p110 := eq_true p110
                                        replace q110 := eq_true q110
                                        have ea_ := Option.some.inj (hx109_6.symm.trans hx110_6)
                                        injection ea_ with ea_ en_ ec_
                                        subst ea_
                                        subst ec_
                                        clear en_
                                        have ea_ := Option.some.inj (hx109_7.symm.trans hx110_7)
                                        injection ea_ with ea_ en_ ec_
                                        subst ea_
                                        subst ec_
                                        clear en_
                                        have ea_ := Option.some.inj (hx109_9.symm.trans hx110_9)
                                        injection ea_ with ea_ en_ ec_
                                        subst ea_
                                        subst ec_
                                        clear en_
                                        have p111 : 0 ≤ (x8_4 : Int) := of_decide_eq_true (by first | (with_reducible assumption) | assumption)
                                        have q111 : x8_4 < (((rd_T27 l0 x5_1).f5).length : Int) := of_decide_eq_true (by first | (with_reducible assumption) | assumption)
                                        obtain ⟨ad111, e111, hx111_0⟩ := Kd.at_string HR110_7.out x8_4 p111 q111
                                        cases e111
                                        replace p111 := eq_true p111
                                        replace q111 := eq_true q111
                                        go_wp2
                                        repeat (go_quiet (fail); try go_wp2)
                                        go_roundg k4
                                        case measure => have := HK1.out; have := HJ5.out; have := HK3.out; have := HK4.out; omega
                                        case rel => exact ⟨(wrap64 (x6_4 + ((rdOf ByteArray.empty ((rd_T27 l0 x5_1).f5) x8_4).size : Int))), (wrap64 (x8_4 + 1)), (by first | rfl | (simp; done) | (simp [*]; done)), (by first | rfl | (simp; done) | (simp [*]; done)), H', ⟨by have := HK1.out; have := HJ5.out; have := HK3.out; have := HK4.out; omega⟩, by repeat (first | exact Drawn0.refl _ | apply Drawn0.step)⟩
                                      · rw [if_neg c16] at H
                                        exact absurd H (by simp)
                                    · rw [if_neg c15] at H
                                      have c15b0 : decide (x8_4 < (((rd_T27 l0 x5_1).f5).length : Int)) = false := decide_eq_false c15
                                      clear c15
                                      by_cases c17 : x6_4 > 3000
                                      · rw [if_pos c17] at H
                                        have c17b0 : decide (3000 < x6_4) = true := decide_eq_true c17
                                        clear c17
                                        obtain rfl := Option.some.inj H
                                        have p109 : 0 ≤ (x5_1 : Int) := of_decide_eq_true (by first | (with_reducible assumption) | assumption)
                                        have q109 : x5_1 < (l0.length : Int) := of_decide_eq_true (by first | (with_reducible assumption) | assumption)
                                        obtain ⟨ad109, A109_6, c109_6, A109_7, c109_7, A109_9, c109_9, e109, hx109_0, hx109_1, hx109_2, hx109_3, hx109_4, hx109_5, hx109_6, hx109_7, hx109_8, hx109_9, hl109_6, hi109_6, hl109_7, hi109_7, hl109_9, hi109_9⟩ := at_T27 HR0.out x5_1 p109 q109
                                        obtain rfl : ad101 = ad109 := (by injection e109)
                                        have HR109_6 := Aside0.mk hi109_6
                                        have HC109_6 := Aside0.mk hl109_6
                                        clear hi109_6 hl109_6
                                        have HR109_7 := Aside0.mk hi109_7
                                        have HC109_7 := Aside0.mk hl109_7
                                        clear hi109_7 hl109_7
                                        have HR109_9 := Aside0.mk hi109_9
                                        have HC109_9 := Aside0.mk hl109_9
                                        clear hi109_9 hl109_9
                                        replace p109 := eq_true p109
                                        replace q109 := eq_true q109
                                        go_wp2
                                        repeat (go_quiet (fail); try go_wp2)
                                        go_ret
                                        exact ⟨by first | rfl | (simp; done) | (simp [*]; done), by repeat (first | exact Drawn0.refl _ | apply Drawn0.step)⟩
                                      · rw [if_neg c17] at H
                                        have c17b0 : decide (3000 < x6_4) = false := decide_eq_false c17
                                        clear c17
                                        have H' := Aside0.mk H
                                        clear H
                                        have p109 : 0 ≤ (x5_1 : Int) := of_decide_eq_true (by first | (with_reducible assumption) | assumption)
                                        have q109 : x5_1 < (l0.length : Int) := of_decide_eq_true (by first | (with_reducible assumption) | assumption)
                                        obtain ⟨ad109, A109_6, c109_6, A109_7, c109_7, A109_9, c109_9, e109, hx109_0, hx109_1, hx109_2, hx109_3, hx109_4, hx109_5, hx109_6, hx109_7, hx109_8, hx109_9, hl109_6, hi109_6, hl109_7, hi109_7, hl109_9, hi109_9⟩ := at_T27 HR0.out x5_1 p109 q109
                                        obtain rfl : ad101 = ad109 := (by injection e109)
                                        have HR109_6 := Aside0.mk hi109_6
                                        have HC109_6 := Aside0.mk hl109_6
                                        clear hi109_6 hl109_6
                                        have HR109_7 := Aside0.mk hi109_7
                                        have HC109_7 := Aside0.mk hl109_7
                                        clear hi109_7 hl109_7
                                        have HR109_9 := Aside0.mk hi109_9
                                        have HC109_9 := Aside0.mk hl109_9
                                        clear hi109_9 hl109_9
                                        replace p109 := eq_true p109
                                        replace q109 := eq_true q109
                                        go_wp2
                                        repeat (go_quiet (fail); try go_wp2)
                                        go_roundg k4
                                        case measure => have := HK1.out; have := HJ5.out; have := HK3.out; have := HK4.out; omega
                                        case rel => exact ⟨(wrap64 (x5_1 + 1)), (by first | rfl | (simp; done) | (simp [*]; done)), H', ⟨by have := HK1.out; have := HJ5.out; have := HK3.out; have := HK4.out; omega⟩, by repeat (first | exact Drawn0.refl _ | apply Drawn0.step)⟩
                                  · rw [if_neg c14] at H
                                    exact absurd H (by simp)
                                · rw [if_neg c13] at H
                                  exact absurd H (by simp)
                        · rw [if_neg c10] at H
                          exact absurd H (by simp)
                      · rw [if_neg c9] at H
                        exact absurd H (by simp)
          · rw [if_neg c5] at H
            exact absurd H (by simp)
        · rw [if_neg c4] at H
          have c4b0 : decide (x5_1 < (l0.length : Int)) = false := decide_eq_false c4
          clear c4
          obtain rfl := Option.some.inj H
          go_wp2
          repeat (go_quiet (fail); try go_wp2)
          go_ret
          exact ⟨by first | rfl | (simp; done) | (simp [*]; done), by repeat (first | exact Drawn0.refl _ | apply Drawn0.step)⟩

end Go.Proofs.YtmlkfgoiakcnhaaGreatDoor.PStackNone
