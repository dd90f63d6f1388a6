/- The reference's lexer: blanks, quoted texts, digits, letters, words. (The print tool's text; the proofs of quoted and letter are mended by fixlex.py of this work.) -/
import Derived.Test.YtmlkfgoiakcnhaaGreatDoorPStackNonex0
namespace Go.Proofs.YtmlkfgoiakcnhaaGreatDoor.PStackNone
open Go.RowKit Go.Proofs.YtmlkfgoiakcnhaaGreatDoorW.PrintWords Go.Proofs.YtmlkfgoiakcnhaaGreatDoorW.PrintLast Go.Proofs.YtmlkfgoiakcnhaaGreatDoorW.PrintMore
attribute [local go_sem] max2_int min2_int max_two min_two max_three min_three max_four min_four   -- for this text's walks alone
set_option linter.unusedVariables false
set_option linter.unusedSimpArgs false

/-! ### juristref03_blank: function 42 -/
def juristref03_blank.f (a0 : Int) : Option (Bool) := if a0 = 9 then (some true) else (if a0 = 10 then (some true) else (if a0 = 13 then (some true) else (some (a0 == 32))))
set_option maxHeartbeats 8000000 in
set_option maxRecDepth 100000 in
theorem juristref03_blank.calls (a0 : Int) (r : Bool) (w : World) (h : juristref03_blank.f a0 = some r) :
    Calls Tryz.prog 42 #[.int .u8 a0] w fun e w' => e = .returned (.bool r) ∧ Drawn0 w w' := by
  have H : (if a0 = 9 then (some true) else (if a0 = 10 then (some true) else (if a0 = 13 then (some true) else (some (a0 == 32))))) = some r := h
  clear h
  by_cases c2 : a0 = 9
  · rw [if_pos c2] at H
    have c2b0 : (a0 == 9) = true := beq_iff_eq.mpr c2
    have c2b1 : (a0 != 9) = false := bne_eq_false_iff_eq.mpr c2
    clear c2
    obtain rfl := Option.some.inj H
    go_enter Tryz.func42, Tryz.ntmps42
    go_wp2
    go_ret
    exact ⟨by first | rfl | (simp; done) | (simp [*]; done), by repeat (first | exact Drawn0.refl _ | apply Drawn0.step)⟩
  · rw [if_neg c2] at H
    have c2b0 : (a0 == 9) = false := beq_eq_false_iff_ne.mpr c2
    have c2b1 : (a0 != 9) = true := bne_iff_ne.mpr c2
    by_cases c3 : a0 = 10
    · rw [if_pos c3] at H
      have c3b0 : (a0 == 10) = true := beq_iff_eq.mpr c3
      have c3b1 : (a0 != 10) = false := bne_eq_false_iff_eq.mpr c3
      clear c3
      obtain rfl := Option.some.inj H
      go_enter Tryz.func42, Tryz.ntmps42
      go_wp2
      go_ret
      exact ⟨by first | rfl | (simp; done) | (simp [*]; done), by repeat (first | exact Drawn0.refl _ | apply Drawn0.step)⟩
    · rw [if_neg c3] at H
      have c3b0 : (a0 == 10) = false := beq_eq_false_iff_ne.mpr c3
      have c3b1 : (a0 != 10) = true := bne_iff_ne.mpr c3
      by_cases c4 : a0 = 13
      · rw [if_pos c4] at H
        have c4b0 : (a0 == 13) = true := beq_iff_eq.mpr c4
        have c4b1 : (a0 != 13) = false := bne_eq_false_iff_eq.mpr c4
        clear c4
        obtain rfl := Option.some.inj H
        go_enter Tryz.func42, Tryz.ntmps42
        go_wp2
        go_ret
        exact ⟨by first | rfl | (simp; done) | (simp [*]; done), by repeat (first | exact Drawn0.refl _ | apply Drawn0.step)⟩
      · rw [if_neg c4] at H
        have c4b0 : (a0 == 13) = false := beq_eq_false_iff_ne.mpr c4
        have c4b1 : (a0 != 13) = true := bne_iff_ne.mpr c4
        obtain rfl := Option.some.inj H
        go_enter Tryz.func42, Tryz.ntmps42
        go_wp2
        go_ret
        exact ⟨by first | rfl | (simp; done) | (simp [*]; done), by repeat (first | exact Drawn0.refl _ | apply Drawn0.step)⟩

/-! ### juristref03_inner: function 91 -/
def juristref03_inner.f (a0 : Int) : Option (Bool) := (juristref03_blank.f a0).bind fun t112 => (if t112 = true then (some true) else (if a0 > 32 then (if a0 < 127 then (some true) else (some (decide (a0 > 127)))) else (some (decide (a0 > 127)))))
set_option maxHeartbeats 8000000 in
set_option maxRecDepth 100000 in
theorem juristref03_inner.calls (a0 : Int) (r : Bool) (w : World) (h : juristref03_inner.f a0 = some r) :
    Calls Tryz.prog 91 #[.int .u8 a0] w fun e w' => e = .returned (.bool r) ∧ Drawn0 w w' := by
  have H : ((juristref03_blank.f a0).bind fun t112 => (if t112 = true then (some true) else (if a0 > 32 then (if a0 < 127 then (some true) else (some (decide (a0 > 127)))) else (some (decide (a0 > 127)))))) = some r := h
  clear h
  replace H := Option.bind_eq_some_iff.mp H
  obtain ⟨t112, A20, H⟩ := H
  replace H : (if t112 = true then (some true) else (if a0 > 32 then (if a0 < 127 then (some true) else (some (decide (a0 > 127)))) else (some (decide (a0 > 127))))) = some r := H
  have A2 := Aside0.mk A20
  clear A20
  by_cases c3 : t112 = true
  · subst c3
    have H1 : (some true) = some r := by rw [if_pos rfl] at H; exact H
    clear H
    have H := H1
    clear H1
    obtain rfl := Option.some.inj H
    go_enter Tryz.func91, Tryz.ntmps91
    go_wp2_with (first | ((with_reducible refine gate_callee (f := 42) rfl ?_); refine goesL_ (some 4) rfl rfl Tryz.func42 (by kernel_rfl) rfl #[.int .u8 a0] rfl (by (try simp only [List.map_toArray, List.map_cons, List.map_nil]); first | done | rfl | (simp only [List.length_drop, List.length_take]; rfl)) ?_; (with_reducible refine (juristref03_blank.calls a0 true _ A2.out).mono ?_); rintro e w' ⟨rfl, ⟨nd, rfl⟩⟩; refine ⟨_, rfl, ?_⟩))
    go_ret
    exact ⟨by first | rfl | (simp; done) | (simp [*]; done), by repeat (first | exact Drawn0.refl _ | apply Drawn0.step)⟩
  · replace c3 := Bool.eq_false_iff.mpr c3
    subst c3
    have H1 : (if a0 > 32 then (if a0 < 127 then (some true) else (some (decide (a0 > 127)))) else (some (decide (a0 > 127)))) = some r := by rw [if_neg (show ¬ (false = true) by decide)] at H; exact H
    clear H
    have H := H1
    clear H1
    by_cases c4 : a0 > 32
    · rw [if_pos c4] at H
      have c4b0 : decide (32 < a0) = true := decide_eq_true c4
      clear c4
      by_cases c5 : a0 < 127
      · rw [if_pos c5] at H
        have c5b0 : decide (a0 < 127) = true := decide_eq_true c5
        clear c5
        obtain rfl := Option.some.inj H
        go_enter Tryz.func91, Tryz.ntmps91
        go_wp2_with (first | ((with_reducible refine gate_callee (f := 42) rfl ?_); refine goesL_ (some 4) rfl rfl Tryz.func42 (by kernel_rfl) rfl #[.int .u8 a0] rfl (by (try simp only [List.map_toArray, List.map_cons, List.map_nil]); first | done | rfl | (simp only [List.length_drop, List.length_take]; rfl)) ?_; (with_reducible refine (juristref03_blank.calls a0 false _ A2.out).mono ?_); rintro e w' ⟨rfl, ⟨nd, rfl⟩⟩; refine ⟨_, rfl, ?_⟩))
        go_ret
        exact ⟨by first | rfl | (simp; done) | (simp [*]; done), by repeat (first | exact Drawn0.refl _ | apply Drawn0.step)⟩
      · rw [if_neg c5] at H
        have c5b0 : decide (a0 < 127) = false := decide_eq_false c5
        clear c5
        obtain rfl := Option.some.inj H
        go_enter Tryz.func91, Tryz.ntmps91
        go_wp2_with (first | ((with_reducible refine gate_callee (f := 42) rfl ?_); refine goesL_ (some 4) rfl rfl Tryz.func42 (by kernel_rfl) rfl #[.int .u8 a0] rfl (by (try simp only [List.map_toArray, List.map_cons, List.map_nil]); first | done | rfl | (simp only [List.length_drop, List.length_take]; rfl)) ?_; (with_reducible refine (juristref03_blank.calls a0 false _ A2.out).mono ?_); rintro e w' ⟨rfl, ⟨nd, rfl⟩⟩; refine ⟨_, rfl, ?_⟩))
        go_ret
        exact ⟨by first | rfl | (simp; done) | (simp [*]; done), by repeat (first | exact Drawn0.refl _ | apply Drawn0.step)⟩
    · rw [if_neg c4] at H
      have c4b0 : decide (32 < a0) = false := decide_eq_false c4
      clear c4
      obtain rfl := Option.some.inj H
      go_enter Tryz.func91, Tryz.ntmps91
      go_wp2_with (first | ((with_reducible refine gate_callee (f := 42) rfl ?_); refine goesL_ (some 4) rfl rfl Tryz.func42 (by kernel_rfl) rfl #[.int .u8 a0] rfl (by (try simp only [List.map_toArray, List.map_cons, List.map_nil]); first | done | rfl | (simp only [List.length_drop, List.length_take]; rfl)) ?_; (with_reducible refine (juristref03_blank.calls a0 false _ A2.out).mono ?_); rintro e w' ⟨rfl, ⟨nd, rfl⟩⟩; refine ⟨_, rfl, ?_⟩))
      go_ret
      exact ⟨by first | rfl | (simp; done) | (simp [*]; done), by repeat (first | exact Drawn0.refl _ | apply Drawn0.step)⟩

/-! ### juristref03_quoted: function 67 -/
mutual
def juristref03_quoted.l0 : Nat → List Int → Int → Int → ByteArray → Int → Option (ByteArray × Int × Int)
  | 0, _, _, _, _, _ => none
  | k + 1, x0, x1, x2, x9, x10 => if x10 < (x0.length : Int) then (if 0 ≤ x10 then (if (rd x0 x10) = x2 then (if x2 = 34 then (if (wrap64 (x10 + 1)) < (x0.length : Int) then (if 0 ≤ (wrap64 (x10 + 1)) then (juristref03_quoted.j1 k x0 x1 x2 x9 x10 (rd x0 x10) ((rd x0 (wrap64 (x10 + 1))) == x2)) else (none)) else (juristref03_quoted.j1 k x0 x1 x2 x9 x10 (rd x0 x10) false)) else (juristref03_quoted.j1 k x0 x1 x2 x9 x10 (rd x0 x10) false)) else (juristref03_quoted.j1 k x0 x1 x2 x9 x10 (rd x0 x10) false)) else (none)) else (some ((⟨#[]⟩ : ByteArray), 0, 31))
def juristref03_quoted.j1 : Nat → List Int → Int → Int → ByteArray → Int → Int → Bool → Option (ByteArray × Int × Int)
  | 0, _, _, _, _, _, _, _ => none
  | k + 1, x0, x1, x2, x9, x10, x11, x22 => if x22 = true then (if 0 ≤ x10 then (if x10 ≤ (wrap64 (x10 + 1)) then (if (wrap64 (x10 + 1)) ≤ (x0.length : Int) then (if x9.size + (strOfNums ((x0.take ((wrap64 (x10 + 1)) : Int).toNat).drop (x10 : Int).toNat)).size ≤ 9223372036854775807 then (juristref03_quoted.l0 k x0 x1 x2 (x9 ++ (strOfNums ((x0.take ((wrap64 (x10 + 1)) : Int).toNat).drop (x10 : Int).toNat))) (wrap64 (x10 + 2))) else (none)) else (none)) else (none)) else (none)) else (if x11 = x2 then (some (x9, wrap64 ((wrap64 (x10 + 1)) - x1), 0)) else ((juristref03_inner.f x11).bind fun t116 => (if t116 = true then (if x2 = 124 then (if x11 = 92 then (some ((⟨#[]⟩ : ByteArray), 0, 30)) else (if 0 ≤ x10 then (if x10 ≤ (wrap64 (x10 + 1)) then (if (wrap64 (x10 + 1)) ≤ (x0.length : Int) then (if x9.size + (strOfNums ((x0.take ((wrap64 (x10 + 1)) : Int).toNat).drop (x10 : Int).toNat)).size ≤ 9223372036854775807 then (juristref03_quoted.l0 k x0 x1 x2 (x9 ++ (strOfNums ((x0.take ((wrap64 (x10 + 1)) : Int).toNat).drop (x10 : Int).toNat))) (wrap64 (x10 + 1))) else (none)) else (none)) else (none)) else (none))) else (if 0 ≤ x10 then (if x10 ≤ (wrap64 (x10 + 1)) then (if (wrap64 (x10 + 1)) ≤ (x0.length : Int) then (if x9.size + (strOfNums ((x0.take ((wrap64 (x10 + 1)) : Int).toNat).drop (x10 : Int).toNat)).size ≤ 9223372036854775807 then (juristref03_quoted.l0 k x0 x1 x2 (x9 ++ (strOfNums ((x0.take ((wrap64 (x10 + 1)) : Int).toNat).drop (x10 : Int).toNat))) (wrap64 (x10 + 1))) else (none)) else (none)) else (none)) else (none))) else (some ((⟨#[]⟩ : ByteArray), 0, 30)))))
end
def juristref03_quoted.f (k : Nat) (l0 : List Int) (a1 : Int) (a2 : Int) : Option (ByteArray × Int × Int) := juristref03_quoted.l0 k l0 a1 a2 (⟨#[]⟩ : ByteArray) (wrap64 (a1 + 1))
theorem juristref03_quoted.mono_l : ∀ k, (∀ y0 y1 y2 y3 y4, LeO (juristref03_quoted.l0 k y0 y1 y2 y3 y4) (juristref03_quoted.l0 (k + 1) y0 y1 y2 y3 y4)) ∧ (∀ y0 y1 y2 y3 y4 y5 y6, LeO (juristref03_quoted.j1 k y0 y1 y2 y3 y4 y5 y6) (juristref03_quoted.j1 (k + 1) y0 y1 y2 y3 y4 y5 y6))
  | 0 => ⟨fun _ _ _ _ _ r h => by simp [juristref03_quoted.l0] at h, fun _ _ _ _ _ _ _ r h => by simp [juristref03_quoted.j1] at h⟩
  | k + 1 => by
    obtain ⟨ih0, ih1⟩ := juristref03_quoted.mono_l k
    refine ⟨?_, ?_⟩
    · intro y0 y1 y2 y3 y4
      unfold juristref03_quoted.l0
      repeat' first
      | (with_reducible exact ih0 _ _ _ _ _)
      | (with_reducible exact ih1 _ _ _ _ _ _ _)
      | (with_reducible exact LeO.refl _)
      | (with_reducible exact LeO.none _)
      | (with_reducible refine LeO.ite ?_ ?_)
      | (with_reducible refine LeO.bind ?_ (fun _ => ?_))
      | exact ih0 _ _ _ _ _
      | exact ih1 _ _ _ _ _ _ _
      | exact LeO.none _
      | refine LeO.ite ?_ ?_
      | refine LeO.bind ?_ (fun _ => ?_)
    · intro y0 y1 y2 y3 y4 y5 y6
      unfold juristref03_quoted.j1
      repeat' first
      | (with_reducible exact ih0 _ _ _ _ _)
      | (with_reducible exact ih1 _ _ _ _ _ _ _)
      | (with_reducible exact LeO.refl _)
      | (with_reducible exact LeO.none _)
      | (with_reducible refine LeO.ite ?_ ?_)
      | (with_reducible refine LeO.bind ?_ (fun _ => ?_))
      | exact ih0 _ _ _ _ _
      | exact ih1 _ _ _ _ _ _ _
      | exact LeO.none _
      | refine LeO.ite ?_ ?_
      | refine LeO.bind ?_ (fun _ => ?_)
theorem juristref03_quoted.mono : ∀ a0 a1 a2 k, LeO (juristref03_quoted.f k a0 a1 a2) (juristref03_quoted.f (k + 1) a0 a1 a2) := by
  intro a0 a1 a2 k
  obtain ⟨ih0, ih1⟩ := juristref03_quoted.mono_l k
  unfold juristref03_quoted.f
  repeat' first
      | (with_reducible exact ih0 _ _ _ _ _)
      | (with_reducible exact ih1 _ _ _ _ _ _ _)
      | (with_reducible exact LeO.refl _)
      | (with_reducible exact LeO.none _)
      | (with_reducible refine LeO.ite ?_ ?_)
      | (with_reducible refine LeO.bind ?_ (fun _ => ?_))
      | exact ih0 _ _ _ _ _
      | exact ih1 _ _ _ _ _ _ _
      | exact LeO.none _
      | refine LeO.ite ?_ ?_
      | refine LeO.bind ?_ (fun _ => ?_)
set_option maxHeartbeats 8000000 in
set_option maxRecDepth 100000 in
theorem juristref03_quoted.calls (k : Nat) (A0 : Option Addr) (c0 : Nat) (l0 : List Int) (a1 : Int) (a2 : Int) (r1 : ByteArray) (r2 : Int) (r3 : Int) (w : World) (hr0 : Kd.C (Kd.int .u8) w A0 l0.length l0) (hc0 : l0.length ≤ c0) (h : juristref03_quoted.f k l0 a1 a2 = some (r1, r2, r3)) :
    Calls Tryz.prog 67 #[.slice A0 l0.length c0, .int .i64 a1, .int .u8 a2] w fun e w' => e = .returned (.tuple #[.string r1, .int .i64 r2, .int .i64 r3]) ∧ Drawn0 w w' := by
  have HR0 := Aside0.mk hr0
  have HC0 := Aside0.mk hc0
  clear hr0 hc0
  have H : (juristref03_quoted.l0 k l0 a1 a2 (⟨#[]⟩ : ByteArray) (wrap64 (a1 + 1))) = some (r1, r2, r3) := h
  clear h
  have H' := Aside0.mk H
  clear H
  go_enter Tryz.func67, Tryz.ntmps67
  go_wp2
  go_loopg [9, 10] k (fun kq v9 v10 w' => ∃ (x9_1 : ByteArray) (x10_1 : Int), v9 = .string x9_1 ∧ v10 = .int .i64 x10_1 ∧ Aside0 (juristref03_quoted.l0 kq l0 a1 a2 x9_1 x10_1 = some (r1, r2, r3)) ∧ Aside0 (kq ≤ k) ∧ Drawn0 w w')
  case atStart => exact ⟨((⟨#[]⟩ : ByteArray)), (wrap64 (a1 + 1)), (by first | rfl | (simp; done) | (simp [*]; done)), (by first | rfl | (simp; done) | (simp [*]; done)), H', ⟨Nat.le_refl _⟩, by repeat (first | exact Drawn0.refl _ | apply Drawn0.step)⟩
  case round =>
    clear H'
    try clear p2
    obtain ⟨x9_1, x10_1, rfl, rfl, HA, HK1, ⟨m1, rfl⟩⟩ := hrel
    cases gk with
    | zero => exact absurd HA.out (by simp [juristref03_quoted.l0])
    | succ k1 =>
      have H := HA.out
      clear HA
      simp only [juristref03_quoted.l0] at H
      by_cases c4 : x10_1 < (l0.length : Int)
      · rw [if_pos c4] at H
        have c4b0 : decide (x10_1 < (l0.length : Int)) = true := decide_eq_true c4
        clear c4
        by_cases c5 : 0 ≤ x10_1
        · rw [if_pos c5] at H
          have c5b0 : decide (0 ≤ x10_1) = true := decide_eq_true c5
          clear c5
          have HC6 := Aside0.mk H
          clear H
          have p113 : 0 ≤ (x10_1 : Int) := of_decide_eq_true (by first | (with_reducible assumption) | assumption)
          have q113 : x10_1 < (l0.length : Int) := of_decide_eq_true (by first | (with_reducible assumption) | assumption)
          obtain ⟨ad113, e113, hx113_0⟩ := Kd.at_int HR0.out x10_1 p113 q113
          cases e113
          replace p113 := eq_true p113
          replace q113 := eq_true q113
          go_upto_region 5 with (fail)
          go_cut [22] (fun v22 wc => ∃ (kq : Nat) (x22_5 : Bool), v22 = .bool x22_5 ∧ Aside0 (juristref03_quoted.j1 kq l0 a1 a2 x9_1 x10_1 (rd l0 x10_1) x22_5 = some (r1, r2, r3)) ∧ Aside0 (kq ≤ k1) ∧ Drawn0 w wc)
          case first =>
            have H := HC6.out
            clear HC6
            by_cases c7 : (rd l0 x10_1) = a2
            · rw [if_pos c7] at H
              have c7b0 : ((rd l0 x10_1) == a2) = true := beq_iff_eq.mpr c7
              have c7b1 : ((rd l0 x10_1) != a2) = false := bne_eq_false_iff_eq.mpr c7
              clear c7
              (first | rw [c7b0] | (simp only [i64_w, i32_w]; rw [c7b0]) | skip)
              by_cases c8 : a2 = 34
              · rw [if_pos c8] at H
                have c8b0 : (a2 == 34) = true := beq_iff_eq.mpr c8
                have c8b1 : (a2 != 34) = false := bne_eq_false_iff_eq.mpr c8
                clear c8
                by_cases c9 : (wrap64 (x10_1 + 1)) < (l0.length : Int)
                · rw [if_pos c9] at H
                  have c9b0 : decide ((wrap64 (x10_1 + 1)) < (l0.length : Int)) = true := decide_eq_true c9
                  clear c9
                  obtain ⟨ji10, hji10⟩ : ∃ j_ : Int, (wrap64 (x10_1 + 1)) = j_ := ⟨_, rfl⟩
                  replace H : (if 0 ≤ (ji10) then (juristref03_quoted.j1 k1 l0 a1 a2 x9_1 x10_1 (rd l0 x10_1) ((rd l0 (ji10)) == a2)) else (none)) = some (r1, r2, r3) := by first | (rw [hji10] at H; exact H) | (simp only [hji10] at H ⊢; exact H)
                  (try rw [hji10] at c9b0)
                  have hji10w : (IntKind.i64.wrap (x10_1 + 1)) = ji10 := (i64_w _).trans hji10
                  by_cases c11 : 0 ≤ (ji10)
                  · rw [if_pos c11] at H
                    have c11b0 : decide (0 ≤ (ji10)) = true := decide_eq_true c11
                    clear c11
                    have H' := Aside0.mk H
                    clear H
                    have p114 : 0 ≤ ((ji10) : Int) := of_decide_eq_true (by first | (with_reducible assumption) | assumption)
                    have q114 : (ji10) < (l0.length : Int) := of_decide_eq_true (by first | (with_reducible assumption) | assumption)
                    obtain ⟨ad114, e114, hx114_0⟩ := Kd.at_int HR0.out (ji10) p114 q114
                    obtain rfl : ad113 = ad114 := (by injection e114)
                    replace p114 := eq_true p114
                    replace q114 := eq_true q114
                    go_wp2
                    go_meet
                    case rel => exact ⟨_, (((rd l0 (ji10)) == a2)), (by first | rfl | (simp; done) | (simp only [← hji10] <;> (first | rfl | simp)) | (simp [*]; done)), H', ⟨by have := HK1.out; first | omega | exact Nat.le_refl _⟩, by repeat (first | exact Drawn0.refl _ | apply Drawn0.step)⟩
                  · rw [if_neg c11] at H
                    exact absurd H (by simp)
                · rw [if_neg c9] at H
                  have c9b0 : decide ((wrap64 (x10_1 + 1)) < (l0.length : Int)) = false := decide_eq_false c9
                  clear c9
                  have H' := Aside0.mk H
                  clear H
                  go_wp2
                  go_meet
                  case rel => exact ⟨_, (false), (by first | rfl | (simp; done) | (simp [*]; done)), H', ⟨by have := HK1.out; first | omega | exact Nat.le_refl _⟩, by repeat (first | exact Drawn0.refl _ | apply Drawn0.step)⟩
              · rw [if_neg c8] at H
                have c8b0 : (a2 == 34) = false := beq_eq_false_iff_ne.mpr c8
                have c8b1 : (a2 != 34) = true := bne_iff_ne.mpr c8
                have H' := Aside0.mk H
                clear H
                go_wp2
                go_meet
                case rel => exact ⟨_, (false), (by first | rfl | (simp; done) | (simp [*]; done)), H', ⟨by have := HK1.out; first | omega | exact Nat.le_refl _⟩, by repeat (first | exact Drawn0.refl _ | apply Drawn0.step)⟩
            · rw [if_neg c7] at H
              have c7b0 : ((rd l0 x10_1) == a2) = false := beq_eq_false_iff_ne.mpr c7
              have c7b1 : ((rd l0 x10_1) != a2) = true := bne_iff_ne.mpr c7
              (first | rw [c7b0] | (simp only [i64_w, i32_w]; rw [c7b0]) | skip)
              have H' := Aside0.mk H
              clear H
              go_wp2
              go_meet
              case rel => exact ⟨_, (false), (by first | rfl | (simp; done) | (simp [*]; done)), H', ⟨by have := HK1.out; first | omega | exact Nat.le_refl _⟩, by repeat (first | exact Drawn0.refl _ | apply Drawn0.step)⟩
          case rest =>
            clear HC6
            try clear c1
            try clear p1
            try clear q1
            try clear hx1
            try clear p2
            try clear c4
            try clear c4b0
            try clear c5
            try clear c5b0
            try clear c6
            try clear p6
            try clear c7
            try clear c7b0
            try clear c7b1
            try clear c8
            try clear c8b0
            try clear c8b1
            try clear c9
            try clear c9b0
            try clear c11
            try clear c11b0
            try clear p11
            try clear q11
            try clear hx11
            try clear hx113_0
            try clear hx114_0
            try clear p113
            try clear p114
            try clear p2
            try clear q113
            try clear q114
            obtain ⟨kq, x22_5, rfl, HA, HJ5, ⟨mc5, rfl⟩⟩ := hcut
            cases kq with
            | zero => exact absurd HA.out (by simp [juristref03_quoted.j1])
            | succ kj5 =>
              have H := HA.out
              clear HA
              simp only [juristref03_quoted.j1] at H
              by_cases c12 : x22_5 = true
              · subst c12
                have H1 : (if 0 ≤ x10_1 then (if x10_1 ≤ (wrap64 (x10_1 + 1)) then (if (wrap64 (x10_1 + 1)) ≤ (l0.length : Int) then (if x9_1.size + (strOfNums ((l0.take ((wrap64 (x10_1 + 1)) : Int).toNat).drop (x10_1 : Int).toNat)).size ≤ 9223372036854775807 then (juristref03_quoted.l0 kj5 l0 a1 a2 (x9_1 ++ (strOfNums ((l0.take ((wrap64 (x10_1 + 1)) : Int).toNat).drop (x10_1 : Int).toNat))) (wrap64 (x10_1 + 2))) else (none)) else (none)) else (none)) else (none)) = some (r1, r2, r3) := by rw [if_pos rfl] at H; exact H
                clear H
                have H := H1
                clear H1
                by_cases c13 : 0 ≤ x10_1
                · rw [if_pos c13] at H
                  have c13b0 := eq_true c13
                  have c13b1 : decide (0 ≤ x10_1) = true := decide_eq_true c13
                  clear c13
                  by_cases c14 : x10_1 ≤ (wrap64 (x10_1 + 1))
                  · rw [if_pos c14] at H
                    have c14b0 := eq_true c14
                    have c14b1 : decide (x10_1 ≤ (wrap64 (x10_1 + 1))) = true := decide_eq_true c14
                    by_cases c15 : (wrap64 (x10_1 + 1)) ≤ (l0.length : Int)
                    · rw [if_pos c15] at H
                      have c15b0 := eq_true c15
                      have c15b1 : decide ((wrap64 (x10_1 + 1)) ≤ (l0.length : Int)) = true := decide_eq_true c15
                      by_cases c16 : x9_1.size + (strOfNums ((l0.take ((wrap64 (x10_1 + 1)) : Int).toNat).drop (x10_1 : Int).toNat)).size ≤ 9223372036854775807
                      · rw [if_pos c16] at H
                        have c16b0 := eq_true c16
                        have c16b1 : decide (x9_1.size + (strOfNums ((l0.take ((wrap64 (x10_1 + 1)) : Int).toNat).drop (x10_1 : Int).toNat)).size ≤ 9223372036854775807) = true := decide_eq_true c16
                        try have c16b2 : (9223372036854775807 < x9_1.size + (strOfNums ((l0.take ((wrap64 (x10_1 + 1)) : Int).toNat).drop (x10_1 : Int).toNat)).size) = False := eq_false (Nat.not_lt.2 c16)
                        have H' := Aside0.mk H
                        clear H
                        obtain ⟨i017, hi017, _, hsz17, _⟩ := info_parts info5
                        obtain ⟨A17, hcut17, hA17, hC17⟩ := print_mid_of (P := Tryz.prog) (Value.int .u8) 0 25 5 .i64 .i64 Tryz.underlying25 hi017 hsz17 (some ad113) c0 l0 x10_1 (wrap64 (x10_1 + 1)) (of_decide_eq_true (by first | (with_reducible assumption) | assumption)) (by first | omega | exact of_decide_eq_true (by first | (with_reducible assumption) | assumption)) (of_decide_eq_true (by first | (with_reducible assumption) | assumption)) HC0.out
                        have HR115 := Aside0.mk (Kd.C_of_reads (h1 := fun _ => rfl) (hA17 _ (Kd.reads_of_C HR0.out)))
                        have HC115 := Aside0.mk hC17
                        clear hA17 hC17 hi017 hsz17
                        have hmn18 : min (wrap64 (x10_1 + 1)).toNat l0.length = (wrap64 (x10_1 + 1)).toNat := (by have hh : wrap64 (x10_1 + 1) ≤ (l0.length : Int) := of_decide_eq_true (by assumption); omega); have hcv18 := fun m : Nat => Kd.C_string (P := Tryz.prog) (w := w.drewN m) (A := A17) (c := (c0 - x10_1.toNat)) Tryz.underlying25 Tryz.underlying5 Tryz.underlying9 HR115.out; simp only [List.length_drop, List.length_take, hmn18] at hcv18
                        go_wp2
                        go_roundg kj5
                        case measure => have := HK1.out; have := HJ5.out; omega
                        case rel => exact ⟨(x9_1 ++ (strOfNums ((l0.take ((wrap64 (x10_1 + 1)) : Int).toNat).drop (x10_1 : Int).toNat))), (wrap64 (x10_1 + 2)), (by first | rfl | (simp; done) | (simp [*]; done)), (by first | rfl | (simp; done) | (simp [*]; done)), H', ⟨by have := HK1.out; have := HJ5.out; omega⟩, by repeat (first | exact Drawn0.refl _ | apply Drawn0.step)⟩
                      · rw [if_neg c16] at H
                        exact absurd H (by simp)
                    · rw [if_neg c15] at H
                      exact absurd H (by simp)
                  · rw [if_neg c14] at H
                    exact absurd H (by simp)
                · rw [if_neg c13] at H
                  exact absurd H (by simp)
              · replace c12 := Bool.eq_false_iff.mpr c12
                subst c12
                have H1 : (if (rd l0 x10_1) = a2 then (some (x9_1, wrap64 ((wrap64 (x10_1 + 1)) - a1), 0)) else ((juristref03_inner.f (rd l0 x10_1)).bind fun t116 => (if t116 = true then (if a2 = 124 then (if (rd l0 x10_1) = 92 then (some ((⟨#[]⟩ : ByteArray), 0, 30)) else (if 0 ≤ x10_1 then (if x10_1 ≤ (wrap64 (x10_1 + 1)) then (if (wrap64 (x10_1 + 1)) ≤ (l0.length : Int) then (if x9_1.size + (strOfNums ((l0.take ((wrap64 (x10_1 + 1)) : Int).toNat).drop (x10_1 : Int).toNat)).size ≤ 9223372036854775807 then (juristref03_quoted.l0 kj5 l0 a1 a2 (x9_1 ++ (strOfNums ((l0.take ((wrap64 (x10_1 + 1)) : Int).toNat).drop (x10_1 : Int).toNat))) (wrap64 (x10_1 + 1))) else (none)) else (none)) else (none)) else (none))) else (if 0 ≤ x10_1 then (if x10_1 ≤ (wrap64 (x10_1 + 1)) then (if (wrap64 (x10_1 + 1)) ≤ (l0.length : Int) then (if x9_1.size + (strOfNums ((l0.take ((wrap64 (x10_1 + 1)) : Int).toNat).drop (x10_1 : Int).toNat)).size ≤ 9223372036854775807 then (juristref03_quoted.l0 kj5 l0 a1 a2 (x9_1 ++ (strOfNums ((l0.take ((wrap64 (x10_1 + 1)) : Int).toNat).drop (x10_1 : Int).toNat))) (wrap64 (x10_1 + 1))) else (none)) else (none)) else (none)) else (none))) else (some ((⟨#[]⟩ : ByteArray), 0, 30))))) = some (r1, r2, r3) := by rw [if_neg (show ¬ (false = true) by decide)] at H; exact H
                clear H
                have H := H1
                clear H1
                by_cases c19 : (rd l0 x10_1) = a2
                · rw [if_pos c19] at H
                  have c19b0 : ((rd l0 x10_1) == a2) = true := beq_iff_eq.mpr c19
                  have c19b1 : ((rd l0 x10_1) != a2) = false := bne_eq_false_iff_eq.mpr c19
                  clear c19
                  simp only [Option.some.injEq, Prod.mk.injEq] at H
                  obtain ⟨rfl, rfl, rfl⟩ := H
                  go_wp2
                  go_ret3
                  exact ⟨by first | rfl | (simp; done) | (simp [*]; done), by repeat (first | exact Drawn0.refl _ | apply Drawn0.step)⟩
                · rw [if_neg c19] at H
                  have c19b0 : ((rd l0 x10_1) == a2) = false := beq_eq_false_iff_ne.mpr c19
                  have c19b1 : ((rd l0 x10_1) != a2) = true := bne_iff_ne.mpr c19
                  replace H := Option.bind_eq_some_iff.mp H
                  obtain ⟨t116, A200, H⟩ := H
                  replace H : (if t116 = true then (if a2 = 124 then (if (rd l0 x10_1) = 92 then (some ((⟨#[]⟩ : ByteArray), 0, 30)) else (if 0 ≤ x10_1 then (if x10_1 ≤ (wrap64 (x10_1 + 1)) then (if (wrap64 (x10_1 + 1)) ≤ (l0.length : Int) then (if x9_1.size + (strOfNums ((l0.take ((wrap64 (x10_1 + 1)) : Int).toNat).drop (x10_1 : Int).toNat)).size ≤ 9223372036854775807 then (juristref03_quoted.l0 kj5 l0 a1 a2 (x9_1 ++ (strOfNums ((l0.take ((wrap64 (x10_1 + 1)) : Int).toNat).drop (x10_1 : Int).toNat))) (wrap64 (x10_1 + 1))) else (none)) else (none)) else (none)) else (none))) else (if 0 ≤ x10_1 then (if x10_1 ≤ (wrap64 (x10_1 + 1)) then (if (wrap64 (x10_1 + 1)) ≤ (l0.length : Int) then (if x9_1.size + (strOfNums ((l0.take ((wrap64 (x10_1 + 1)) : Int).toNat).drop (x10_1 : Int).toNat)).size ≤ 9223372036854775807 then (juristref03_quoted.l0 kj5 l0 a1 a2 (x9_1 ++ (strOfNums ((l0.take ((wrap64 (x10_1 + 1)) : Int).toNat).drop (x10_1 : Int).toNat))) (wrap64 (x10_1 + 1))) else (none)) else (none)) else (none)) else (none))) else (some ((⟨#[]⟩ : ByteArray), 0, 30))) = some (r1, r2, r3) := H
                  have A20 := Aside0.mk A200
                  clear A200
                  by_cases c21 : t116 = true
                  · subst c21
                    have H1 : (if a2 = 124 then (if (rd l0 x10_1) = 92 then (some ((⟨#[]⟩ : ByteArray), 0, 30)) else (if 0 ≤ x10_1 then (if x10_1 ≤ (wrap64 (x10_1 + 1)) then (if (wrap64 (x10_1 + 1)) ≤ (l0.length : Int) then (if x9_1.size + (strOfNums ((l0.take ((wrap64 (x10_1 + 1)) : Int).toNat).drop (x10_1 : Int).toNat)).size ≤ 9223372036854775807 then (juristref03_quoted.l0 kj5 l0 a1 a2 (x9_1 ++ (strOfNums ((l0.take ((wrap64 (x10_1 + 1)) : Int).toNat).drop (x10_1 : Int).toNat))) (wrap64 (x10_1 + 1))) else (none)) else (none)) else (none)) else (none))) else (if 0 ≤ x10_1 then (if x10_1 ≤ (wrap64 (x10_1 + 1)) then (if (wrap64 (x10_1 + 1)) ≤ (l0.length : Int) then (if x9_1.size + (strOfNums ((l0.take ((wrap64 (x10_1 + 1)) : Int).toNat).drop (x10_1 : Int).toNat)).size ≤ 9223372036854775807 then (juristref03_quoted.l0 kj5 l0 a1 a2 (x9_1 ++ (strOfNums ((l0.take ((wrap64 (x10_1 + 1)) : Int).toNat).drop (x10_1 : Int).toNat))) (wrap64 (x10_1 + 1))) else (none)) else (none)) else (none)) else (none))) = some (r1, r2, r3) := by rw [if_pos rfl] at H; exact H
                    clear H
                    have H := H1
                    clear H1
                    by_cases c22 : a2 = 124
                    · rw [if_pos c22] at H
                      have c22b0 : (a2 == 124) = true := beq_iff_eq.mpr c22
                      have c22b1 : (a2 != 124) = false := bne_eq_false_iff_eq.mpr c22
                      clear c22
                      by_cases c23 : (rd l0 x10_1) = 92
                      · rw [if_pos c23] at H
                        have c23b0 : ((rd l0 x10_1) == 92) = true := beq_iff_eq.mpr c23
                        have c23b1 : ((rd l0 x10_1) != 92) = false := bne_eq_false_iff_eq.mpr c23
                        clear c23
                        simp only [Option.some.injEq, Prod.mk.injEq] at H
                        obtain ⟨rfl, rfl, rfl⟩ := H
                        go_wp2_with (first | ((with_reducible refine gate_callee (f := 91) rfl ?_); refine goesL_ (some 67) rfl rfl Tryz.func91 (by kernel_rfl) rfl #[.int .u8 (rd l0 x10_1)] rfl (by (try simp only [List.map_toArray, List.map_cons, List.map_nil]); first | done | rfl | (simp only [List.length_drop, List.length_take]; rfl)) ?_; (with_reducible refine (juristref03_inner.calls (rd l0 x10_1) true _ A20.out).mono ?_); rintro e w' ⟨rfl, ⟨nd, rfl⟩⟩; refine ⟨_, rfl, ?_⟩))
                        go_ret3
                        exact ⟨by first | rfl | (simp; done) | (simp [*]; done), by repeat (first | exact Drawn0.refl _ | apply Drawn0.step)⟩
                      · rw [if_neg c23] at H
                        have c23b0 : ((rd l0 x10_1) == 92) = false := beq_eq_false_iff_ne.mpr c23
                        have c23b1 : ((rd l0 x10_1) != 92) = true := bne_iff_ne.mpr c23
                        by_cases c24 : 0 ≤ x10_1
                        · rw [if_pos c24] at H
                          have c24b0 := eq_true c24
                          have c24b1 : decide (0 ≤ x10_1) = true := decide_eq_true c24
                          clear c24
                          by_cases c25 : x10_1 ≤ (wrap64 (x10_1 + 1))
                          · rw [if_pos c25] at H
                            have c25b0 := eq_true c25
                            have c25b1 : decide (x10_1 ≤ (wrap64 (x10_1 + 1))) = true := decide_eq_true c25
                            by_cases c26 : (wrap64 (x10_1 + 1)) ≤ (l0.length : Int)
                            · rw [if_pos c26] at H
                              have c26b0 := eq_true c26
                              have c26b1 : decide ((wrap64 (x10_1 + 1)) ≤ (l0.length : Int)) = true := decide_eq_true c26
                              by_cases c27 : x9_1.size + (strOfNums ((l0.take ((wrap64 (x10_1 + 1)) : Int).toNat).drop (x10_1 : Int).toNat)).size ≤ 9223372036854775807
                              · rw [if_pos c27] at H
                                have c27b0 := eq_true c27
                                have c27b1 : decide (x9_1.size + (strOfNums ((l0.take ((wrap64 (x10_1 + 1)) : Int).toNat).drop (x10_1 : Int).toNat)).size ≤ 9223372036854775807) = true := decide_eq_true c27
                                try have c27b2 : (9223372036854775807 < x9_1.size + (strOfNums ((l0.take ((wrap64 (x10_1 + 1)) : Int).toNat).drop (x10_1 : Int).toNat)).size) = False := eq_false (Nat.not_lt.2 c27)
                                have H' := Aside0.mk H
                                clear H
                                go_wp2_with (first | ((with_reducible refine gate_callee (f := 91) rfl ?_); refine goesL_ (some 67) rfl rfl Tryz.func91 (by kernel_rfl) rfl #[.int .u8 (rd l0 x10_1)] rfl (by (try simp only [List.map_toArray, List.map_cons, List.map_nil]); first | done | rfl | (simp only [List.length_drop, List.length_take]; rfl)) ?_; (with_reducible refine (juristref03_inner.calls (rd l0 x10_1) true _ A20.out).mono ?_); rintro e w' ⟨rfl, ⟨nd, rfl⟩⟩; refine ⟨_, rfl, ?_⟩; obtain ⟨i028, hi028, _, hsz28, _⟩ := info_parts info5; obtain ⟨A28, hcut28, hA28, hC28⟩ := print_mid_of (P := Tryz.prog) (Value.int .u8) 0 25 5 .i64 .i64 Tryz.underlying25 hi028 hsz28 (some ad113) c0 l0 x10_1 (wrap64 (x10_1 + 1)) (of_decide_eq_true (by first | (with_reducible assumption) | assumption)) (by first | omega | exact of_decide_eq_true (by first | (with_reducible assumption) | assumption)) (of_decide_eq_true (by first | (with_reducible assumption) | assumption)) HC0.out; have HR117 := Aside0.mk (Kd.C_of_reads (h1 := fun _ => rfl) (hA28 _ (Kd.reads_of_C HR0.out))); have HC117 := Aside0.mk hC28; clear hA28 hC28 hi028 hsz28; have hmn29 : min (wrap64 (x10_1 + 1)).toNat l0.length = (wrap64 (x10_1 + 1)).toNat := (by have hh : wrap64 (x10_1 + 1) ≤ (l0.length : Int) := of_decide_eq_true (by assumption); omega); have hcv29 := fun m : Nat => Kd.C_string (P := Tryz.prog) (w := w.drewN m) (A := A28) (c := (c0 - x10_1.toNat)) Tryz.underlying25 Tryz.underlying5 Tryz.underlying9 HR117.out; simp only [List.length_drop, List.length_take, hmn29] at hcv29))
                                go_roundg kj5
                                case measure => have := HK1.out; have := HJ5.out; omega
                                case rel => exact ⟨(x9_1 ++ (strOfNums ((l0.take ((wrap64 (x10_1 + 1)) : Int).toNat).drop (x10_1 : Int).toNat))), (wrap64 (x10_1 + 1)), (by first | rfl | (simp; done) | (simp [*]; done)), (by first | rfl | (simp; done) | (simp [*]; done)), H', ⟨by have := HK1.out; have := HJ5.out; omega⟩, by repeat (first | exact Drawn0.refl _ | apply Drawn0.step)⟩
                              · rw [if_neg c27] at H
                                exact absurd H (by simp)
                            · rw [if_neg c26] at H
                              exact absurd H (by simp)
                          · rw [if_neg c25] at H
                            exact absurd H (by simp)
                        · rw [if_neg c24] at H
                          exact absurd H (by simp)
                    · rw [if_neg c22] at H
                      have c22b0 : (a2 == 124) = false := beq_eq_false_iff_ne.mpr c22
                      have c22b1 : (a2 != 124) = true := bne_iff_ne.mpr c22
                      by_cases c30 : 0 ≤ x10_1
                      · rw [if_pos c30] at H
                        have c30b0 := eq_true c30
                        have c30b1 : decide (0 ≤ x10_1) = true := decide_eq_true c30
                        clear c30
                        by_cases c31 : x10_1 ≤ (wrap64 (x10_1 + 1))
                        · rw [if_pos c31] at H
                          have c31b0 := eq_true c31
                          have c31b1 : decide (x10_1 ≤ (wrap64 (x10_1 + 1))) = true := decide_eq_true c31
                          by_cases c32 : (wrap64 (x10_1 + 1)) ≤ (l0.length : Int)
                          · rw [if_pos c32] at H
                            have c32b0 := eq_true c32
                            have c32b1 : decide ((wrap64 (x10_1 + 1)) ≤ (l0.length : Int)) = true := decide_eq_true c32
                            by_cases c33 : x9_1.size + (strOfNums ((l0.take ((wrap64 (x10_1 + 1)) : Int).toNat).drop (x10_1 : Int).toNat)).size ≤ 9223372036854775807
                            · rw [if_pos c33] at H
                              have c33b0 := eq_true c33
                              have c33b1 : decide (x9_1.size + (strOfNums ((l0.take ((wrap64 (x10_1 + 1)) : Int).toNat).drop (x10_1 : Int).toNat)).size ≤ 9223372036854775807) = true := decide_eq_true c33
                              try have c33b2 : (9223372036854775807 < x9_1.size + (strOfNums ((l0.take ((wrap64 (x10_1 + 1)) : Int).toNat).drop (x10_1 : Int).toNat)).size) = False := eq_false (Nat.not_lt.2 c33)
                              have H' := Aside0.mk H
                              clear H
                              go_wp2_with (first | ((with_reducible refine gate_callee (f := 91) rfl ?_); refine goesL_ (some 67) rfl rfl Tryz.func91 (by kernel_rfl) rfl #[.int .u8 (rd l0 x10_1)] rfl (by (try simp only [List.map_toArray, List.map_cons, List.map_nil]); first | done | rfl | (simp only [List.length_drop, List.length_take]; rfl)) ?_; (with_reducible refine (juristref03_inner.calls (rd l0 x10_1) true _ A20.out).mono ?_); rintro e w' ⟨rfl, ⟨nd, rfl⟩⟩; refine ⟨_, rfl, ?_⟩; obtain ⟨i034, hi034, _, hsz34, _⟩ := info_parts info5; obtain ⟨A34, hcut34, hA34, hC34⟩ := print_mid_of (P := Tryz.prog) (Value.int .u8) 0 25 5 .i64 .i64 Tryz.underlying25 hi034 hsz34 (some ad113) c0 l0 x10_1 (wrap64 (x10_1 + 1)) (of_decide_eq_true (by first | (with_reducible assumption) | assumption)) (by first | omega | exact of_decide_eq_true (by first | (with_reducible assumption) | assumption)) (of_decide_eq_true (by first | (with_reducible assumption) | assumption)) HC0.out; have HR118 := Aside0.mk (Kd.C_of_reads (h1 := fun _ => rfl) (hA34 _ (Kd.reads_of_C HR0.out))); have HC118 := Aside0.mk hC34; clear hA34 hC34 hi034 hsz34; have hmn35 : min (wrap64 (x10_1 + 1)).toNat l0.length = (wrap64 (x10_1 + 1)).toNat := (by have hh : wrap64 (x10_1 + 1) ≤ (l0.length : Int) := of_decide_eq_true (by assumption); omega); have hcv35 := fun m : Nat => Kd.C_string (P := Tryz.prog) (w := w.drewN m) (A := A34) (c := (c0 - x10_1.toNat)) Tryz.underlying25 Tryz.underlying5 Tryz.underlying9 HR118.out; simp only [List.length_drop, List.length_take, hmn35] at hcv35))
                              go_roundg kj5
                              case measure => have := HK1.out; have := HJ5.out; omega
                              case rel => exact ⟨(x9_1 ++ (strOfNums ((l0.take ((wrap64 (x10_1 + 1)) : Int).toNat).drop (x10_1 : Int).toNat))), (wrap64 (x10_1 + 1)), (by first | rfl | (simp; done) | (simp [*]; done)), (by first | rfl | (simp; done) | (simp [*]; done)), H', ⟨by have := HK1.out; have := HJ5.out; omega⟩, by repeat (first | exact Drawn0.refl _ | apply Drawn0.step)⟩
                            · rw [if_neg c33] at H
                              exact absurd H (by simp)
                          · rw [if_neg c32] at H
                            exact absurd H (by simp)
                        · rw [if_neg c31] at H
                          exact absurd H (by simp)
                      · rw [if_neg c30] at H
                        exact absurd H (by simp)
                  · replace c21 := Bool.eq_false_iff.mpr c21
                    subst c21
                    have H1 : (some ((⟨#[]⟩ : ByteArray), 0, 30)) = some (r1, r2, r3) := by rw [if_neg (show ¬ (false = true) by decide)] at H; exact H
                    clear H
                    have H := H1
                    clear H1
                    simp only [Option.some.injEq, Prod.mk.injEq] at H
                    obtain ⟨rfl, rfl, rfl⟩ := H
                    go_wp2_with (first | ((with_reducible refine gate_callee (f := 91) rfl ?_); refine goesL_ (some 67) rfl rfl Tryz.func91 (by kernel_rfl) rfl #[.int .u8 (rd l0 x10_1)] rfl (by (try simp only [List.map_toArray, List.map_cons, List.map_nil]); first | done | rfl | (simp only [List.length_drop, List.length_take]; rfl)) ?_; (with_reducible refine (juristref03_inner.calls (rd l0 x10_1) false _ A20.out).mono ?_); rintro e w' ⟨rfl, ⟨nd, rfl⟩⟩; refine ⟨_, rfl, ?_⟩))
                    go_ret3
                    exact ⟨by first | rfl | (simp; done) | (simp [*]; done), by repeat (first | exact Drawn0.refl _ | apply Drawn0.step)⟩
        · rw [if_neg c5] at H
          exact absurd H (by simp)
      · rw [if_neg c4] at H
        have c4b0 : decide (x10_1 < (l0.length : Int)) = false := decide_eq_false c4
        clear c4
        simp only [Option.some.injEq, Prod.mk.injEq] at H
        obtain ⟨rfl, rfl, rfl⟩ := H
        go_wp2
        go_ret3
        exact ⟨by first | rfl | (simp; done) | (simp [*]; done), by repeat (first | exact Drawn0.refl _ | apply Drawn0.step)⟩

/-! ### juristref03_digit: function 70 -/
def juristref03_digit.f (a0 : Int) : Option (Bool) := if a0 ≥ 48 then (some (decide (a0 ≤ 57))) else (some false)
set_option maxHeartbeats 8000000 in
set_option maxRecDepth 100000 in
theorem juristref03_digit.calls (a0 : Int) (r : Bool) (w : World) (h : juristref03_digit.f a0 = some r) :
    Calls Tryz.prog 70 #[.int .u8 a0] w fun e w' => e = .returned (.bool r) ∧ Drawn0 w w' := by
  have H : (if a0 ≥ 48 then (some (decide (a0 ≤ 57))) else (some false)) = some r := h
  clear h
  by_cases c2 : a0 ≥ 48
  · rw [if_pos c2] at H
    have c2b0 : decide (48 ≤ a0) = true := decide_eq_true c2
    clear c2
    obtain rfl := Option.some.inj H
    go_enter Tryz.func70, Tryz.ntmps70
    go_wp2
    go_ret
    exact ⟨by first | rfl | (simp; done) | (simp [*]; done), by repeat (first | exact Drawn0.refl _ | apply Drawn0.step)⟩
  · rw [if_neg c2] at H
    have c2b0 : decide (48 ≤ a0) = false := decide_eq_false c2
    clear c2
    obtain rfl := Option.some.inj H
    go_enter Tryz.func70, Tryz.ntmps70
    go_wp2
    go_ret
    exact ⟨by first | rfl | (simp; done) | (simp [*]; done), by repeat (first | exact Drawn0.refl _ | apply Drawn0.step)⟩

/-! ### juristref03_letter: function 92 -/
def juristref03_letter.l0 : Nat → Int → ByteArray → Int → Option (Bool)
  | 0, _, _, _ => none
  | k + 1, x0, x3, x4 => if x4 < (x3.size : Int) then (if 0 ≤ x4 then (if (bt x3 x4) = x0 then (some true) else (juristref03_letter.l0 k x0 x3 (wrap64 (x4 + 1)))) else (none)) else (if x0 ≥ 97 then (if x0 ≤ 122 then (some true) else (if x0 ≥ 65 then (if x0 ≤ 90 then (some true) else ((juristref03_digit.f x0).bind fun t119 => (some t119))) else ((juristref03_digit.f x0).bind fun t120 => (some t120)))) else (if x0 ≥ 65 then (if x0 ≤ 90 then (some true) else ((juristref03_digit.f x0).bind fun t121 => (some t121))) else ((juristref03_digit.f x0).bind fun t122 => (some t122))))
def juristref03_letter.f (k : Nat) (a0 : Int) : Option (Bool) := juristref03_letter.l0 k a0 (⟨#[126, 33, 64, 36, 37, 94, 38, 42, 95, 45, 43, 61, 60, 62, 46, 63, 47]⟩ : ByteArray) 0
theorem juristref03_letter.mono_l : ∀ k, (∀ y0 y1 y2, LeO (juristref03_letter.l0 k y0 y1 y2) (juristref03_letter.l0 (k + 1) y0 y1 y2))
  | 0 => fun _ _ _ r h => by simp [juristref03_letter.l0] at h
  | k + 1 => by
    have ih0 := juristref03_letter.mono_l k
    · intro y0 y1 y2
      unfold juristref03_letter.l0
      repeat' first
      | (with_reducible exact ih0 _ _ _)
      | (with_reducible exact LeO.refl _)
      | (with_reducible exact LeO.none _)
      | (with_reducible refine LeO.ite ?_ ?_)
      | (with_reducible refine LeO.bind ?_ (fun _ => ?_))
      | exact ih0 _ _ _
      | exact LeO.none _
      | refine LeO.ite ?_ ?_
      | refine LeO.bind ?_ (fun _ => ?_)
theorem juristref03_letter.mono : ∀ a0 k, LeO (juristref03_letter.f k a0) (juristref03_letter.f (k + 1) a0) := by
  intro a0 k
  have ih0 := juristref03_letter.mono_l k
  unfold juristref03_letter.f
  repeat' first
      | (with_reducible exact ih0 _ _ _)
      | (with_reducible exact LeO.refl _)
      | (with_reducible exact LeO.none _)
      | (with_reducible refine LeO.ite ?_ ?_)
      | (with_reducible refine LeO.bind ?_ (fun _ => ?_))
      | exact ih0 _ _ _
      | exact LeO.none _
      | refine LeO.ite ?_ ?_
      | refine LeO.bind ?_ (fun _ => ?_)
set_option maxHeartbeats 8000000 in
set_option maxRecDepth 100000 in
theorem juristref03_letter.calls (k : Nat) (a0 : Int) (r : Bool) (w : World) (h : juristref03_letter.f k a0 = some r) :
    Calls Tryz.prog 92 #[.int .u8 a0] w fun e w' => e = .returned (.bool r) ∧ Drawn0 w w' := by
  have H : (juristref03_letter.l0 k a0 (⟨#[126, 33, 64, 36, 37, 94, 38, 42, 95, 45, 43, 61, 60, 62, 46, 63, 47]⟩ : ByteArray) 0) = some r := h
  clear h
  obtain ⟨sx, hsx⟩ : ∃ s : ByteArray, s = (⟨#[126, 33, 64, 36, 37, 94, 38, 42, 95, 45, 43, 61, 60, 62, 46, 63, 47]⟩ : ByteArray) := ⟨_, rfl⟩
  rw [← hsx] at H
  have H' := Aside0.mk H
  clear H
  go_enter Tryz.func92, Tryz.ntmps92
  go_wp2
  rw [← hsx]
  clear hsx
  go_loopg [4] k (fun kq v4 w' => ∃ (x4_1 : Int), v4 = .int .i64 x4_1 ∧ Aside0 (juristref03_letter.l0 kq a0 sx x4_1 = some r) ∧ Aside0 (kq ≤ k) ∧ Drawn0 w w')
  case atStart => exact ⟨(0), (by first | rfl | (simp; done) | (simp [*]; done)), H', ⟨Nat.le_refl _⟩, by repeat (first | exact Drawn0.refl _ | apply Drawn0.step)⟩
  case round =>
    clear H'
    obtain ⟨x4_1, rfl, HA, HK1, ⟨m1, rfl⟩⟩ := hrel
    cases gk with
    | zero => exact absurd HA.out (by simp [juristref03_letter.l0])
    | succ k1 =>
      have H := HA.out
      clear HA
      simp only [juristref03_letter.l0] at H
      by_cases c2 : x4_1 < (sx.size : Int)
      · rw [if_pos c2] at H
        have c2b0 : decide (x4_1 < (sx.size : Int)) = true := decide_eq_true c2
        clear c2
        by_cases c3 : 0 ≤ x4_1
        · rw [if_pos c3] at H
          have c3b0 : decide (0 ≤ x4_1) = true := decide_eq_true c3
          clear c3
          by_cases c5 : (bt sx x4_1) = a0
          · rw [if_pos c5] at H
            have c5b0 : ((bt sx x4_1) == a0) = true := beq_iff_eq.mpr c5
            have c5b1 : ((bt sx x4_1) != a0) = false := bne_eq_false_iff_eq.mpr c5
            clear c5
            obtain rfl := Option.some.inj H
            have p4 : 0 ≤ (x4_1 : Int) := of_decide_eq_true (by first | (with_reducible assumption) | assumption)
            have q4 : x4_1 < (sx.size : Int) := of_decide_eq_true (by first | (with_reducible assumption) | assumption)
            have hx4 := bt_at sx x4_1
            replace p4 := eq_true p4
            replace q4 := eq_true q4
            go_wp2
            go_ret
            exact ⟨by first | rfl | (simp; done) | (simp [*]; done), by repeat (first | exact Drawn0.refl _ | apply Drawn0.step)⟩
          · rw [if_neg c5] at H
            have c5b0 : ((bt sx x4_1) == a0) = false := beq_eq_false_iff_ne.mpr c5
            have c5b1 : ((bt sx x4_1) != a0) = true := bne_iff_ne.mpr c5
            have H' := Aside0.mk H
            clear H
            have p4 : 0 ≤ (x4_1 : Int) := of_decide_eq_true (by first | (with_reducible assumption) | assumption)
            have q4 : x4_1 < (sx.size : Int) := of_decide_eq_true (by first | (with_reducible assumption) | assumption)
            have hx4 := bt_at sx x4_1
            replace p4 := eq_true p4
            replace q4 := eq_true q4
            go_wp2
            go_roundg k1
            case measure => have := HK1.out; omega
            case rel => exact ⟨(wrap64 (x4_1 + 1)), (by first | rfl | (simp; done) | (simp [*]; done)), H', ⟨by have := HK1.out; omega⟩, by repeat (first | exact Drawn0.refl _ | apply Drawn0.step)⟩
        · rw [if_neg c3] at H
          exact absurd H (by simp)
      · rw [if_neg c2] at H
        have c2b0 : decide (x4_1 < (sx.size : Int)) = false := decide_eq_false c2
        clear c2
        by_cases c6 : a0 ≥ 97
        · rw [if_pos c6] at H
          have c6b0 : decide (97 ≤ a0) = true := decide_eq_true c6
          clear c6
          by_cases c7 : a0 ≤ 122
          · rw [if_pos c7] at H
            have c7b0 : decide (a0 ≤ 122) = true := decide_eq_true c7
            clear c7
            obtain rfl := Option.some.inj H
            go_wp2
            go_ret
            exact ⟨by first | rfl | (simp; done) | (simp [*]; done), by repeat (first | exact Drawn0.refl _ | apply Drawn0.step)⟩
          · rw [if_neg c7] at H
            have c7b0 : decide (a0 ≤ 122) = false := decide_eq_false c7
            clear c7
            by_cases c8 : a0 ≥ 65
            · rw [if_pos c8] at H
              have c8b0 : decide (65 ≤ a0) = true := decide_eq_true c8
              clear c8
              by_cases c9 : a0 ≤ 90
              · rw [if_pos c9] at H
                have c9b0 : decide (a0 ≤ 90) = true := decide_eq_true c9
                clear c9
                obtain rfl := Option.some.inj H
                go_wp2
                go_ret
                exact ⟨by first | rfl | (simp; done) | (simp [*]; done), by repeat (first | exact Drawn0.refl _ | apply Drawn0.step)⟩
              · rw [if_neg c9] at H
                have c9b0 : decide (a0 ≤ 90) = false := decide_eq_false c9
                clear c9
                replace H := Option.bind_eq_some_iff.mp H
                obtain ⟨t119, A100, H⟩ := H
                replace H : (some t119) = some r := H
                have A10 := Aside0.mk A100
                clear A100
                obtain rfl := Option.some.inj H
                go_wp2_with (first | (go_at_call 70; (with_reducible refine (juristref03_digit.calls a0 t119 _ A10.out).mono ?_); rintro e w' ⟨rfl, ⟨nd, rfl⟩⟩))
                go_ret
                exact ⟨by first | rfl | (simp; done) | (simp [*]; done), by repeat (first | exact Drawn0.refl _ | apply Drawn0.step)⟩
            · rw [if_neg c8] at H
              have c8b0 : decide (65 ≤ a0) = false := decide_eq_false c8
              clear c8
              replace H := Option.bind_eq_some_iff.mp H
              obtain ⟨t120, A110, H⟩ := H
              replace H : (some t120) = some r := H
              have A11 := Aside0.mk A110
              clear A110
              obtain rfl := Option.some.inj H
              go_wp2_with (first | (go_at_call 70; (with_reducible refine (juristref03_digit.calls a0 t120 _ A11.out).mono ?_); rintro e w' ⟨rfl, ⟨nd, rfl⟩⟩))
              go_ret
              exact ⟨by first | rfl | (simp; done) | (simp [*]; done), by repeat (first | exact Drawn0.refl _ | apply Drawn0.step)⟩
        · rw [if_neg c6] at H
          have c6b0 : decide (97 ≤ a0) = false := decide_eq_false c6
          clear c6
          by_cases c12 : a0 ≥ 65
          · rw [if_pos c12] at H
            have c12b0 : decide (65 ≤ a0) = true := decide_eq_true c12
            clear c12
            by_cases c13 : a0 ≤ 90
            · rw [if_pos c13] at H
              have c13b0 : decide (a0 ≤ 90) = true := decide_eq_true c13
              clear c13
              obtain rfl := Option.some.inj H
              go_wp2
              go_ret
              exact ⟨by first | rfl | (simp; done) | (simp [*]; done), by repeat (first | exact Drawn0.refl _ | apply Drawn0.step)⟩
            · rw [if_neg c13] at H
              have c13b0 : decide (a0 ≤ 90) = false := decide_eq_false c13
              clear c13
              replace H := Option.bind_eq_some_iff.mp H
              obtain ⟨t121, A140, H⟩ := H
              replace H : (some t121) = some r := H
              have A14 := Aside0.mk A140
              clear A140
              obtain rfl := Option.some.inj H
              go_wp2_with (first | (go_at_call 70; (with_reducible refine (juristref03_digit.calls a0 t121 _ A14.out).mono ?_); rintro e w' ⟨rfl, ⟨nd, rfl⟩⟩))
              go_ret
              exact ⟨by first | rfl | (simp; done) | (simp [*]; done), by repeat (first | exact Drawn0.refl _ | apply Drawn0.step)⟩
          · rw [if_neg c12] at H
            have c12b0 : decide (65 ≤ a0) = false := decide_eq_false c12
            clear c12
            replace H := Option.bind_eq_some_iff.mp H
            obtain ⟨t122, A150, H⟩ := H
            replace H : (some t122) = some r := H
            have A15 := Aside0.mk A150
            clear A150
            obtain rfl := Option.some.inj H
            go_wp2_with (first | (go_at_call 70; (with_reducible refine (juristref03_digit.calls a0 t122 _ A15.out).mono ?_); rintro e w' ⟨rfl, ⟨nd, rfl⟩⟩))
            go_ret
            exact ⟨by first | rfl | (simp; done) | (simp [*]; done), by repeat (first | exact Drawn0.refl _ | apply Drawn0.step)⟩

/-! ### juristref03_word: function 68 -/
def juristref03_word.l0 : Nat → List Int → Int → Int → Option (Int)
  | 0, _, _, _ => none
  | k + 1, x0, x1, x5 => if (wrap64 (x1 + x5)) < (x0.length : Int) then (if 0 ≤ (wrap64 (x1 + x5)) then ((juristref03_letter.f k (rd x0 (wrap64 (x1 + x5)))).bind fun t124 => (if t124 = true then (juristref03_word.l0 k x0 x1 (wrap64 (x5 + 1))) else (some x5))) else (none)) else (some x5)
def juristref03_word.f (k : Nat) (l0 : List Int) (a1 : Int) : Option (Int) := juristref03_word.l0 k l0 a1 0
theorem juristref03_word.mono_l : ∀ k, (∀ y0 y1 y2, LeO (juristref03_word.l0 k y0 y1 y2) (juristref03_word.l0 (k + 1) y0 y1 y2))
  | 0 => fun _ _ _ r h => by simp [juristref03_word.l0] at h
  | k + 1 => by
    have ih0 := juristref03_word.mono_l k
    · intro y0 y1 y2
      unfold juristref03_word.l0
      repeat' first
      | (with_reducible exact ih0 _ _ _)
      | (with_reducible exact juristref03_letter.mono _ _)
      | (with_reducible exact LeO.refl _)
      | (with_reducible exact LeO.none _)
      | (with_reducible refine LeO.ite ?_ ?_)
      | (with_reducible refine LeO.bind ?_ (fun _ => ?_))
      | exact ih0 _ _ _
      | exact juristref03_letter.mono _ _
      | exact LeO.none _
      | refine LeO.ite ?_ ?_
      | refine LeO.bind ?_ (fun _ => ?_)
theorem juristref03_word.mono : ∀ a0 a1 k, LeO (juristref03_word.f k a0 a1) (juristref03_word.f (k + 1) a0 a1) := by
  intro a0 a1 k
  have ih0 := juristref03_word.mono_l k
  unfold juristref03_word.f
  repeat' first
      | (with_reducible exact ih0 _ _ _)
      | (with_reducible exact juristref03_letter.mono _ _)
      | (with_reducible exact LeO.refl _)
      | (with_reducible exact LeO.none _)
      | (with_reducible refine LeO.ite ?_ ?_)
      | (with_reducible refine LeO.bind ?_ (fun _ => ?_))
      | exact ih0 _ _ _
      | exact juristref03_letter.mono _ _
      | exact LeO.none _
      | refine LeO.ite ?_ ?_
      | refine LeO.bind ?_ (fun _ => ?_)
set_option maxHeartbeats 8000000 in
set_option maxRecDepth 100000 in
theorem juristref03_word.calls (k : Nat) (A0 : Option Addr) (c0 : Nat) (l0 : List Int) (a1 : Int) (r : Int) (w : World) (hr0 : Kd.C (Kd.int .u8) w A0 l0.length l0) (hc0 : l0.length ≤ c0) (h : juristref03_word.f k l0 a1 = some r) :
    Calls Tryz.prog 68 #[.slice A0 l0.length c0, .int .i64 a1] w fun e w' => e = .returned (.int .i64 r) ∧ Drawn0 w w' := by
  have HR0 := Aside0.mk hr0
  have HC0 := Aside0.mk hc0
  clear hr0 hc0
  have H : (juristref03_word.l0 k l0 a1 0) = some r := h
  clear h
  have H' := Aside0.mk H
  clear H
  go_enter Tryz.func68, Tryz.ntmps68
  go_wp2
  go_loopg [5] k (fun kq v5 w' => ∃ (x5_1 : Int), v5 = .int .i64 x5_1 ∧ Aside0 (juristref03_word.l0 kq l0 a1 x5_1 = some r) ∧ Aside0 (kq ≤ k) ∧ Drawn0 w w')
  case atStart => exact ⟨(0), (by first | rfl | (simp; done) | (simp [*]; done)), H', ⟨Nat.le_refl _⟩, by repeat (first | exact Drawn0.refl _ | apply Drawn0.step)⟩
  case round =>
    clear H'
    try clear p2
    obtain ⟨x5_1, rfl, HA, HK1, ⟨m1, rfl⟩⟩ := hrel
    cases gk with
    | zero => exact absurd HA.out (by simp [juristref03_word.l0])
    | succ k1 =>
      have H := HA.out
      clear HA
      simp only [juristref03_word.l0] at H
      by_cases c3 : (wrap64 (a1 + x5_1)) < (l0.length : Int)
      · rw [if_pos c3] at H
        have c3b0 : decide ((wrap64 (a1 + x5_1)) < (l0.length : Int)) = true := decide_eq_true c3
        clear c3
        obtain ⟨ji4, hji4⟩ : ∃ j_ : Int, (wrap64 (a1 + x5_1)) = j_ := ⟨_, rfl⟩
        replace H : (if 0 ≤ (ji4) then ((juristref03_letter.f k1 (rd l0 (ji4))).bind fun t124 => (if t124 = true then (juristref03_word.l0 k1 l0 a1 (wrap64 (x5_1 + 1))) else (some x5_1))) else (none)) = some r := by first | (rw [hji4] at H; exact H) | (simp only [hji4] at H ⊢; exact H)
        (try rw [hji4] at c3b0)
        have hji4w : (IntKind.i64.wrap (a1 + x5_1)) = ji4 := (i64_w _).trans hji4
        by_cases c5 : 0 ≤ (ji4)
        · rw [if_pos c5] at H
          have c5b0 : decide (0 ≤ (ji4)) = true := decide_eq_true c5
          clear c5
          replace H := Option.bind_eq_some_iff.mp H
          obtain ⟨t124, A60, H⟩ := H
          replace H : (if t124 = true then (juristref03_word.l0 k1 l0 a1 (wrap64 (x5_1 + 1))) else (some x5_1)) = some r := H
          have A6 := Aside0.mk A60
          clear A60
          by_cases c7 : t124 = true
          · subst c7
            have H1 : (juristref03_word.l0 k1 l0 a1 (wrap64 (x5_1 + 1))) = some r := by rw [if_pos rfl] at H; exact H
            clear H
            have H := H1
            clear H1
            have H' := Aside0.mk H
            clear H
            have p123 : 0 ≤ ((ji4) : Int) := of_decide_eq_true (by first | (with_reducible assumption) | assumption)
            have q123 : (ji4) < (l0.length : Int) := of_decide_eq_true (by first | (with_reducible assumption) | assumption)
            obtain ⟨ad123, e123, hx123_0⟩ := Kd.at_int HR0.out (ji4) p123 q123
            cases e123
            replace p123 := eq_true p123
            replace q123 := eq_true q123
            go_wp2_with (first | (go_at_call 92; (with_reducible refine (juristref03_letter.calls k1 (rd l0 (ji4)) true _ A6.out).mono ?_); rintro e w' ⟨rfl, ⟨nd, rfl⟩⟩))
            go_roundg k1
            case measure => have := HK1.out; omega
            case rel => exact ⟨(wrap64 (x5_1 + 1)), (by first | rfl | (simp; done) | (simp [*]; done)), H', ⟨by have := HK1.out; omega⟩, by repeat (first | exact Drawn0.refl _ | apply Drawn0.step)⟩
          · replace c7 := Bool.eq_false_iff.mpr c7
            subst c7
            have H1 : (some x5_1) = some r := by rw [if_neg (show ¬ (false = true) by decide)] at H; exact H
            clear H
            have H := H1
            clear H1
            obtain rfl := Option.some.inj H
            have p123 : 0 ≤ ((ji4) : Int) := of_decide_eq_true (by first | (with_reducible assumption) | assumption)
            have q123 : (ji4) < (l0.length : Int) := of_decide_eq_true (by first | (with_reducible assumption) | assumption)
            obtain ⟨ad123, e123, hx123_0⟩ := Kd.at_int HR0.out (ji4) p123 q123
            cases e123
            replace p123 := eq_true p123
            replace q123 := eq_true q123
            go_wp2_with (first | (go_at_call 92; (with_reducible refine (juristref03_letter.calls k1 (rd l0 (ji4)) false _ A6.out).mono ?_); rintro e w' ⟨rfl, ⟨nd, rfl⟩⟩))
            go_ret
            exact ⟨by first | rfl | (simp; done) | (simp only [← hji4] <;> (first | rfl | simp)) | (simp [*]; done), by repeat (first | exact Drawn0.refl _ | apply Drawn0.step)⟩
        · rw [if_neg c5] at H
          exact absurd H (by simp)
      · rw [if_neg c3] at H
        have c3b0 : decide ((wrap64 (a1 + x5_1)) < (l0.length : Int)) = false := decide_eq_false c3
        clear c3
        obtain rfl := Option.some.inj H
        go_wp2
        go_ret
        exact ⟨by first | rfl | (simp; done) | (simp [*]; done), by repeat (first | exact Drawn0.refl _ | apply Drawn0.step)⟩

end Go.Proofs.YtmlkfgoiakcnhaaGreatDoor.PStackNone
