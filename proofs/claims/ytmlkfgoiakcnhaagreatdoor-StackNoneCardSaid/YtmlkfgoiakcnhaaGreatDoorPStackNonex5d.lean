/- The reference's token: what it answers, as a function. (The print tool's text, its definitions alone.) -/
import Derived.Test.YtmlkfgoiakcnhaaGreatDoorPStackNonex0
import Derived.Test.YtmlkfgoiakcnhaaGreatDoorPStackNonex2
import Derived.Test.YtmlkfgoiakcnhaaGreatDoorPStackNonex3
import Derived.Test.YtmlkfgoiakcnhaaGreatDoorPStackNonex4
namespace Go.Proofs.YtmlkfgoiakcnhaaGreatDoor.PStackNone
open Go.RowKit Go.Proofs.YtmlkfgoiakcnhaaGreatDoorW.PrintWords Go.Proofs.YtmlkfgoiakcnhaaGreatDoorW.PrintLast Go.Proofs.YtmlkfgoiakcnhaaGreatDoorW.PrintMore
attribute [local go_sem] max2_int min2_int max_two min_two max_three min_three max_four min_four   -- for this text's walks alone
set_option linter.unusedVariables false
set_option linter.unusedSimpArgs false

/-! ### juristref03_One: function 43 -/
mutual
def juristref03_One.j0 : Nat → List Int → Int → Int → Bool → Int → ByteArray → Int → Option (Int × ByteArray × Int × Int × Int)
  | 0, _, _, _, _, _, _, _ => none
  | k + 1, x0, x1, x7, x32, x132000, x132001, x132002 => if x32 = true then ((juristref03_quoted.f k x0 x1 x7).bind fun bt132 => (if x7 = 34 then (some (5, bt132.1, x132002, bt132.2.1, bt132.2.2)) else (some (3, bt132.1, x132002, bt132.2.1, bt132.2.2)))) else (if x7 = 58 then (juristref03_One.j1 k x0 x1 x7 true x132000 x132001 x132002) else (juristref03_One.j1 k x0 x1 x7 (x7 == 35) x132000 x132001 x132002))
def juristref03_One.j1 : Nat → List Int → Int → Int → Bool → Int → ByteArray → Int → Option (Int × ByteArray × Int × Int × Int)
  | 0, _, _, _, _, _, _, _ => none
  | k + 1, x0, x1, x7, x56, x132000, x132001, x132002 => if x56 = true then ((juristref03_word.f k x0 (wrap64 (x1 + 1))).bind fun t135 => (if t135 = 0 then (some (x132000, x132001, x132002, 0, 30)) else (if 0 ≤ (wrap64 (x1 + 1)) then (if (wrap64 (x1 + 1)) ≤ (wrap64 ((wrap64 (x1 + 1)) + t135)) then (if (wrap64 ((wrap64 (x1 + 1)) + t135)) ≤ (x0.length : Int) then (if x7 = 35 then ((juristref03_number.f k (strOfNums ((x0.take ((wrap64 ((wrap64 (x1 + 1)) + t135)) : Int).toNat).drop ((wrap64 (x1 + 1)) : Int).toNat))).bind fun t137 => (if t137 = true then (if 1 + (strOfNums ((x0.take ((wrap64 ((wrap64 (x1 + 1)) + t135)) : Int).toNat).drop ((wrap64 (x1 + 1)) : Int).toNat)).size ≤ 9223372036854775807 then (some (7, (⟨#[35]⟩ : ByteArray) ++ (strOfNums ((x0.take ((wrap64 ((wrap64 (x1 + 1)) + t135)) : Int).toNat).drop ((wrap64 (x1 + 1)) : Int).toNat)), x132002, wrap64 (t135 + 1), 0)) else (none)) else (some (6, strOfNums ((x0.take ((wrap64 ((wrap64 (x1 + 1)) + t135)) : Int).toNat).drop ((wrap64 (x1 + 1)) : Int).toNat), x132002, 0, 5)))) else (some (6, strOfNums ((x0.take ((wrap64 ((wrap64 (x1 + 1)) + t135)) : Int).toNat).drop ((wrap64 (x1 + 1)) : Int).toNat), x132002, wrap64 (t135 + 1), 0))) else (none)) else (none)) else (none)))) else ((juristref03_word.f k x0 x1).bind fun t138 => (if t138 = 0 then (some (x132000, x132001, x132002, 0, 30)) else (if 0 ≤ x1 then (if x1 ≤ (wrap64 (x1 + t138)) then (if (wrap64 (x1 + t138)) ≤ (x0.length : Int) then ((juristref03_digit.f x7).bind fun t140 => (if t140 = true then ((juristref03_numeral.f k (strOfNums ((x0.take ((wrap64 (x1 + t138)) : Int).toNat).drop (x1 : Int).toNat))).bind fun t141 => (if t141 = true then (some (4, strOfNums ((x0.take ((wrap64 (x1 + t138)) : Int).toNat).drop (x1 : Int).toNat), x132002, t138, 0)) else ((juristref03_decimal.f k (strOfNums ((x0.take ((wrap64 (x1 + t138)) : Int).toNat).drop (x1 : Int).toNat))).bind fun t142 => (if t142 = true then (some (7, strOfNums ((x0.take ((wrap64 (x1 + t138)) : Int).toNat).drop (x1 : Int).toNat), x132002, t138, 0)) else (some (x132000, strOfNums ((x0.take ((wrap64 (x1 + t138)) : Int).toNat).drop (x1 : Int).toNat), x132002, 0, 5)))))) else (some (3, strOfNums ((x0.take ((wrap64 (x1 + t138)) : Int).toNat).drop (x1 : Int).toNat), x132002, t138, 0)))) else (none)) else (none)) else (none))))
end
def juristref03_One.f (k : Nat) (l0 : List Int) (a1 : Int) : Option (Int × ByteArray × Int × Int × Int) := if 0 ≤ a1 then (if a1 < (l0.length : Int) then (if (rd l0 a1) = 40 then (some (1, (⟨#[40]⟩ : ByteArray), a1, 1, 0)) else (if (rd l0 a1) = 41 then (some (2, (⟨#[41]⟩ : ByteArray), a1, 1, 0)) else (if (rd l0 a1) = 124 then (juristref03_One.j0 k l0 a1 (rd l0 a1) true 0 (⟨#[]⟩ : ByteArray) a1) else (juristref03_One.j0 k l0 a1 (rd l0 a1) ((rd l0 a1) == 34) 0 (⟨#[]⟩ : ByteArray) a1)))) else (none)) else (none)
theorem juristref03_One.mono_l : ∀ k, (∀ y0 y1 y2 y3 y4 y5 y6, LeO (juristref03_One.j0 k y0 y1 y2 y3 y4 y5 y6) (juristref03_One.j0 (k + 1) y0 y1 y2 y3 y4 y5 y6)) ∧ (∀ y0 y1 y2 y3 y4 y5 y6, LeO (juristref03_One.j1 k y0 y1 y2 y3 y4 y5 y6) (juristref03_One.j1 (k + 1) y0 y1 y2 y3 y4 y5 y6))
  | 0 => ⟨fun _ _ _ _ _ _ _ r h => by simp [juristref03_One.j0] at h, fun _ _ _ _ _ _ _ r h => by simp [juristref03_One.j1] at h⟩
  | k + 1 => by
    obtain ⟨ih0, ih1⟩ := juristref03_One.mono_l k
    refine ⟨?_, ?_⟩
    · intro y0 y1 y2 y3 y4 y5 y6
      unfold juristref03_One.j0
      repeat' first
      | (with_reducible exact ih0 _ _ _ _ _ _ _)
      | (with_reducible exact ih1 _ _ _ _ _ _ _)
      | (with_reducible exact juristref03_decimal.mono _ _)
      | (with_reducible exact juristref03_number.mono _ _)
      | (with_reducible exact juristref03_numeral.mono _ _)
      | (with_reducible exact juristref03_quoted.mono _ _ _ _)
      | (with_reducible exact juristref03_word.mono _ _ _)
      | (with_reducible exact LeO.refl _)
      | (with_reducible exact LeO.none _)
      | (with_reducible refine LeO.ite ?_ ?_)
      | (with_reducible refine LeO.bind ?_ (fun _ => ?_))
      | exact ih0 _ _ _ _ _ _ _
      | exact ih1 _ _ _ _ _ _ _
      | exact juristref03_decimal.mono _ _
      | exact juristref03_number.mono _ _
      | exact juristref03_numeral.mono _ _
      | exact juristref03_quoted.mono _ _ _ _
      | exact juristref03_word.mono _ _ _
      | exact LeO.none _
      | refine LeO.ite ?_ ?_
      | refine LeO.bind ?_ (fun _ => ?_)
    · intro y0 y1 y2 y3 y4 y5 y6
      unfold juristref03_One.j1
      repeat' first
      | (with_reducible exact ih0 _ _ _ _ _ _ _)
      | (with_reducible exact ih1 _ _ _ _ _ _ _)
      | (with_reducible exact juristref03_decimal.mono _ _)
      | (with_reducible exact juristref03_number.mono _ _)
      | (with_reducible exact juristref03_numeral.mono _ _)
      | (with_reducible exact juristref03_quoted.mono _ _ _ _)
      | (with_reducible exact juristref03_word.mono _ _ _)
      | (with_reducible exact LeO.refl _)
      | (with_reducible exact LeO.none _)
      | (with_reducible refine LeO.ite ?_ ?_)
      | (with_reducible refine LeO.bind ?_ (fun _ => ?_))
      | exact ih0 _ _ _ _ _ _ _
      | exact ih1 _ _ _ _ _ _ _
      | exact juristref03_decimal.mono _ _
      | exact juristref03_number.mono _ _
      | exact juristref03_numeral.mono _ _
      | exact juristref03_quoted.mono _ _ _ _
      | exact juristref03_word.mono _ _ _
      | exact LeO.none _
      | refine LeO.ite ?_ ?_
      | refine LeO.bind ?_ (fun _ => ?_)
theorem juristref03_One.mono : ∀ a0 a1 k, LeO (juristref03_One.f k a0 a1) (juristref03_One.f (k + 1) a0 a1) := by
  intro a0 a1 k
  obtain ⟨ih0, ih1⟩ := juristref03_One.mono_l k
  unfold juristref03_One.f
  repeat' first
      | (with_reducible exact ih0 _ _ _ _ _ _ _)
      | (with_reducible exact ih1 _ _ _ _ _ _ _)
      | (with_reducible exact juristref03_decimal.mono _ _)
      | (with_reducible exact juristref03_number.mono _ _)
      | (with_reducible exact juristref03_numeral.mono _ _)
      | (with_reducible exact juristref03_quoted.mono _ _ _ _)
      | (with_reducible exact juristref03_word.mono _ _ _)
      | (with_reducible exact LeO.refl _)
      | (with_reducible exact LeO.none _)
      | (with_reducible refine LeO.ite ?_ ?_)
      | (with_reducible refine LeO.bind ?_ (fun _ => ?_))
      | exact ih0 _ _ _ _ _ _ _
      | exact ih1 _ _ _ _ _ _ _
      | exact juristref03_decimal.mono _ _
      | exact juristref03_number.mono _ _
      | exact juristref03_numeral.mono _ _
      | exact juristref03_quoted.mono _ _ _ _
      | exact juristref03_word.mono _ _ _
      | exact LeO.none _
      | refine LeO.ite ?_ ?_
      | refine LeO.bind ?_ (fun _ => ?_)
end Go.Proofs.YtmlkfgoiakcnhaaGreatDoor.PStackNone
