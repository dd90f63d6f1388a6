/- DigitsAdds: the walk. -/
import Derived.Test.YtggbnjdbbomjoaaDoorRefK
import Derived.Test.YtggbnjdbbomjoaaDoorLawR
namespace Go.Proofs.YtggbnjdbbomjoaaDoor
open Go.RowKit
theorem refAddN {u v : Int} {x y z : Lg} (A : Lw u x) (B : Lw v y) (e : addL x y = z) (w : World) : Calls Tryd.prog 18 #[lgV x, lgV y] w fun e w' => e = .returned (lgV z) ∧ Below w.heap.size w w' := by
  rw [← e]; exact addl_any x y A.dig B.dig w
theorem refNegN {x z : Lg} (e : negL x = z) (w : World) : Calls Tryd.prog 19 #[lgV x] w fun e w' => e = .returned (lgV z) ∧ Below w.heap.size w w' := by
  rw [← e]; exact neg_any x w
theorem refFitsN {x : Lg} {v n : Int} {o : Bool} (A : Lw v x) (b : Bd v) (e1 : fitN v = n) (e2 : fitB v = o) (w : World) : Calls Tryd.prog 17 #[lgV x] w fun e w' => e = .returned (.tuple #[.int .i64 n, .bool o]) ∧ Below w.heap.size w w' := by
  rw [← e1, ← e2]; exact fits_any x v A b w
theorem bd_i64 {v : Int} (h : I64 v) : Bd v := by obtain ⟨_, _⟩ := h; unfold Bd; omega
set_option maxRecDepth 100000 in
set_option maxHeartbeats 1000000 in
theorem digitsAdds_any (a b : Int) (ha : I64 a) (hb : I64 b) (w : World) (V : Vars w) : Calls Tryd.prog 5 #[.int .i64 a, .int .i64 b] w fun e w' => e = .returned (.bool true) ∧ Below w.heap.size w w' := by
  obtain ⟨s, hs⟩ : ∃ s, a + b = s := ⟨_, rfl⟩
  obtain ⟨d, hd⟩ : ∃ d, a - b = d := ⟨_, rfl⟩
  obtain ⟨x, hx⟩ : ∃ x, ofL a 0 = x := ⟨_, rfl⟩
  obtain ⟨y, hy⟩ : ∃ y, ofL b 0 = y := ⟨_, rfl⟩
  obtain ⟨ny, hny⟩ : ∃ z, negL y = z := ⟨_, rfl⟩
  obtain ⟨p, hp⟩ : ∃ z, addL x y = z := ⟨_, rfl⟩
  obtain ⟨q, hq⟩ : ∃ z, addL x ny = z := ⟨_, rfl⟩
  have LX : Lw a x := by rw [← hx]; exact lw_of a ha
  have LY : Lw b y := by rw [← hy]; exact lw_of b hb
  have LN : Lw (-b) ny := by rw [← hny]; exact LY.neg
  have LP : Lw s p := by rw [← hp]; exact LX.add LY (bd_i64 ha) (bd_i64 hb) hs
  have LQ : Lw d q := by rw [← hq]; exact LX.add LN (bd_i64 ha) (bd_i64 hb).neg (by omega)
  have bs : Bd s := by obtain ⟨_, _⟩ := ha; obtain ⟨_, _⟩ := hb; unfold Bd; omega
  have bd : Bd d := by obtain ⟨_, _⟩ := ha; obtain ⟨_, _⟩ := hb; unfold Bd; omega
  obtain ⟨n, hn⟩ : ∃ n, fitN s = n := ⟨_, rfl⟩
  obtain ⟨o, ho⟩ : ∃ o, fitB s = o := ⟨_, rfl⟩
  obtain ⟨n', hn'⟩ : ∃ n, fitN d = n := ⟨_, rfl⟩
  obtain ⟨o', ho'⟩ : ∃ o, fitB d = o := ⟨_, rfl⟩
  have HA := Lib.hid ha; have HB := Lib.hid hb; have HS := Lib.hid hs; have HD := Lib.hid hd; have HX := Lib.hid hx; have HY := Lib.hid hy; have HNY := Lib.hid hny; have HP := Lib.hid hp; have HQ := Lib.hid hq
  have F1 := Lib.hid hn; have F2 := Lib.hid ho; have F3 := Lib.hid hn'; have F4 := Lib.hid ho'
  clear ha hb hs hd hx hy hny hp hq hn ho hn' ho'
  go_enter Tryd.func5, Tryd.ntmps5
  go_wp2_with fail
  refine (addF a b s HA.out HB.out HS.out _).mono ?_; rintro e w1 ⟨rfl, rfl⟩
  rw [F1.out, F2.out]
  go_wp2_with fail
  refine (subF a b d HA.out HB.out HD.out _).mono ?_; rintro e w1 ⟨rfl, rfl⟩
  rw [F3.out, F4.out]
  go_wp2_with fail
  refine (refOfN a HA.out HX.out _).mono ?_; rintro e wn ⟨rfl, hbn⟩
  replace V := V.on hbn (Nat.le_refl _); have hbw := hbn; clear hbn
  go_wp2_with fail
  refine (refOfN b HB.out HY.out _).mono ?_; rintro e wn ⟨rfl, hbn⟩
  replace V := V.on hbn (Nat.le_refl _); replace hbw := hbw.trans (hbn.mono hbw.size); clear hbn
  go_wp2_with fail
  refine (refAddN LX LY HP.out _).mono ?_; rintro e wn ⟨rfl, hbn⟩
  replace V := V.on hbn (Nat.le_refl _); replace hbw := hbw.trans (hbn.mono hbw.size); clear hbn
  go_wp2_with fail
  refine (refFitsN LP bs F1.out F2.out _).mono ?_; rintro e wn ⟨rfl, hbn⟩
  replace V := V.on hbn (Nat.le_refl _); replace hbw := hbw.trans (hbn.mono hbw.size); clear hbn
  go_wp2_with fail
  refine (refOfN a HA.out HX.out _).mono ?_; rintro e wn ⟨rfl, hbn⟩
  replace V := V.on hbn (Nat.le_refl _); replace hbw := hbw.trans (hbn.mono hbw.size); clear hbn
  go_wp2_with fail
  refine (refOfN b HB.out HY.out _).mono ?_; rintro e wn ⟨rfl, hbn⟩
  replace V := V.on hbn (Nat.le_refl _); replace hbw := hbw.trans (hbn.mono hbw.size); clear hbn
  go_wp2_with fail
  refine (refNegN HNY.out _).mono ?_; rintro e wn ⟨rfl, hbn⟩
  replace V := V.on hbn (Nat.le_refl _); replace hbw := hbw.trans (hbn.mono hbw.size); clear hbn
  go_wp2_with fail
  refine (refAddN LX LN HQ.out _).mono ?_; rintro e wn ⟨rfl, hbn⟩
  replace V := V.on hbn (Nat.le_refl _); replace hbw := hbw.trans (hbn.mono hbw.size); clear hbn
  go_wp2_with fail
  refine (refFitsN LQ bd F3.out F4.out _).mono ?_; rintro e wn ⟨rfl, hbn⟩
  replace V := V.on hbn (Nat.le_refl _); replace hbw := hbw.trans (hbn.mono hbw.size); clear hbn
  go_wp2_with fail
  refine (known_any _ V).mono ?_; rintro e wn ⟨rfl, hbn⟩
  replace V := V.on hbn (Nat.le_refl _); replace hbw := hbw.trans (hbn.mono hbw.size); clear hbn
  go_wp2
  go_ret
  exact ⟨rfl, hbw⟩
end Go.Proofs.YtggbnjdbbomjoaaDoor
