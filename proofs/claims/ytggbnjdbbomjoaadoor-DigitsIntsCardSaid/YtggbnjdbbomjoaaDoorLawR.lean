/- DigitsReads: the walk. -/
import Derived.Test.YtggbnjdbbomjoaaDoorLawT
import Derived.Test.YtggbnjdbbomjoaaDoorRefT
import Derived.Test.YtggbnjdbbomjoaaDoorRefR
namespace Go.Proofs.YtggbnjdbbomjoaaDoor
open Go.RowKit
theorem refReadN (s : ByteArray) (hs : s.size ≤ 281474976710656) {x e : Int} (h : readP s.data.toList = (x, e)) (w : World) :
    Calls Tryd.prog 11 #[.string s] w fun r w' => r = .returned (.tuple #[.int .i64 x, .int .i64 e]) ∧ Below w.heap.size w w' := by
  have := refRead_any s hs w
  rw [h] at this
  exact this
theorem refTextN {x : Lg} {v : Int} (A : Lw v x) {s : ByteArray} (e : (⟨(Lib.itoa v).toArray⟩ : ByteArray) = s) (w : World) : Calls Tryd.prog 13 #[lgV x] w fun e w' => e = .returned (.string s) ∧ Below w.heap.size w w' := by
  rw [← e]; exact refText_any x v A w
theorem refOfN (n : Int) (h : I64 n) {x : Lg} (e : ofL n 0 = x) (w : World) : Calls Tryd.prog 14 #[.int .i64 n, .int .i64 0] w fun e w' => e = .returned (lgV x) ∧ Below w.heap.size w w' := by
  rw [← e]; exact ofl_any n 0 h (by omega) w
set_option maxRecDepth 100000 in
set_option maxHeartbeats 1000000 in
theorem digitsReads_any (s : ByteArray) (n : Int) (hn : I64 n) (w : World) (V : Vars w) : Calls Tryd.prog 3 #[.string s, .int .i64 n] w fun e w' => e = .returned (.bool true) ∧ Below w.heap.size w w' := by
  by_cases hl : s.size ≤ 1000
  · have hl' : (s.size : Int) ≤ 1000 := by omega
    obtain ⟨y, f, hyf⟩ : ∃ y f, readP s.data.toList = (y, f) := ⟨_, _, rfl⟩
    obtain ⟨t, ht⟩ : ∃ t : ByteArray, ⟨(Lib.itoa n).toArray⟩ = t := ⟨_, rfl⟩
    obtain ⟨x, hx⟩ : ∃ x, ofL n 0 = x := ⟨_, rfl⟩
    have LX : Lw n x := by rw [← hx]; exact lw_of n hn
    have HYF := Lib.hid hyf; have HS := Lib.hid (show s.size ≤ 281474976710656 by omega); have HN := Lib.hid hn; have HT := Lib.hid ht; have HX := Lib.hid hx
    clear hyf hn ht hx hl
    go_enter Tryd.func3, Tryd.ntmps3
    go_wp2_with fail
    refine (readN s HS.out HYF.out _ V).mono ?_; rintro e w1 ⟨rfl, hb1⟩
    replace V := V.on hb1 (Nat.le_refl _)
    go_wp2_with fail
    refine (refReadN s HS.out HYF.out _).mono ?_; rintro e w2 ⟨rfl, hb2⟩
    replace V := V.on hb2 (Nat.le_refl _)
    replace hb1 := hb1.trans (hb2.mono hb1.size); clear hb2
    go_wp2_with fail
    refine (textN HN.out HT.out _ V).mono ?_; rintro e wn ⟨rfl, hbn⟩
    replace V := V.on hbn (Nat.le_refl _); replace hb1 := hb1.trans (hbn.mono hb1.size); clear hbn
    go_wp2_with fail
    refine (refOfN n HN.out HX.out _).mono ?_; rintro e wn ⟨rfl, hbn⟩
    replace V := V.on hbn (Nat.le_refl _); replace hb1 := hb1.trans (hbn.mono hb1.size); clear hbn
    go_wp2_with fail
    refine (refTextN LX HT.out _).mono ?_; rintro e wn ⟨rfl, hbn⟩
    replace V := V.on hbn (Nat.le_refl _); replace hb1 := hb1.trans (hbn.mono hb1.size); clear hbn
    go_wp2_with fail
    refine (known_any _ V).mono ?_; rintro e wn ⟨rfl, hbn⟩
    replace V := V.on hbn (Nat.le_refl _); replace hb1 := hb1.trans (hbn.mono hb1.size); clear hbn
    go_wp2
    go_ret
    exact ⟨rfl, hb1⟩
  · have hl' : 1000 < (s.size : Int) := by omega
    go_enter Tryd.func3, Tryd.ntmps3
    go_wp2_with fail
    refine (known_any _ V).mono ?_; rintro e w1 ⟨rfl, hb1⟩
    go_wp2
    go_ret
    exact ⟨rfl, hb1⟩
end Go.Proofs.YtggbnjdbbomjoaaDoor
