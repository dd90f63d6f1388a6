/- DigitsWrites: the walk. -/
import Derived.Test.YtggbnjdbbomjoaaDoorNm
namespace Go.Proofs.YtggbnjdbbomjoaaDoor
open Go.RowKit
set_option maxRecDepth 100000 in
set_option maxHeartbeats 1000000 in
theorem digitsWrites_any (a b : Int) (ha : I64 a) (hb : I64 b) (w : World) (V : Vars w) : Calls Tryd.prog 8 #[.int .i64 a, .int .i64 b] w fun e w' => e = .returned (.bool true) ∧ Below w.heap.size w w' := by
  generalize hd : a - b = d
  generalize hs : a + b = s
  have HD := Lib.hid hd; have HS := Lib.hid hs
  have hr : Rng s := by rw [← hs]; exact rng_add ha hb
  have HA := Lib.hid ha; have HB := Lib.hid hb; have HR := Lib.hid hr
  have HSF := Lib.hid (fit_i64 s)
  have hfs : Hid (fitB s = true → fitN s = s) := Lib.hid (fun h => if_pos (of_decide_eq_true h))
  obtain ⟨ah, al, NA⟩ := nv_ex (rng_of ha)
  obtain ⟨bh, bl, NB⟩ := nv_ex (rng_of hb)
  obtain ⟨sh, sl, NS⟩ := nv_ex hr
  obtain ⟨ta, hta⟩ : ∃ t : ByteArray, ⟨(Lib.itoa a).toArray⟩ = t := ⟨_, rfl⟩
  obtain ⟨ts, hts⟩ : ∃ t : ByteArray, ⟨(Lib.itoa s).toArray⟩ = t := ⟨_, rfl⟩
  have HTA := Lib.hid hta; have HTS := Lib.hid hts; clear hta hts
  have hbn : (b != -9223372036854775808) = false ∨ (Hid (I64 (-b)) ∧ wrap64 (-b) = -b ∧ (b != -9223372036854775808) = true) := by
    by_cases hm : b = -9223372036854775808
    · left; subst hm; rfl
    · right
      have : I64 (-b) := by obtain ⟨_, _⟩ := hb; unfold I64; omega
      exact ⟨Lib.hid this, wrap_of this, by simpa using hm⟩
  clear hd hs ha hb hr
  generalize hx : fitN d = x
  generalize ho : fitB d = o
  have HX := Lib.hid hx; have HO := Lib.hid ho; clear hx ho
  generalize hy : fitN s = y at *
  generalize hp : fitB s = p at *
  have HY := Lib.hid hy; have HP := Lib.hid hp; clear hy hp
  rcases hbn with hm | ⟨HN, hw, hm⟩
  all_goals
    go_enter Tryd.func8, Tryd.ntmps8
    go_wp2_with fail
    refine (subF a b d HA.out HB.out HD.out _).mono ?_
    rintro e w1 ⟨rfl, rfl⟩
    rw [HX.out, HO.out]
    go_wp2_with fail
  rotate_left
  refine (addF a (-b) d HA.out HN.out (by have := HD.out; omega) _).mono ?_
  rintro e w1 ⟨rfl, rfl⟩
  rw [HX.out, HO.out]
  go_wp2_with fail
  all_goals
    refine (ofN HA.out NA _).mono ?_; rintro e w1 ⟨rfl, hb1⟩
    have V1 := V.on hb1 (Nat.le_refl _)
    go_wp2_with fail
    refine (ofN HB.out NB _).mono ?_; rintro e w2 ⟨rfl, hb2⟩
    have V2 := V1.on hb2 (Nat.le_refl _)
    go_wp2_with fail
    refine (addF a b s HA.out HB.out HS.out _).mono ?_; rintro e w3 ⟨rfl, rfl⟩
    rw [HY.out, HP.out]
    go_wp2_with fail
    refine (plusN NA NB NS HS.out _).mono ?_; rintro e w3 ⟨rfl, hb3⟩
    obtain ⟨hc3, hf3⟩ := bcell hb3
    have zn : w2.heap.size + 1 < w3.heap.size := by have := hb3.size; simp at this; omega
    have hbx : Below w2.heap.size w2 w3 := by (repeat (first | (with_reducible exact Below.refl _ _) | ((with_reducible refine Below.alloc ?_ ?_ _); rotate_left; focus (first | (simp; done) | (simp; omega) | (have q0 := hb3.size; (try simp at q0); (try simp); omega))) | ((with_reducible refine Below.setCell ?_ ?_ _); rotate_left; focus (first | (simp; done) | (simp; omega) | (have q0 := hb3.size; (try simp at q0); (try simp); omega))) | (with_reducible refine Below.drew ?_) | (with_reducible refine Below.drewN' ?_ _) | (with_reducible refine Below.trans ?_ (hb3.mono ?_); rotate_left; focus (first | (simp; done) | (simp; omega) | (have q0 := hb3.size; (try simp at q0); (try simp); omega)))))
    have VN := V2.on hbx (Nat.le_refl _)
    have k1 := hc3 w2.heap.size 0 (by simp; omega)
    have k2 := hc3 w2.heap.size 1 (by simp; omega)
    have k3 := hc3 (w2.heap.size + 1) 0 (by simp)
    have k4 := hc3 (w2.heap.size + 1) 1 (by simp)
    simp at k1 k2 k3 k4
    clear hc3 hf3 hb3
    have hbz := (hb1.trans (hb2.mono hb1.size)).trans (hbx.mono (by have := hb1.size; have := hb2.size; omega))
    clear hb1 hb2 hbx V1 V2 V
    generalize w2.heap.size = g at *
    go_wp2_with fail
    refine (writeN NS HTS.out _).mono ?_; rintro e wn ⟨rfl, hbn⟩
    replace k1 := cell_on hbn (by omega) k1; replace k2 := cell_on hbn (by omega) k2; replace k3 := cell_on hbn (by omega) k3; replace k4 := cell_on hbn (by omega) k4
    replace VN := VN.on hbn (Nat.le_refl _); replace hbz := hbz.trans (hbn.mono hbz.size)
    replace zn := Nat.lt_of_lt_of_le zn hbn.size; clear hbn
    go_wp2_with fail
    refine (writeN NA HTA.out _).mono ?_; rintro e wn ⟨rfl, hbn⟩
    replace k1 := cell_on hbn (by omega) k1; replace k2 := cell_on hbn (by omega) k2; replace k3 := cell_on hbn (by omega) k3; replace k4 := cell_on hbn (by omega) k4
    replace VN := VN.on hbn (Nat.le_refl _); replace hbz := hbz.trans (hbn.mono hbz.size)
    replace zn := Nat.lt_of_lt_of_le zn hbn.size; clear hbn
    go_wp2_with fail
    refine (textN HA.out HTA.out _ VN).mono ?_; rintro e wn ⟨rfl, hbn⟩
    replace k1 := cell_on hbn (by omega) k1; replace k2 := cell_on hbn (by omega) k2; replace k3 := cell_on hbn (by omega) k3; replace k4 := cell_on hbn (by omega) k4
    replace VN := VN.on hbn (Nat.le_refl _); replace hbz := hbz.trans (hbn.mono hbz.size)
    replace zn := Nat.lt_of_lt_of_le zn hbn.size; clear hbn
    go_wp2_with fail
    refine (plusN NB NA NS (by have := HS.out; omega) _).mono ?_; rintro e wn ⟨rfl, hbn⟩
    replace k1 := cell_on hbn (by omega) k1; replace k2 := cell_on hbn (by omega) k2; replace k3 := cell_on hbn (by omega) k3; replace k4 := cell_on hbn (by omega) k4
    replace VN := VN.on hbn (Nat.le_refl _); replace hbz := hbz.trans (hbn.mono hbz.size)
    replace zn := Nat.lt_of_lt_of_le zn hbn.size; clear hbn
    go_wp2_with fail
    refine (writeN NS HTS.out _).mono ?_; rintro e wn ⟨rfl, hbn⟩
    replace k1 := cell_on hbn (by omega) k1; replace k2 := cell_on hbn (by omega) k2; replace k3 := cell_on hbn (by omega) k3; replace k4 := cell_on hbn (by omega) k4
    replace VN := VN.on hbn (Nat.le_refl _); replace hbz := hbz.trans (hbn.mono hbz.size)
    replace zn := Nat.lt_of_lt_of_le zn hbn.size; clear hbn
    go_wp2_with fail
    have hp : p = true := ‹p = true›
    refine (textN (s := ts) HSF.out (by rw [hfs.out hp]; exact HTS.out) _ VN).mono ?_; rintro e wn ⟨rfl, hbn⟩
    replace k1 := cell_on hbn (by omega) k1; replace k2 := cell_on hbn (by omega) k2; replace k3 := cell_on hbn (by omega) k3; replace k4 := cell_on hbn (by omega) k4
    replace VN := VN.on hbn (Nat.le_refl _); replace hbz := hbz.trans (hbn.mono hbz.size)
    replace zn := Nat.lt_of_lt_of_le zn hbn.size; clear hbn
    go_wp2_with fail
    all_goals
      refine (lessN NA NB _).mono ?_; rintro e wn ⟨rfl, hbn⟩
      replace k1 := cell_on hbn (by omega) k1; replace k2 := cell_on hbn (by omega) k2; replace k3 := cell_on hbn (by omega) k3; replace k4 := cell_on hbn (by omega) k4
      replace VN := VN.on hbn (Nat.le_refl _); replace hbz := hbz.trans (hbn.mono hbz.size)
      replace zn := Nat.lt_of_lt_of_le zn hbn.size; clear hbn
      go_wp2_with fail
      refine (known_any _ VN).mono ?_; rintro e wn ⟨rfl, hbn⟩
      replace k1 := cell_on hbn (by omega) k1; replace k2 := cell_on hbn (by omega) k2; replace k3 := cell_on hbn (by omega) k3; replace k4 := cell_on hbn (by omega) k4
      replace VN := VN.on hbn (Nat.le_refl _); replace hbz := hbz.trans (hbn.mono hbz.size)
      replace zn := Nat.lt_of_lt_of_le zn hbn.size; clear hbn
      go_wp2
      go_ret
      exact ⟨rfl, hbz⟩
end Go.Proofs.YtggbnjdbbomjoaaDoor
