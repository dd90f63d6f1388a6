/- DigitsBack: the walk. -/
import Derived.Test.YtggbnjdbbomjoaaDoorNm
import Derived.Test.YtggbnjdbbomjoaaDoorReg
namespace Go.Proofs.YtggbnjdbbomjoaaDoor
open Go.RowKit
/-- two words of 64 bits hold v -/
def Rv (v h l : Int) : Prop := I64 h ∧ I64 l ∧ val h l = v
theorem Nv.raw {v h l : Int} (A : Nv v h l) : Rv v h l := by
  obtain ⟨hu, rfl, rfl⟩ := A; exact ⟨(norm_i64 hu).1, (norm_i64 hu).2, val_norm hu⟩
theorem plusR {u v s h l h' l' x y : Int} (A : Rv u h l) (B : Rv v h' l') (C : Nv s x y) (e : u + v = s) (w : World) : Calls Tryd.prog 24 #[two h l, two h' l'] w fun e w' => e = .returned (two x y) ∧ Below w.heap.size w w' := by
  obtain ⟨a1, a2, rfl⟩ := A; obtain ⟨b1, b2, rfl⟩ := B; obtain ⟨hs, rfl, rfl⟩ := C; subst e
  exact plus_any _ _ _ _ a1 a2 b1 b2 w
theorem minusR {u v s h l h' l' x y : Int} (A : Rv u h l) (B : Rv v h' l') (C : Nv s x y) (e : u - v = s) (w : World) : Calls Tryd.prog 25 #[two h l, two h' l'] w fun e w' => e = .returned (two x y) ∧ Below w.heap.size w w' := by
  obtain ⟨a1, a2, rfl⟩ := A; obtain ⟨b1, b2, rfl⟩ := B; obtain ⟨hs, rfl, rfl⟩ := C; subst e
  exact minus_any _ _ _ _ a1 a2 b1 b2 w
theorem normalR {u h l x y : Int} (A : Rv u h l) (C : Nv u x y) (w : World) : Calls Tryd.prog 23 #[two h l] w fun e w' => e = .returned (two x y) ∧ Below w.heap.size w w' := by
  obtain ⟨a1, a2, rfl⟩ := A; obtain ⟨hs, rfl, rfl⟩ := C
  exact normal_any _ _ a1 a2 w
theorem lessR {u v h l h' l' : Int} {t : Bool} (A : Rv u h l) (B : Rv v h' l') (e : decide (u < v) = t) (w : World) : Calls Tryd.prog 26 #[two h l, two h' l'] w fun e w' => e = .returned (.bool t) ∧ Below w.heap.size w w' := by
  obtain ⟨a1, a2, rfl⟩ := A; obtain ⟨b1, b2, rfl⟩ := B; subst e
  exact less_any _ _ _ _ a1 a2 b1 b2 w
def Bq (x : Int) : Prop := -1152921504606846976 ≤ x ∧ x ≤ 1152921504606846976
/-- within 2^123 -/
def Bv (v : Int) : Prop := -10633823966279326983230456482242756608 ≤ v ∧ v ≤ 10633823966279326983230456482242756608
theorem val_q {h l : Int} (a : Bq h) (b : I64 l) : Bv (val h l) := by
  obtain ⟨_, _⟩ := a; obtain ⟨_, _⟩ := b; unfold Bv val M62; omega
/-- of two numbers just one is less, unless they are one -/
theorem cmp3 {A B x0 x1 y0 y1 : Int} (NA : Nv A x0 x1) (NB : Nv B y0 y1) :
    (Hid (decide (A < B) = true ∧ decide (B < A) = false) ∧ ((x0 == y0) && (x1 == y1)) = false) ∨ (Hid (decide (A < B) = false ∧ decide (B < A) = true) ∧ ((x0 == y0) && (x1 == y1)) = false) ∨
    (Hid (decide (A < B) = false ∧ decide (B < A) = false) ∧ y0 = x0 ∧ y1 = x1) := by
  have e := nv_inj NA NB
  rcases (by omega : A < B ∨ B < A ∨ A = B) with h | h | h
  · left; exact ⟨Lib.hid ⟨by simpa using h, by simp; omega⟩, by rw [e, decide_eq_false_iff_not]; omega⟩
  · right; left; exact ⟨Lib.hid ⟨by simp; omega, by simpa using h⟩, by rw [e, decide_eq_false_iff_not]; omega⟩
  · right; right
    refine ⟨Lib.hid ⟨by simp; omega, by simp; omega⟩, ?_⟩
    subst h
    obtain ⟨_, rfl, rfl⟩ := NA; obtain ⟨_, rfl, rfl⟩ := NB
    exact ⟨rfl, rfl⟩
set_option maxRecDepth 100000 in
set_option maxHeartbeats 1000000 in
theorem digitsBack_any (a0 a1 b0 b1 c0 c1 : Int) (ha0 : I64 a0) (ha1 : I64 a1) (hb0 : I64 b0) (hb1 : I64 b1) (hc0 : I64 c0) (hc1 : I64 c1) (w : World) (V : Vars w) :
    Calls Tryd.prog 7 #[two a0 a1, two b0 b1, two c0 c1] w fun e w' => e = .returned (.bool true) ∧ Below w.heap.size w w' := by
  go_enter Tryd.func7, Tryd.ntmps7
  go_wp2_with fail
  obtain ⟨X, hX⟩ : ∃ X, X = ((((w.alloc (Obj.cells #[Value.int IntKind.i64 a0, Value.int IntKind.i64 a1] 41)).alloc (Obj.cells #[Value.int IntKind.i64 b0, Value.int IntKind.i64 b1] 41)).alloc (Obj.cells #[Value.int IntKind.i64 c0, Value.int IntKind.i64 c1] 41)).alloc (Obj.cells #[Value.int IntKind.i64 a0, Value.int IntKind.i64 a1, Value.int IntKind.i64 b0, Value.int IntKind.i64 b1, Value.int IntKind.i64 c0, Value.int IntKind.i64 c1] 51)) := ⟨_, rfl⟩
  have hbX : Below w.heap.size w X := by rw [hX]; (repeat (first | (with_reducible exact Below.refl _ _) | ((with_reducible refine Below.alloc ?_ ?_ _); rotate_left; focus (first | (simp; done) | (simp; omega))) | ((with_reducible refine Below.setCell ?_ ?_ _); rotate_left; focus (first | (simp; done) | (simp; omega))) | (with_reducible refine Below.drew ?_) | (with_reducible refine Below.drewN' ?_ _)))
  have VX := V.on hbX (Nat.le_refl _)
  have k1 : X.cell? ⟨w.heap.size, 0, none⟩ = some (.int .i64 a0) := by rw [hX]; simp [go_sem]
  have k2 : X.cell? ⟨w.heap.size, 1, none⟩ = some (.int .i64 a1) := by rw [hX]; simp [go_sem]
  have k3 : X.cell? ⟨w.heap.size + 1, 0, none⟩ = some (.int .i64 b0) := by rw [hX]; simp [go_sem]
  have k4 : X.cell? ⟨w.heap.size + 1, 1, none⟩ = some (.int .i64 b1) := by rw [hX]; simp [go_sem]
  have k5 : X.cell? ⟨w.heap.size + 1 + 1, 0, none⟩ = some (.int .i64 c0) := by rw [hX]; simp [go_sem]
  have k6 : X.cell? ⟨w.heap.size + 1 + 1, 1, none⟩ = some (.int .i64 c1) := by rw [hX]; simp [go_sem]
  have l0 : X.cell? ⟨w.heap.size + 1 + 1 + 1, 0, none⟩ = some (.int .i64 a0) := by rw [hX]; simp [go_sem]
  have l1 : X.cell? ⟨w.heap.size + 1 + 1 + 1, 2, none⟩ = some (.int .i64 b0) := by rw [hX]; simp [go_sem]
  have l2 : X.cell? ⟨w.heap.size + 1 + 1 + 1, 4, none⟩ = some (.int .i64 c0) := by rw [hX]; simp [go_sem]
  have zX : w.heap.size + 1 + 1 + 1 < X.heap.size := by rw [hX]; simp
  rw [← hX]
  clear hX
  have HA0 := Lib.hid ha0; have HA1 := Lib.hid ha1; have HB0 := Lib.hid hb0; have HB1 := Lib.hid hb1; have HC0 := Lib.hid hc0; have HC1 := Lib.hid hc1
  clear ha0 ha1 hb0 hb1 hc0 hc1
  go_loop [8] (fun vi => ∃ k : Nat, vi = .int .i64 k ∧ k ≤ 3 ∧ Hid ((1 ≤ k → Bq a0) ∧ (2 ≤ k → Bq b0) ∧ (3 ≤ k → Bq c0)))
    (fun vi => 3 - (intOf vi).toNat)
  case atStart => exact ⟨0, rfl, by omega, Lib.hid ⟨by omega, by omega, by omega⟩⟩
  case round =>
    obtain ⟨k, rfl, hk, hh⟩ := hrel
    rcases (by omega : k = 0 ∨ k = 1 ∨ k = 2 ∨ k = 3) with rfl | rfl | rfl | rfl
    · by_cases hq : -1152921504606846976 ≤ a0 ∧ a0 ≤ 1152921504606846976
      · have HN : Hid ((1 ≤ 1 → Bq a0) ∧ (2 ≤ 1 → Bq b0) ∧ (3 ≤ 1 → Bq c0)) := Lib.hid ⟨fun _ => hq, by omega, by omega⟩
        obtain ⟨hq1, hq2⟩ := hq
        go_wp2
        exact ⟨⟨1, rfl, by omega, HN⟩, by simp [intOf]⟩
      · have hq' : a0 < -1152921504606846976 ∨ 1152921504606846976 < a0 := by omega
        rcases hq' with hq' | hq'
        all_goals
          go_wp2_with fail
          refine (known_any X VX).mono ?_; rintro e w5 ⟨rfl, hb5⟩
          go_wp2
          go_ret
          exact ⟨rfl, hbX.trans (hb5.mono hbX.size)⟩
    · by_cases hq : -1152921504606846976 ≤ b0 ∧ b0 ≤ 1152921504606846976
      · have HN : Hid ((1 ≤ 2 → Bq a0) ∧ (2 ≤ 2 → Bq b0) ∧ (3 ≤ 2 → Bq c0)) := Lib.hid ⟨fun _ => hh.out.1 (by omega), fun _ => hq, by omega⟩
        obtain ⟨hq1, hq2⟩ := hq
        go_wp2
        exact ⟨⟨2, rfl, by omega, HN⟩, by simp [intOf]⟩
      · have hq' : b0 < -1152921504606846976 ∨ 1152921504606846976 < b0 := by omega
        rcases hq' with hq' | hq'
        all_goals
          go_wp2_with fail
          refine (known_any X VX).mono ?_; rintro e w5 ⟨rfl, hb5⟩
          go_wp2
          go_ret
          exact ⟨rfl, hbX.trans (hb5.mono hbX.size)⟩
    · by_cases hq : -1152921504606846976 ≤ c0 ∧ c0 ≤ 1152921504606846976
      · have HN : Hid ((1 ≤ 3 → Bq a0) ∧ (2 ≤ 3 → Bq b0) ∧ (3 ≤ 3 → Bq c0)) := Lib.hid ⟨fun _ => hh.out.1 (by omega), fun _ => hh.out.2.1 (by omega), fun _ => hq⟩
        obtain ⟨hq1, hq2⟩ := hq
        go_wp2
        exact ⟨⟨3, rfl, by omega, HN⟩, by simp [intOf]⟩
      · have hq' : c0 < -1152921504606846976 ∨ 1152921504606846976 < c0 := by omega
        rcases hq' with hq' | hq'
        all_goals
          go_wp2_with fail
          refine (known_any X VX).mono ?_; rintro e w5 ⟨rfl, hb5⟩
          go_wp2
          go_ret
          exact ⟨rfl, hbX.trans (hb5.mono hbX.size)⟩
    · obtain ⟨A1, A2, A3⟩ := hh.out
      replace A1 := Lib.hid (A1 (by omega)); replace A2 := Lib.hid (A2 (by omega)); replace A3 := Lib.hid (A3 (by omega))
      clear hh hk l0 l1 l2
      have RA : Rv (val a0 a1) a0 a1 := ⟨HA0.out, HA1.out, rfl⟩
      have RB : Rv (val b0 b1) b0 b1 := ⟨HB0.out, HB1.out, rfl⟩
      have RC : Rv (val c0 c1) c0 c1 := ⟨HC0.out, HC1.out, rfl⟩
      have bA := val_q A1.out HA1.out; have bB := val_q A2.out HB1.out; have bC := val_q A3.out HC1.out
      generalize val a0 a1 = A at *; generalize val b0 b1 = B at *; generalize val c0 c1 = C at *
      obtain ⟨s0, s1, NS⟩ := nv_ex (v := A + B) (by obtain ⟨_, _⟩ := bA; obtain ⟨_, _⟩ := bB; unfold Rng; omega)
      obtain ⟨t0, t1, NT⟩ := nv_ex (v := B + C) (by obtain ⟨_, _⟩ := bB; obtain ⟨_, _⟩ := bC; unfold Rng; omega)
      obtain ⟨u0, u1, NU⟩ := nv_ex (v := A + B + C) (by obtain ⟨_, _⟩ := bA; obtain ⟨_, _⟩ := bB; obtain ⟨_, _⟩ := bC; unfold Rng; omega)
      obtain ⟨x0, x1, NA⟩ := nv_ex (v := A) (by obtain ⟨_, _⟩ := bA; unfold Rng; omega)
      obtain ⟨y0, y1, NB⟩ := nv_ex (v := B) (by obtain ⟨_, _⟩ := bB; unfold Rng; omega)
      have hcs := cmp3 NA NB
      clear bA bB bC A1 A2 A3 HA0 HA1 HB0 HB1 HC0 HC1
      go_wp2_with fail
      refine (plusR RA RB NS rfl _).mono ?_; rintro e w5 ⟨rfl, hb5⟩
      replace k1 := cell_on hb5 (by omega) k1; replace k2 := cell_on hb5 (by omega) k2; replace k3 := cell_on hb5 (by omega) k3; replace k4 := cell_on hb5 (by omega) k4; replace k5 := cell_on hb5 (by omega) k5; replace k6 := cell_on hb5 (by omega) k6
      replace VX := VX.on hb5 (Nat.le_refl _); replace hbX := hbX.trans (hb5.mono hbX.size)
      have zw : w.heap.size + 1 + 1 + 1 < w5.heap.size := Nat.lt_of_lt_of_le zX hb5.size
      obtain ⟨Y, hY⟩ : ∃ Y, Y = w5.alloc (Obj.cells #[Value.int IntKind.i64 s0, Value.int IntKind.i64 s1] 41) := ⟨_, rfl⟩
      have k7 : Y.cell? ⟨w5.heap.size, 0, none⟩ = some (.int .i64 s0) := by rw [hY]; simp [go_sem]
      have k8 : Y.cell? ⟨w5.heap.size, 1, none⟩ = some (.int .i64 s1) := by rw [hY]; simp [go_sem]
      have hb6 : Below w5.heap.size w5 Y := by rw [hY]; (repeat (first | (with_reducible exact Below.refl _ _) | ((with_reducible refine Below.alloc ?_ ?_ _); rotate_left; focus (first | (simp; done) | (simp; omega))) | ((with_reducible refine Below.setCell ?_ ?_ _); rotate_left; focus (first | (simp; done) | (simp; omega))) | (with_reducible refine Below.drew ?_) | (with_reducible refine Below.drewN' ?_ _)))
      replace k1 := cell_on hb6 (by omega) k1
      replace k2 := cell_on hb6 (by omega) k2
      replace k3 := cell_on hb6 (by omega) k3
      replace k4 := cell_on hb6 (by omega) k4
      replace k5 := cell_on hb6 (by omega) k5
      replace k6 := cell_on hb6 (by omega) k6
      replace VX := VX.on hb6 (Nat.le_refl _); replace hbX := hbX.trans (hb6.mono hbX.size)
      have zY : w5.heap.size < Y.heap.size := by rw [hY]; simp
      have z1 : w.heap.size < Y.heap.size := by have := hb6.size; omega
      have z2 : w.heap.size + 1 < Y.heap.size := by have := hb6.size; omega
      have z3 : w.heap.size + 1 + 1 < Y.heap.size := by have := hb6.size; omega
      clear hb5 zX hb6
      go_wp2_with fail
      rw [← hY]
      clear hY
      generalize w5.heap.size = g at *
      rcases hcs with ⟨hc, he⟩ | ⟨hc, he⟩ | ⟨hc, rfl, rfl⟩
      all_goals
        refine wp_region_below_tail 6 (by kernel_rfl) (by kernel_rfl) ?_
        simp only [List.take_succ_cons, List.take_zero]
        (refine wq_val (by rfl) (fun w' hw' => by obtain ⟨hc, hf⟩ := bcell hw'; go_simp; try rfl) ?_; (intro K hK; go_simp; refine hK _ ?_; clear hK K))
        (refine wq_val (by rfl) (fun w' hw' => by obtain ⟨hc, hf⟩ := bcell hw'; go_simp; try rfl) ?_; (intro K hK; go_simp; refine hK _ ?_; clear hK K))
        (refine wq_call (by rfl) (fun w' hw' => by go_simp; try rfl) (fun w' hw' => call_below hw' (lessR RA RB hc.out.1 w')) ?_; (intro K hK; go_simp; refine hK _ ?_; clear hK K))
        (refine wq_val (by rfl) (fun w' hw' => by obtain ⟨hc, hf⟩ := bcell hw'; go_simp; try rfl) ?_; (intro K hK; go_simp; refine hK _ ?_; clear hK K))
        (refine wq_val (by rfl) (fun w' hw' => by obtain ⟨hc, hf⟩ := bcell hw'; go_simp; try rfl) ?_; (intro K hK; go_simp; refine hK _ ?_; clear hK K))
        (refine wq_call (by rfl) (fun w' hw' => by go_simp; try rfl) (fun w' hw' => call_below hw' (lessR RB RA hc.out.2 w')) ?_; (intro K hK; go_simp; refine hK _ ?_; clear hK K))
        refine wpQuiet_nil ?_
        intro w7 hb7
        simp only [List.drop_succ_cons, List.drop_zero]
        replace k7 := cell_on hb7 (by omega) k7; replace k8 := cell_on hb7 (by omega) k8
        replace k1 := cell_on hb7 (by omega) k1
        replace k2 := cell_on hb7 (by omega) k2
        replace k3 := cell_on hb7 (by omega) k3
        replace k4 := cell_on hb7 (by omega) k4
        replace k5 := cell_on hb7 (by omega) k5
        replace k6 := cell_on hb7 (by omega) k6
        replace VX := VX.on hb7 (Nat.le_refl _); replace hbX := hbX.trans (hb7.mono hbX.size)
        replace zY := Nat.lt_of_lt_of_le zY hb7.size
        replace z1 := Nat.lt_of_lt_of_le z1 hb7.size; replace z2 := Nat.lt_of_lt_of_le z2 hb7.size; replace z3 := Nat.lt_of_lt_of_le z3 hb7.size
        clear hb7
        go_wp2
        refine wp_region_below_tail 48 (by kernel_rfl) (by kernel_rfl) ?_
        simp only [List.take_succ_cons, List.take_zero]
      · (refine wq_val (by rfl) (fun w' hw' => by obtain ⟨hc, hf⟩ := bcell hw'; go_simp; try rfl) ?_; (intro K hK; go_simp; refine hK _ ?_; clear hK K))
        (refine wq_val (by rfl) (fun w' hw' => by obtain ⟨hc, hf⟩ := bcell hw'; go_simp; try rfl) ?_; (intro K hK; go_simp; refine hK _ ?_; clear hK K))
        (refine wq_call (by rfl) (fun w' hw' => by go_simp; try rfl) (fun w' hw' => call_below hw' (minusR NS.raw RB NA (by omega) w')) ?_; (intro K hK; go_simp; refine hK _ ?_; clear hK K))
        (refine wq_val (by rfl) (fun w' hw' => by obtain ⟨hc, hf⟩ := bcell hw'; go_simp; try rfl) ?_; (intro K hK; go_simp; refine hK _ ?_; clear hK K))
        (refine wq_call (by rfl) (fun w' hw' => by go_simp; try rfl) (fun w' hw' => call_below hw' (normalR RA NA w')) ?_; (intro K hK; go_simp; refine hK _ ?_; clear hK K))
        (refine wq_val (by rfl) (fun w' hw' => by obtain ⟨hc, hf⟩ := bcell hw'; go_simp; try rfl) ?_; (intro K hK; go_simp; refine hK _ ?_; clear hK K))
        (refine wq_val (by rfl) (fun w' hw' => by obtain ⟨hc, hf⟩ := bcell hw'; go_simp; try rfl) ?_; (intro K hK; go_simp; refine hK _ ?_; clear hK K))
        (refine wq_val (by rfl) (fun w' hw' => by obtain ⟨hc, hf⟩ := bcell hw'; go_simp; try rfl) ?_; (intro K hK; go_simp; refine hK _ ?_; clear hK K))
        (refine wq_val (by rfl) (fun w' hw' => by obtain ⟨hc, hf⟩ := bcell hw'; go_simp; try rfl) ?_; (intro K hK; go_simp; refine hK _ ?_; clear hK K))
        (refine wq_val (by rfl) (fun w' hw' => by obtain ⟨hc, hf⟩ := bcell hw'; go_simp; try rfl) ?_; (intro K hK; go_simp; refine hK _ ?_; clear hK K))
        (refine wq_call (by rfl) (fun w' hw' => by go_simp; try rfl) (fun w' hw' => call_below hw' (plusR RB RA NS (by omega) w')) ?_; (intro K hK; go_simp; refine hK _ ?_; clear hK K))
        (refine wq_val (by rfl) (fun w' hw' => by obtain ⟨hc, hf⟩ := bcell hw'; go_simp; try rfl) ?_; (intro K hK; go_simp; refine hK _ ?_; clear hK K))
        (refine wq_val (by rfl) (fun w' hw' => by obtain ⟨hc, hf⟩ := bcell hw'; go_simp; try rfl) ?_; (intro K hK; go_simp; refine hK _ ?_; clear hK K))
        (refine wq_val (by rfl) (fun w' hw' => by obtain ⟨hc, hf⟩ := bcell hw'; go_simp; try rfl) ?_; (intro K hK; go_simp; refine hK _ ?_; clear hK K))
        (refine wq_val (by rfl) (fun w' hw' => by obtain ⟨hc, hf⟩ := bcell hw'; go_simp; try rfl) ?_; (intro K hK; go_simp; refine hK _ ?_; clear hK K))
        (refine wq_val (by rfl) (fun w' hw' => by obtain ⟨hc, hf⟩ := bcell hw'; go_simp; try rfl) ?_; (intro K hK; go_simp; refine hK _ ?_; clear hK K))
        (refine wq_call (by rfl) (fun w' hw' => by go_simp; try rfl) (fun w' hw' => call_below hw' (plusR NS.raw RC NU rfl w')) ?_; (intro K hK; go_simp; refine hK _ ?_; clear hK K))
        (refine wq_val (by rfl) (fun w' hw' => by obtain ⟨hc, hf⟩ := bcell hw'; go_simp; try rfl) ?_; (intro K hK; go_simp; refine hK _ ?_; clear hK K))
        (refine wq_val (by rfl) (fun w' hw' => by obtain ⟨hc, hf⟩ := bcell hw'; go_simp; try rfl) ?_; (intro K hK; go_simp; refine hK _ ?_; clear hK K))
        (refine wq_val (by rfl) (fun w' hw' => by obtain ⟨hc, hf⟩ := bcell hw'; go_simp; try rfl) ?_; (intro K hK; go_simp; refine hK _ ?_; clear hK K))
        (refine wq_call (by rfl) (fun w' hw' => by go_simp; try rfl) (fun w' hw' => call_below hw' (plusR RB RC NT rfl w')) ?_; (intro K hK; go_simp; refine hK _ ?_; clear hK K))
        (refine wq_call (by rfl) (fun w' hw' => by go_simp; try rfl) (fun w' hw' => call_below hw' (plusR RA NT.raw NU (by omega) w')) ?_; (intro K hK; go_simp; refine hK _ ?_; clear hK K))
        (refine wq_val (by rfl) (fun w' hw' => by obtain ⟨hc, hf⟩ := bcell hw'; go_simp; try rfl) ?_; (intro K hK; go_simp; refine hK _ ?_; clear hK K))
        (refine wq_val (by rfl) (fun w' hw' => by obtain ⟨hc, hf⟩ := bcell hw'; go_simp; try rfl) ?_; (intro K hK; go_simp; refine hK _ ?_; clear hK K))
        (refine wq_val (by rfl) (fun w' hw' => by obtain ⟨hc, hf⟩ := bcell hw'; go_simp; try rfl) ?_; (intro K hK; go_simp; refine hK _ ?_; clear hK K))
        (refine wq_val (by rfl) (fun w' hw' => by obtain ⟨hc, hf⟩ := bcell hw'; go_simp; try rfl) ?_; (intro K hK; go_simp; refine hK _ ?_; clear hK K))
        (refine wq_val (by rfl) (fun w' hw' => by obtain ⟨hc, hf⟩ := bcell hw'; go_simp; try rfl) ?_; (intro K hK; go_simp; refine hK _ ?_; clear hK K))
        (refine wq_val (by rfl) (fun w' hw' => by obtain ⟨hc, hf⟩ := bcell hw'; go_simp; try rfl) ?_; (intro K hK; go_simp; refine hK _ ?_; clear hK K))
        (refine wq_val (by rfl) (fun w' hw' => by obtain ⟨hc, hf⟩ := bcell hw'; go_simp; try rfl) ?_; (intro K hK; go_simp; refine hK _ ?_; clear hK K))
        (refine wq_val (by rfl) (fun w' hw' => by obtain ⟨hc, hf⟩ := bcell hw'; go_simp; try rfl) ?_; (intro K hK; go_simp; refine hK _ ?_; clear hK K))
        (refine wq_val (by rfl) (fun w' hw' => by obtain ⟨hc, hf⟩ := bcell hw'; go_simp; try rfl) ?_; (intro K hK; go_simp; refine hK _ ?_; clear hK K))
        (refine wq_val (by rfl) (fun w' hw' => by obtain ⟨hc, hf⟩ := bcell hw'; go_simp; try rfl) ?_; (intro K hK; go_simp; refine hK _ ?_; clear hK K))
        (refine wq_val (by rfl) (fun w' hw' => by obtain ⟨hc, hf⟩ := bcell hw'; go_simp; try rfl) ?_; (intro K hK; go_simp; refine hK _ ?_; clear hK K))
        (refine wq_val (by rfl) (fun w' hw' => by obtain ⟨hc, hf⟩ := bcell hw'; go_simp; try rfl) ?_; (intro K hK; go_simp; refine hK _ ?_; clear hK K))
        (refine wq_val (by rfl) (fun w' hw' => by obtain ⟨hc, hf⟩ := bcell hw'; go_simp; try rfl) ?_; (intro K hK; go_simp; refine hK _ ?_; clear hK K))
        (refine wq_skip (by rfl) ?_; (intro K hK; go_simp; refine hK _ ?_; clear hK K))
        (refine wq_skip (by rfl) ?_; (intro K hK; go_simp; refine hK _ ?_; clear hK K))
        (refine wq_val (by rfl) (fun w' hw' => by obtain ⟨hc, hf⟩ := bcell hw'; go_simp; try rfl) ?_; (intro K hK; go_simp; refine hK _ ?_; clear hK K))
        (refine wq_val (by rfl) (fun w' hw' => by obtain ⟨hc, hf⟩ := bcell hw'; go_simp; try rfl) ?_; (intro K hK; go_simp; refine hK _ ?_; clear hK K))
        (refine wq_call (by rfl) (fun w' hw' => by go_simp; try rfl) (fun w' hw' => call_below hw' (normalR RA NA w')) ?_; (intro K hK; go_simp; refine hK _ ?_; clear hK K))
        (refine wq_val (by rfl) (fun w' hw' => by obtain ⟨hc, hf⟩ := bcell hw'; go_simp; try rfl) ?_; (intro K hK; go_simp; refine hK _ ?_; clear hK K))
        (refine wq_call (by rfl) (fun w' hw' => by go_simp; try rfl) (fun w' hw' => call_below hw' (normalR RB NB w')) ?_; (intro K hK; go_simp; refine hK _ ?_; clear hK K))
        (refine wq_val (v := .bool false) (by rfl) (fun w' hw' => by (obtain ⟨hc, hf⟩ := bcell hw'; go_simp; simpa using he)) ?_; (intro K hK; go_simp; refine hK _ ?_; clear hK K))
        (refine wq_val (by rfl) (fun w' hw' => by obtain ⟨hc, hf⟩ := bcell hw'; go_simp; try rfl) ?_; (intro K hK; go_simp; refine hK _ ?_; clear hK K))
        (refine wq_val (by rfl) (fun w' hw' => by obtain ⟨hc, hf⟩ := bcell hw'; go_simp; try rfl) ?_; (intro K hK; go_simp; refine hK _ ?_; clear hK K))
        (refine wq_val (by rfl) (fun w' hw' => by obtain ⟨hc, hf⟩ := bcell hw'; go_simp; try rfl) ?_; (intro K hK; go_simp; refine hK _ ?_; clear hK K))
        (refine wq_call (by rfl) (fun w' hw' => by go_simp; try rfl) (fun w' hw' => call_below hw' (known_any w' (VX.on hw' (Nat.le_refl _)))) ?_; (intro K hK; go_simp; refine hK _ ?_; clear hK K))
        (refine wq_val (by rfl) (fun w' hw' => by obtain ⟨hc, hf⟩ := bcell hw'; go_simp; try rfl) ?_; (intro K hK; go_simp; refine hK _ ?_; clear hK K))
        refine wpQuiet_nil ?_
        intro w9 hb9
        simp only [List.drop_succ_cons, List.drop_zero]
        go_wp2
        go_ret
        exact ⟨rfl, hbX.trans (hb9.mono hbX.size)⟩
      · (refine wq_val (by rfl) (fun w' hw' => by obtain ⟨hc, hf⟩ := bcell hw'; go_simp; try rfl) ?_; (intro K hK; go_simp; refine hK _ ?_; clear hK K))
        (refine wq_val (by rfl) (fun w' hw' => by obtain ⟨hc, hf⟩ := bcell hw'; go_simp; try rfl) ?_; (intro K hK; go_simp; refine hK _ ?_; clear hK K))
        (refine wq_call (by rfl) (fun w' hw' => by go_simp; try rfl) (fun w' hw' => call_below hw' (minusR NS.raw RB NA (by omega) w')) ?_; (intro K hK; go_simp; refine hK _ ?_; clear hK K))
        (refine wq_val (by rfl) (fun w' hw' => by obtain ⟨hc, hf⟩ := bcell hw'; go_simp; try rfl) ?_; (intro K hK; go_simp; refine hK _ ?_; clear hK K))
        (refine wq_call (by rfl) (fun w' hw' => by go_simp; try rfl) (fun w' hw' => call_below hw' (normalR RA NA w')) ?_; (intro K hK; go_simp; refine hK _ ?_; clear hK K))
        (refine wq_val (by rfl) (fun w' hw' => by obtain ⟨hc, hf⟩ := bcell hw'; go_simp; try rfl) ?_; (intro K hK; go_simp; refine hK _ ?_; clear hK K))
        (refine wq_val (by rfl) (fun w' hw' => by obtain ⟨hc, hf⟩ := bcell hw'; go_simp; try rfl) ?_; (intro K hK; go_simp; refine hK _ ?_; clear hK K))
        (refine wq_val (by rfl) (fun w' hw' => by obtain ⟨hc, hf⟩ := bcell hw'; go_simp; try rfl) ?_; (intro K hK; go_simp; refine hK _ ?_; clear hK K))
        (refine wq_val (by rfl) (fun w' hw' => by obtain ⟨hc, hf⟩ := bcell hw'; go_simp; try rfl) ?_; (intro K hK; go_simp; refine hK _ ?_; clear hK K))
        (refine wq_val (by rfl) (fun w' hw' => by obtain ⟨hc, hf⟩ := bcell hw'; go_simp; try rfl) ?_; (intro K hK; go_simp; refine hK _ ?_; clear hK K))
        (refine wq_call (by rfl) (fun w' hw' => by go_simp; try rfl) (fun w' hw' => call_below hw' (plusR RB RA NS (by omega) w')) ?_; (intro K hK; go_simp; refine hK _ ?_; clear hK K))
        (refine wq_val (by rfl) (fun w' hw' => by obtain ⟨hc, hf⟩ := bcell hw'; go_simp; try rfl) ?_; (intro K hK; go_simp; refine hK _ ?_; clear hK K))
        (refine wq_val (by rfl) (fun w' hw' => by obtain ⟨hc, hf⟩ := bcell hw'; go_simp; try rfl) ?_; (intro K hK; go_simp; refine hK _ ?_; clear hK K))
        (refine wq_val (by rfl) (fun w' hw' => by obtain ⟨hc, hf⟩ := bcell hw'; go_simp; try rfl) ?_; (intro K hK; go_simp; refine hK _ ?_; clear hK K))
        (refine wq_val (by rfl) (fun w' hw' => by obtain ⟨hc, hf⟩ := bcell hw'; go_simp; try rfl) ?_; (intro K hK; go_simp; refine hK _ ?_; clear hK K))
        (refine wq_val (by rfl) (fun w' hw' => by obtain ⟨hc, hf⟩ := bcell hw'; go_simp; try rfl) ?_; (intro K hK; go_simp; refine hK _ ?_; clear hK K))
        (refine wq_call (by rfl) (fun w' hw' => by go_simp; try rfl) (fun w' hw' => call_below hw' (plusR NS.raw RC NU rfl w')) ?_; (intro K hK; go_simp; refine hK _ ?_; clear hK K))
        (refine wq_val (by rfl) (fun w' hw' => by obtain ⟨hc, hf⟩ := bcell hw'; go_simp; try rfl) ?_; (intro K hK; go_simp; refine hK _ ?_; clear hK K))
        (refine wq_val (by rfl) (fun w' hw' => by obtain ⟨hc, hf⟩ := bcell hw'; go_simp; try rfl) ?_; (intro K hK; go_simp; refine hK _ ?_; clear hK K))
        (refine wq_val (by rfl) (fun w' hw' => by obtain ⟨hc, hf⟩ := bcell hw'; go_simp; try rfl) ?_; (intro K hK; go_simp; refine hK _ ?_; clear hK K))
        (refine wq_call (by rfl) (fun w' hw' => by go_simp; try rfl) (fun w' hw' => call_below hw' (plusR RB RC NT rfl w')) ?_; (intro K hK; go_simp; refine hK _ ?_; clear hK K))
        (refine wq_call (by rfl) (fun w' hw' => by go_simp; try rfl) (fun w' hw' => call_below hw' (plusR RA NT.raw NU (by omega) w')) ?_; (intro K hK; go_simp; refine hK _ ?_; clear hK K))
        (refine wq_val (by rfl) (fun w' hw' => by obtain ⟨hc, hf⟩ := bcell hw'; go_simp; try rfl) ?_; (intro K hK; go_simp; refine hK _ ?_; clear hK K))
        (refine wq_val (by rfl) (fun w' hw' => by obtain ⟨hc, hf⟩ := bcell hw'; go_simp; try rfl) ?_; (intro K hK; go_simp; refine hK _ ?_; clear hK K))
        (refine wq_val (by rfl) (fun w' hw' => by obtain ⟨hc, hf⟩ := bcell hw'; go_simp; try rfl) ?_; (intro K hK; go_simp; refine hK _ ?_; clear hK K))
        (refine wq_val (by rfl) (fun w' hw' => by obtain ⟨hc, hf⟩ := bcell hw'; go_simp; try rfl) ?_; (intro K hK; go_simp; refine hK _ ?_; clear hK K))
        (refine wq_val (by rfl) (fun w' hw' => by obtain ⟨hc, hf⟩ := bcell hw'; go_simp; try rfl) ?_; (intro K hK; go_simp; refine hK _ ?_; clear hK K))
        (refine wq_skip (by rfl) ?_; (intro K hK; go_simp; refine hK _ ?_; clear hK K))
        (refine wq_val (by rfl) (fun w' hw' => by obtain ⟨hc, hf⟩ := bcell hw'; go_simp; try rfl) ?_; (intro K hK; go_simp; refine hK _ ?_; clear hK K))
        (refine wq_val (by rfl) (fun w' hw' => by obtain ⟨hc, hf⟩ := bcell hw'; go_simp; try rfl) ?_; (intro K hK; go_simp; refine hK _ ?_; clear hK K))
        (refine wq_val (by rfl) (fun w' hw' => by obtain ⟨hc, hf⟩ := bcell hw'; go_simp; try rfl) ?_; (intro K hK; go_simp; refine hK _ ?_; clear hK K))
        (refine wq_val (by rfl) (fun w' hw' => by obtain ⟨hc, hf⟩ := bcell hw'; go_simp; try rfl) ?_; (intro K hK; go_simp; refine hK _ ?_; clear hK K))
        (refine wq_val (by rfl) (fun w' hw' => by obtain ⟨hc, hf⟩ := bcell hw'; go_simp; try rfl) ?_; (intro K hK; go_simp; refine hK _ ?_; clear hK K))
        (refine wq_val (by rfl) (fun w' hw' => by obtain ⟨hc, hf⟩ := bcell hw'; go_simp; try rfl) ?_; (intro K hK; go_simp; refine hK _ ?_; clear hK K))
        (refine wq_val (by rfl) (fun w' hw' => by obtain ⟨hc, hf⟩ := bcell hw'; go_simp; try rfl) ?_; (intro K hK; go_simp; refine hK _ ?_; clear hK K))
        (refine wq_val (by rfl) (fun w' hw' => by obtain ⟨hc, hf⟩ := bcell hw'; go_simp; try rfl) ?_; (intro K hK; go_simp; refine hK _ ?_; clear hK K))
        (refine wq_val (by rfl) (fun w' hw' => by obtain ⟨hc, hf⟩ := bcell hw'; go_simp; try rfl) ?_; (intro K hK; go_simp; refine hK _ ?_; clear hK K))
        (refine wq_val (by rfl) (fun w' hw' => by obtain ⟨hc, hf⟩ := bcell hw'; go_simp; try rfl) ?_; (intro K hK; go_simp; refine hK _ ?_; clear hK K))
        (refine wq_val (by rfl) (fun w' hw' => by obtain ⟨hc, hf⟩ := bcell hw'; go_simp; try rfl) ?_; (intro K hK; go_simp; refine hK _ ?_; clear hK K))
        (refine wq_call (by rfl) (fun w' hw' => by go_simp; try rfl) (fun w' hw' => call_below hw' (normalR RA NA w')) ?_; (intro K hK; go_simp; refine hK _ ?_; clear hK K))
        (refine wq_val (by rfl) (fun w' hw' => by obtain ⟨hc, hf⟩ := bcell hw'; go_simp; try rfl) ?_; (intro K hK; go_simp; refine hK _ ?_; clear hK K))
        (refine wq_call (by rfl) (fun w' hw' => by go_simp; try rfl) (fun w' hw' => call_below hw' (normalR RB NB w')) ?_; (intro K hK; go_simp; refine hK _ ?_; clear hK K))
        (refine wq_val (v := .bool false) (by rfl) (fun w' hw' => by (obtain ⟨hc, hf⟩ := bcell hw'; go_simp; simpa using he)) ?_; (intro K hK; go_simp; refine hK _ ?_; clear hK K))
        (refine wq_val (by rfl) (fun w' hw' => by obtain ⟨hc, hf⟩ := bcell hw'; go_simp; try rfl) ?_; (intro K hK; go_simp; refine hK _ ?_; clear hK K))
        (refine wq_val (by rfl) (fun w' hw' => by obtain ⟨hc, hf⟩ := bcell hw'; go_simp; try rfl) ?_; (intro K hK; go_simp; refine hK _ ?_; clear hK K))
        (refine wq_val (by rfl) (fun w' hw' => by obtain ⟨hc, hf⟩ := bcell hw'; go_simp; try rfl) ?_; (intro K hK; go_simp; refine hK _ ?_; clear hK K))
        (refine wq_call (by rfl) (fun w' hw' => by go_simp; try rfl) (fun w' hw' => call_below hw' (known_any w' (VX.on hw' (Nat.le_refl _)))) ?_; (intro K hK; go_simp; refine hK _ ?_; clear hK K))
        (refine wq_val (by rfl) (fun w' hw' => by obtain ⟨hc, hf⟩ := bcell hw'; go_simp; try rfl) ?_; (intro K hK; go_simp; refine hK _ ?_; clear hK K))
        refine wpQuiet_nil ?_
        intro w9 hb9
        simp only [List.drop_succ_cons, List.drop_zero]
        go_wp2
        go_ret
        exact ⟨rfl, hbX.trans (hb9.mono hbX.size)⟩
      · (refine wq_val (by rfl) (fun w' hw' => by obtain ⟨hc, hf⟩ := bcell hw'; go_simp; try rfl) ?_; (intro K hK; go_simp; refine hK _ ?_; clear hK K))
        (refine wq_val (by rfl) (fun w' hw' => by obtain ⟨hc, hf⟩ := bcell hw'; go_simp; try rfl) ?_; (intro K hK; go_simp; refine hK _ ?_; clear hK K))
        (refine wq_call (by rfl) (fun w' hw' => by go_simp; try rfl) (fun w' hw' => call_below hw' (minusR NS.raw RB NA (by omega) w')) ?_; (intro K hK; go_simp; refine hK _ ?_; clear hK K))
        (refine wq_val (by rfl) (fun w' hw' => by obtain ⟨hc, hf⟩ := bcell hw'; go_simp; try rfl) ?_; (intro K hK; go_simp; refine hK _ ?_; clear hK K))
        (refine wq_call (by rfl) (fun w' hw' => by go_simp; try rfl) (fun w' hw' => call_below hw' (normalR RA NA w')) ?_; (intro K hK; go_simp; refine hK _ ?_; clear hK K))
        (refine wq_val (by rfl) (fun w' hw' => by obtain ⟨hc, hf⟩ := bcell hw'; go_simp; try rfl) ?_; (intro K hK; go_simp; refine hK _ ?_; clear hK K))
        (refine wq_val (by rfl) (fun w' hw' => by obtain ⟨hc, hf⟩ := bcell hw'; go_simp; try rfl) ?_; (intro K hK; go_simp; refine hK _ ?_; clear hK K))
        (refine wq_val (by rfl) (fun w' hw' => by obtain ⟨hc, hf⟩ := bcell hw'; go_simp; try rfl) ?_; (intro K hK; go_simp; refine hK _ ?_; clear hK K))
        (refine wq_val (by rfl) (fun w' hw' => by obtain ⟨hc, hf⟩ := bcell hw'; go_simp; try rfl) ?_; (intro K hK; go_simp; refine hK _ ?_; clear hK K))
        (refine wq_val (by rfl) (fun w' hw' => by obtain ⟨hc, hf⟩ := bcell hw'; go_simp; try rfl) ?_; (intro K hK; go_simp; refine hK _ ?_; clear hK K))
        (refine wq_call (by rfl) (fun w' hw' => by go_simp; try rfl) (fun w' hw' => call_below hw' (plusR RB RA NS (by omega) w')) ?_; (intro K hK; go_simp; refine hK _ ?_; clear hK K))
        (refine wq_val (by rfl) (fun w' hw' => by obtain ⟨hc, hf⟩ := bcell hw'; go_simp; try rfl) ?_; (intro K hK; go_simp; refine hK _ ?_; clear hK K))
        (refine wq_val (by rfl) (fun w' hw' => by obtain ⟨hc, hf⟩ := bcell hw'; go_simp; try rfl) ?_; (intro K hK; go_simp; refine hK _ ?_; clear hK K))
        (refine wq_val (by rfl) (fun w' hw' => by obtain ⟨hc, hf⟩ := bcell hw'; go_simp; try rfl) ?_; (intro K hK; go_simp; refine hK _ ?_; clear hK K))
        (refine wq_val (by rfl) (fun w' hw' => by obtain ⟨hc, hf⟩ := bcell hw'; go_simp; try rfl) ?_; (intro K hK; go_simp; refine hK _ ?_; clear hK K))
        (refine wq_val (by rfl) (fun w' hw' => by obtain ⟨hc, hf⟩ := bcell hw'; go_simp; try rfl) ?_; (intro K hK; go_simp; refine hK _ ?_; clear hK K))
        (refine wq_call (by rfl) (fun w' hw' => by go_simp; try rfl) (fun w' hw' => call_below hw' (plusR NS.raw RC NU rfl w')) ?_; (intro K hK; go_simp; refine hK _ ?_; clear hK K))
        (refine wq_val (by rfl) (fun w' hw' => by obtain ⟨hc, hf⟩ := bcell hw'; go_simp; try rfl) ?_; (intro K hK; go_simp; refine hK _ ?_; clear hK K))
        (refine wq_val (by rfl) (fun w' hw' => by obtain ⟨hc, hf⟩ := bcell hw'; go_simp; try rfl) ?_; (intro K hK; go_simp; refine hK _ ?_; clear hK K))
        (refine wq_val (by rfl) (fun w' hw' => by obtain ⟨hc, hf⟩ := bcell hw'; go_simp; try rfl) ?_; (intro K hK; go_simp; refine hK _ ?_; clear hK K))
        (refine wq_call (by rfl) (fun w' hw' => by go_simp; try rfl) (fun w' hw' => call_below hw' (plusR RB RC NT rfl w')) ?_; (intro K hK; go_simp; refine hK _ ?_; clear hK K))
        (refine wq_call (by rfl) (fun w' hw' => by go_simp; try rfl) (fun w' hw' => call_below hw' (plusR RA NT.raw NU (by omega) w')) ?_; (intro K hK; go_simp; refine hK _ ?_; clear hK K))
        (refine wq_val (by rfl) (fun w' hw' => by obtain ⟨hc, hf⟩ := bcell hw'; go_simp; try rfl) ?_; (intro K hK; go_simp; refine hK _ ?_; clear hK K))
        (refine wq_val (by rfl) (fun w' hw' => by obtain ⟨hc, hf⟩ := bcell hw'; go_simp; try rfl) ?_; (intro K hK; go_simp; refine hK _ ?_; clear hK K))
        (refine wq_val (by rfl) (fun w' hw' => by obtain ⟨hc, hf⟩ := bcell hw'; go_simp; try rfl) ?_; (intro K hK; go_simp; refine hK _ ?_; clear hK K))
        (refine wq_val (by rfl) (fun w' hw' => by obtain ⟨hc, hf⟩ := bcell hw'; go_simp; try rfl) ?_; (intro K hK; go_simp; refine hK _ ?_; clear hK K))
        (refine wq_val (by rfl) (fun w' hw' => by obtain ⟨hc, hf⟩ := bcell hw'; go_simp; try rfl) ?_; (intro K hK; go_simp; refine hK _ ?_; clear hK K))
        (refine wq_skip (by rfl) ?_; (intro K hK; go_simp; refine hK _ ?_; clear hK K))
        (refine wq_val (by rfl) (fun w' hw' => by obtain ⟨hc, hf⟩ := bcell hw'; go_simp; try rfl) ?_; (intro K hK; go_simp; refine hK _ ?_; clear hK K))
        (refine wq_val (by rfl) (fun w' hw' => by obtain ⟨hc, hf⟩ := bcell hw'; go_simp; try rfl) ?_; (intro K hK; go_simp; refine hK _ ?_; clear hK K))
        (refine wq_val (by rfl) (fun w' hw' => by obtain ⟨hc, hf⟩ := bcell hw'; go_simp; try rfl) ?_; (intro K hK; go_simp; refine hK _ ?_; clear hK K))
        (refine wq_val (by rfl) (fun w' hw' => by obtain ⟨hc, hf⟩ := bcell hw'; go_simp; try rfl) ?_; (intro K hK; go_simp; refine hK _ ?_; clear hK K))
        (refine wq_val (by rfl) (fun w' hw' => by obtain ⟨hc, hf⟩ := bcell hw'; go_simp; try rfl) ?_; (intro K hK; go_simp; refine hK _ ?_; clear hK K))
        (refine wq_val (by rfl) (fun w' hw' => by obtain ⟨hc, hf⟩ := bcell hw'; go_simp; try rfl) ?_; (intro K hK; go_simp; refine hK _ ?_; clear hK K))
        (refine wq_val (by rfl) (fun w' hw' => by obtain ⟨hc, hf⟩ := bcell hw'; go_simp; try rfl) ?_; (intro K hK; go_simp; refine hK _ ?_; clear hK K))
        (refine wq_val (by rfl) (fun w' hw' => by obtain ⟨hc, hf⟩ := bcell hw'; go_simp; try rfl) ?_; (intro K hK; go_simp; refine hK _ ?_; clear hK K))
        (refine wq_val (by rfl) (fun w' hw' => by obtain ⟨hc, hf⟩ := bcell hw'; go_simp; try rfl) ?_; (intro K hK; go_simp; refine hK _ ?_; clear hK K))
        (refine wq_val (by rfl) (fun w' hw' => by obtain ⟨hc, hf⟩ := bcell hw'; go_simp; try rfl) ?_; (intro K hK; go_simp; refine hK _ ?_; clear hK K))
        (refine wq_val (by rfl) (fun w' hw' => by obtain ⟨hc, hf⟩ := bcell hw'; go_simp; try rfl) ?_; (intro K hK; go_simp; refine hK _ ?_; clear hK K))
        (refine wq_call (by rfl) (fun w' hw' => by go_simp; try rfl) (fun w' hw' => call_below hw' (normalR RA NA w')) ?_; (intro K hK; go_simp; refine hK _ ?_; clear hK K))
        (refine wq_val (by rfl) (fun w' hw' => by obtain ⟨hc, hf⟩ := bcell hw'; go_simp; try rfl) ?_; (intro K hK; go_simp; refine hK _ ?_; clear hK K))
        (refine wq_call (by rfl) (fun w' hw' => by go_simp; try rfl) (fun w' hw' => call_below hw' (normalR RB NB w')) ?_; (intro K hK; go_simp; refine hK _ ?_; clear hK K))
        (refine wq_val (by rfl) (fun w' hw' => by obtain ⟨hc, hf⟩ := bcell hw'; go_simp; try rfl) ?_; (intro K hK; go_simp; refine hK _ ?_; clear hK K))
        (refine wq_val (by rfl) (fun w' hw' => by obtain ⟨hc, hf⟩ := bcell hw'; go_simp; try rfl) ?_; (intro K hK; go_simp; refine hK _ ?_; clear hK K))
        (refine wq_val (by rfl) (fun w' hw' => by obtain ⟨hc, hf⟩ := bcell hw'; go_simp; try rfl) ?_; (intro K hK; go_simp; refine hK _ ?_; clear hK K))
        (refine wq_val (by rfl) (fun w' hw' => by obtain ⟨hc, hf⟩ := bcell hw'; go_simp; try rfl) ?_; (intro K hK; go_simp; refine hK _ ?_; clear hK K))
        (refine wq_call (by rfl) (fun w' hw' => by go_simp; try rfl) (fun w' hw' => call_below hw' (known_any w' (VX.on hw' (Nat.le_refl _)))) ?_; (intro K hK; go_simp; refine hK _ ?_; clear hK K))
        (refine wq_val (by rfl) (fun w' hw' => by obtain ⟨hc, hf⟩ := bcell hw'; go_simp; try rfl) ?_; (intro K hK; go_simp; refine hK _ ?_; clear hK K))
        refine wpQuiet_nil ?_
        intro w9 hb9
        simp only [List.drop_succ_cons, List.drop_zero]
        go_wp2
        go_ret
        exact ⟨rfl, hbX.trans (hb9.mono hbX.size)⟩
end Go.Proofs.YtggbnjdbbomjoaaDoor
