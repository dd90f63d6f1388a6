/- Walks of the reference of layer 1: Fits. -/
import Derived.Test.YtggbnjdbbomjoaaDoorRefI
namespace Go.Proofs.YtggbnjdbbomjoaaDoor
open Go.RowKit
theorem sameV {u v : Int} {x y : Lg} {t : Bool} (A : Lw u x) (B : Lw v y) (bu : Bd u) (bv : Bd v) (e : decide (u = v) = t) (w : World) :
    Calls Tryd.prog 32 #[lgV x, lgV y] w fun e w' => e = .returned (.bool t) ∧ Below w.heap.size w w' := by
  rw [← e, ← same_val A B bu bv]
  exact samel_any x y A.dig B.dig w
theorem intV {x : Lg} {v h l : Int} (A : Lw v x) (b : Bd v) (e1 : normHi v = h) (e2 : normLo v = l) (w : World) : Calls Tryd.prog 22 #[lgV x] w fun e w' => e = .returned (two h l) ∧ Below w.heap.size w w' := by
  rw [← e1, ← e2]; exact int_any x v A b w
theorem norm_i64' (v : Int) : I64 (normHi v) ∧ I64 (normLo v) := by
  unfold normHi normLo madeHi madeLo minI maxI M62 I64
  constructor
  · split
    · omega
    · split <;> omega
  · split
    · omega
    · split <;> omega
theorem norm_out {v : Int} (h : ¬ Rng v) : val (normHi v) (normLo v) ≠ v := by
  intro e
  have h1 := (norm_i64' v).1
  have h2 : 0 ≤ normLo v ∧ normLo v < 4611686018427387904 := by
    unfold normLo madeLo minI maxI M62
    split
    · omega
    · split <;> omega
  obtain ⟨_, _⟩ := h1
  apply h
  unfold val M62 at e
  unfold Rng
  omega
theorem fit_cases (v : Int) : (Hid (normHi v ≥ -2 ∧ normHi v ≤ 1) ∧ Hid (Rng v) ∧ Hid (fitN v = normHi v * 4611686018427387904 + normLo v ∧ fitB v = true ∧ I64 v)) ∨
    (Hid (normHi v < -2 ∨ 1 < normHi v) ∧ Hid (Rng v) ∧ Hid (fitN v = 0 ∧ fitB v = false)) ∨ (Hid (¬ Rng v) ∧ Hid (fitN v = 0 ∧ fitB v = false)) := by
  by_cases hr : Rng v
  · have hn := norm_of hr
    by_cases hi : I64 v
    · left
      refine ⟨Lib.hid ?_, Lib.hid hr, Lib.hid ⟨?_, ?_, hi⟩⟩
      · rw [hn.1]; obtain ⟨_, _⟩ := hi; omega
      · rw [hn.1, hn.2]; rw [show fitN v = v from if_pos hi]; omega
      · exact decide_eq_true hi
    · right; left
      refine ⟨Lib.hid ?_, Lib.hid hr, Lib.hid ⟨if_neg hi, decide_eq_false hi⟩⟩
      rw [hn.1]; unfold I64 at hi; omega
  · right; right
    have hi : ¬ I64 v := fun h => hr (rng_of h)
    exact ⟨Lib.hid hr, Lib.hid ⟨if_neg hi, decide_eq_false hi⟩⟩
set_option maxRecDepth 100000 in
set_option maxHeartbeats 1000000 in
theorem fits_any (x : Lg) (v : Int) (A : Lw v x) (b : Bd v) (w : World) :
    Calls Tryd.prog 17 #[lgV x] w fun e w' => e = .returned (.tuple #[.int .i64 (fitN v), .bool (fitB v)]) ∧ Below w.heap.size w w' := by
  have hcs := fit_cases v
  obtain ⟨i1, i2⟩ := norm_i64' v
  have hvn : Hid (Rng v → val (normHi v) (normLo v) = v) := Lib.hid val_norm
  have hvo : Hid (¬ Rng v → val (normHi v) (normLo v) ≠ v) := Lib.hid norm_out
  have bn : Bd (val (normHi v) (normLo v)) := by obtain ⟨_, _⟩ := i1; obtain ⟨_, _⟩ := i2; unfold Bd val M62; omega
  obtain ⟨h, eh⟩ : ∃ h, normHi v = h := ⟨_, rfl⟩
  obtain ⟨l, el⟩ : ∃ l, normLo v = l := ⟨_, rfl⟩
  have EH := Lib.hid eh; have EL := Lib.hid el
  rw [eh] at hcs hvn hvo bn i1; rw [el] at hcs hvn hvo bn i2
  obtain ⟨z, HZ, LZ⟩ : ∃ z, Hid (numL h l = z) ∧ Lw (val h l) z := ⟨_, Lib.hid rfl, lw_num h l i1 i2 rfl⟩
  have I1 := Lib.hid i1; have I2 := Lib.hid i2
  clear eh el i1 i2
  generalize val h l = n at *
  go_enter Tryd.func17, Tryd.ntmps17
  go_wp2_with (first | (refine wpList_load_cells rfl 30 (.tmp 1) rfl w.heap.size 0 rfl (lgL x) _ Tryd.underlying30 rfl (by kernel_rfl) (CellsW.new w (lgL x) 30).cellsAt ?_) | fail)
  refine (intV A b EH.out EL.out _).mono ?_; rintro e w1 ⟨rfl, hb1⟩
  have ya : CellsW w1 w.heap.size (lgL x) := (CellsW.new w (lgL x) 30).below hb1 (by simp)
  have q1 : w.heap.size < w1.heap.size := by have := hb1.size; simp at this; omega
  have hbw : Below w.heap.size w w1 := by (repeat (first | (with_reducible exact Below.refl _ _) | ((with_reducible refine Below.alloc ?_ ?_ _); rotate_left; focus (first | (simp; done) | (simp; omega) | (have q0 := hb1.size; (try simp at q0); (try simp); omega))) | ((with_reducible refine Below.setCell ?_ ?_ _); rotate_left; focus (first | (simp; done) | (simp; omega) | (have q0 := hb1.size; (try simp at q0); (try simp); omega))) | (with_reducible refine Below.drew ?_) | (with_reducible refine Below.drewN' ?_ _) | (with_reducible refine Below.trans ?_ (hb1.mono ?_); rotate_left; focus (first | (simp; done) | (simp; omega) | (have q0 := hb1.size; (try simp at q0); (try simp); omega)))))
  clear hb1
  go_upto_region 2 with fail
  obtain ⟨Y, hY⟩ : ∃ Y, Y = w1.alloc (Obj.cells #[Value.int IntKind.i64 h, Value.int IntKind.i64 l] 41) := ⟨_, rfl⟩
  have k1 : Y.cell? ⟨w1.heap.size, 0, none⟩ = some (.int .i64 h) := by rw [hY]; simp [go_sem]
  have k2 : Y.cell? ⟨w1.heap.size, 1, none⟩ = some (.int .i64 l) := by rw [hY]; simp [go_sem]
  have hb6 : Below w1.heap.size w1 Y := by rw [hY]; (repeat (first | (with_reducible exact Below.refl _ _) | ((with_reducible refine Below.alloc ?_ ?_ _); rotate_left; focus (first | (simp; done) | (simp; omega))) | ((with_reducible refine Below.setCell ?_ ?_ _); rotate_left; focus (first | (simp; done) | (simp; omega))) | (with_reducible refine Below.drew ?_) | (with_reducible refine Below.drewN' ?_ _)))
  have zY : w1.heap.size < Y.heap.size := by rw [hY]; simp
  replace ya := ya.below hb6 q1; replace hbw := hbw.trans (hb6.mono hbw.size)
  rw [← hY]
  clear hY hb6
  generalize w1.heap.size = g at *
  have q1' : w.heap.size < Y.heap.size := by omega
  rcases hcs with ⟨hh, hr, hf⟩ | ⟨hh, hr, hf⟩ | ⟨hr, hf⟩
  · have hd : decide (n = v) = true := decide_eq_true (hvn.out hr.out)
    have HD := Lib.hid hd; clear hd
    obtain ⟨g1, g2⟩ := hh.out
    clear hh
    refine wp_region_below_tail 5 (by kernel_rfl) (by kernel_rfl) ?_
    simp only [List.take_succ_cons, List.take_zero]
    (refine wq_val (by rfl) (fun w' hw' => by obtain ⟨hc, hf⟩ := bcell hw'; go_simp; try rfl) ?_; (intro K hK; go_simp; refine hK _ ?_; clear hK K))
    (refine wq_call (by rfl) (fun w' hw' => by go_simp; try rfl) (fun w' hw' => call_below hw' (numV I1.out I2.out HZ.out w')) ?_; (intro K hK; go_simp; refine hK _ ?_; clear hK K))
    refine wq_val (by rfl) (fun w' hw' => run_load_cells 30 (.tmp 1) rfl w.heap.size 0 rfl (lgL x) _ Tryd.underlying30 rfl (by kernel_rfl) (ya.below hw' (by omega)).cellsAt) ?_
    (intro K hK; go_simp; refine hK _ ?_; clear hK K)
    (refine wq_call (by rfl) (fun w' hw' => by go_simp; try rfl) (fun w' hw' => call_below hw' (sameV LZ A bn b HD.out w')) ?_; (intro K hK; go_simp; refine hK _ ?_; clear hK K))
    (refine wq_val (by rfl) (fun w' hw' => by obtain ⟨hc, hf⟩ := bcell hw'; go_simp; try rfl) ?_; (intro K hK; go_simp; refine hK _ ?_; clear hK K))
    refine wpQuiet_nil ?_
    intro w3 hb3
    simp only [List.drop_succ_cons, List.drop_zero]
    replace k1 := cell_on hb3 (by omega) k1; replace k2 := cell_on hb3 (by omega) k2
    replace hbw := hbw.trans (hb3.mono hbw.size)
    clear hb3 ya
    obtain ⟨f1, f2, f3⟩ := hf.out
    have e1 : wrap64 (h * 4611686018427387904) = h * 4611686018427387904 := wrap_of (by unfold I64; omega)
    obtain ⟨y, hy⟩ : ∃ y, fitN v = y := ⟨_, rfl⟩
    have e2 : h * 4611686018427387904 + l = y := by rw [← hy]; exact f1.symm
    have e3 : wrap64 y = y := by rw [← hy]; exact wrap_of (fit_i64 v)
    have F1 := Lib.hid hy; have F2 := Lib.hid f2
    clear f1 f2 f3 hf hy
    go_wp2
    go_ret2
    exact ⟨by rw [e3, F1.out, F2.out]; rfl, hbw⟩
  · have hd : decide (n = v) = true := decide_eq_true (hvn.out hr.out)
    have HD := Lib.hid hd; clear hd
    have HF := Lib.hid hf.out
    clear hf
    rcases hh.out with g1 | g1
    all_goals
      refine wp_region_below_tail 5 (by kernel_rfl) (by kernel_rfl) ?_
      simp only [List.take_succ_cons, List.take_zero]
      (refine wq_val (by rfl) (fun w' hw' => by obtain ⟨hc, hf⟩ := bcell hw'; go_simp; try rfl) ?_; (intro K hK; go_simp; refine hK _ ?_; clear hK K))
      (refine wq_call (by rfl) (fun w' hw' => by go_simp; try rfl) (fun w' hw' => call_below hw' (numV I1.out I2.out HZ.out w')) ?_; (intro K hK; go_simp; refine hK _ ?_; clear hK K))
      refine wq_val (by rfl) (fun w' hw' => run_load_cells 30 (.tmp 1) rfl w.heap.size 0 rfl (lgL x) _ Tryd.underlying30 rfl (by kernel_rfl) (ya.below hw' (by omega)).cellsAt) ?_
      (intro K hK; go_simp; refine hK _ ?_; clear hK K)
      (refine wq_call (by rfl) (fun w' hw' => by go_simp; try rfl) (fun w' hw' => call_below hw' (sameV LZ A bn b HD.out w')) ?_; (intro K hK; go_simp; refine hK _ ?_; clear hK K))
      (refine wq_val (by rfl) (fun w' hw' => by obtain ⟨hc, hf⟩ := bcell hw'; go_simp; try rfl) ?_; (intro K hK; go_simp; refine hK _ ?_; clear hK K))
      refine wpQuiet_nil ?_
      intro w3 hb3
      simp only [List.drop_succ_cons, List.drop_zero]
      replace k1 := cell_on hb3 (by omega) k1; replace k2 := cell_on hb3 (by omega) k2
      replace hbw := hbw.trans (hb3.mono hbw.size)
      clear hb3 ya
      go_wp2
      go_ret2
      exact ⟨by rw [HF.out.1, HF.out.2]; rfl, hbw⟩
  · have hd : decide (n = v) = false := decide_eq_false (hvo.out hr.out)
    have HD := Lib.hid hd; clear hd
    refine wp_region_below_tail 5 (by kernel_rfl) (by kernel_rfl) ?_
    simp only [List.take_succ_cons, List.take_zero]
    (refine wq_val (by rfl) (fun w' hw' => by obtain ⟨hc, hf⟩ := bcell hw'; go_simp; try rfl) ?_; (intro K hK; go_simp; refine hK _ ?_; clear hK K))
    (refine wq_call (by rfl) (fun w' hw' => by go_simp; try rfl) (fun w' hw' => call_below hw' (numV I1.out I2.out HZ.out w')) ?_; (intro K hK; go_simp; refine hK _ ?_; clear hK K))
    refine wq_val (by rfl) (fun w' hw' => run_load_cells 30 (.tmp 1) rfl w.heap.size 0 rfl (lgL x) _ Tryd.underlying30 rfl (by kernel_rfl) (ya.below hw' (by omega)).cellsAt) ?_
    (intro K hK; go_simp; refine hK _ ?_; clear hK K)
    (refine wq_call (by rfl) (fun w' hw' => by go_simp; try rfl) (fun w' hw' => call_below hw' (sameV LZ A bn b HD.out w')) ?_; (intro K hK; go_simp; refine hK _ ?_; clear hK K))
    (refine wq_val (by rfl) (fun w' hw' => by obtain ⟨hc, hf⟩ := bcell hw'; go_simp; try rfl) ?_; (intro K hK; go_simp; refine hK _ ?_; clear hK K))
    refine wpQuiet_nil ?_
    intro w3 hb3
    simp only [List.drop_succ_cons, List.drop_zero]
    replace k1 := cell_on hb3 (by omega) k1; replace k2 := cell_on hb3 (by omega) k2
    replace hbw := hbw.trans (hb3.mono hbw.size)
    clear hb3 ya
    go_wp2
    go_ret2
    exact ⟨by rw [hf.out.1, hf.out.2]; rfl, hbw⟩
end Go.Proofs.YtggbnjdbbomjoaaDoor
