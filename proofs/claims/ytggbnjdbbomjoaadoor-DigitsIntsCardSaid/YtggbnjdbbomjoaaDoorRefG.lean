/- Walks of the reference of layer 1: Number. -/
import Derived.Test.YtggbnjdbbomjoaaDoorRefM
namespace Go.Proofs.YtggbnjdbbomjoaaDoor
open Go.RowKit

theorem dblL_dig {x : Lg} (h : Dig x.d) : ∀ k, Dig (dblL k x).d
  | 0 => h
  | k + 1 => by
    simp only [dblL]; unfold addL
    rw [if_pos rfl]; exact sumD_dig _ _

set_option maxRecDepth 100000 in
set_option maxHeartbeats 1000000 in
theorem numl_any (hi lo : Int) (h1 : I64 hi) (h2 : I64 lo) (w : World) :
    Calls Tryd.prog 20 #[two hi lo] w fun e w' => e = .returned (lgV (numL hi lo)) ∧ Below w.heap.size w w' := by
  go_enter Tryd.func20, Tryd.ntmps20
  go_wp2_with fail
  refine (ofl_any hi 3 h1 (by omega) _).mono ?_; rintro e w1 ⟨rfl, hb1⟩; obtain ⟨hc1, hf1⟩ := bcell hb1
  have c0 : w1.cell? ⟨w.heap.size, 1, none⟩ = some (.int .i64 lo) := by rw [hc1 _ _ (by simp; omega)]; simp [go_sem]
  have z0 : CellsW w1 (w.heap.size + 1) (lgL lg0) := by
    have h := CellsW.new (w.alloc (.cells #[.int .i64 hi, .int .i64 lo] 41)) (lgL lg0) 30
    have h2 := h.below hb1 (by simp)
    simpa using h2
  have q1 : w.heap.size + 1 < w1.heap.size := by have := hb1.size; simp at this; omega
  have hbw : Below w.heap.size w w1 := by (repeat (first | (with_reducible exact Below.refl _ _) | ((with_reducible refine Below.alloc ?_ ?_ _); rotate_left; focus (first | (simp; done) | (simp; omega) | (have q0 := hb1.size; (try simp at q0); (try simp); omega))) | ((with_reducible refine Below.setCell ?_ ?_ _); rotate_left; focus (first | (simp; done) | (simp; omega) | (have q0 := hb1.size; (try simp at q0); (try simp); omega))) | (with_reducible refine Below.drew ?_) | (with_reducible refine Below.drewN' ?_ _) | (with_reducible refine Below.trans ?_ (hb1.mono ?_); rotate_left; focus (first | (simp; done) | (simp; omega) | (have q0 := hb1.size; (try simp at q0); (try simp); omega)))))
  have hd := ofL_dig hi 3
  generalize hxx : ofL hi 3 = x at *
  have HX := Lib.hid hxx; clear hxx hb1 hc1 hf1
  go_wp2
  go_loopw [4] (fun i wr => ∃ k : Nat, k ≤ 14 ∧ i = .int .i64 k ∧ wr.cell? ⟨w.heap.size, 1, none⟩ = some (.int .i64 lo) ∧ CellsW wr (w.heap.size + 1) (lgL lg0) ∧ CellsW wr w1.heap.size (lgL (dblL k x)) ∧ w1.heap.size < wr.heap.size ∧ Below w.heap.size w wr)
    (fun i _ => 14 - (intOf i).toNat)
  case atStart =>
    refine ⟨0, by omega, rfl, by rw [(show Below w1.heap.size w1 (w1.alloc _) from by (repeat (first | (with_reducible exact Below.refl _ _) | ((with_reducible refine Below.alloc ?_ ?_ _); rotate_left; focus (first | (simp; done) | (simp; omega))) | ((with_reducible refine Below.setCell ?_ ?_ _); rotate_left; focus (first | (simp; done) | (simp; omega))) | (with_reducible refine Below.drew ?_) | (with_reducible refine Below.drewN' ?_ _)))).cell (p := ⟨w.heap.size, 1, none⟩) (by simp; omega)]; exact c0, z0.alloc (by omega) _, CellsW.new w1 (lgL x) 30, by simp, by (repeat (first | (with_reducible exact Below.refl _ _) | ((with_reducible refine Below.alloc ?_ ?_ _); rotate_left; focus (first | (simp; done) | (simp; omega) | (have q0 := hbw.size; (try simp at q0); (try simp); omega))) | ((with_reducible refine Below.setCell ?_ ?_ _); rotate_left; focus (first | (simp; done) | (simp; omega) | (have q0 := hbw.size; (try simp at q0); (try simp); omega))) | (with_reducible refine Below.drew ?_) | (with_reducible refine Below.drewN' ?_ _) | (with_reducible refine Below.trans ?_ (hbw.mono ?_); rotate_left; focus (first | (simp; done) | (simp; omega) | (have q0 := hbw.size; (try simp at q0); (try simp); omega)))))⟩
  case round =>
    obtain ⟨k, hk, rfl, g0, y0, y1, q2, hbr⟩ := hrel
    by_cases hk14 : k < 14
    · have hd' := dblL_dig hd k
      have hnext : dblL (k + 1) x = addL (dblL k x) (dblL k x) := rfl
      have HN := Lib.hid hnext; clear hnext
      generalize dblL k x = z at *
      have y1' := y1.cellsAt
      go_wp2_with (refine wpList_load_cells rfl 30 (.tmp 3) rfl w1.heap.size 0 rfl (lgL z) _ Tryd.underlying30 rfl (by kernel_rfl) y1' ?_)
      refine (double_any z hd' _).mono ?_; rintro e w2 ⟨rfl, hb2⟩
      generalize addL z z = y at *
      have y2 := y1.below hb2 q2
      dsimp only
      go_step
      refine wpList_store_cells rfl 30 (.tmp 3) (.tmp 13) rfl w1.heap.size 0 rfl (lgL y) rfl (by kernel_rfl) (by simp [Value.oneCell']) y2.some y2.thaw ?_
      go_wp2
      have hb3 : Below (w.heap.size + 1 + 1) w2 (w2.setCells w1.heap.size 0 (lgL y)) := setCells_below _ (by omega) _ _ _
      have hb2' : Below (w.heap.size + 1 + 1) wr w2 := hb2.mono (by omega)
      refine ⟨⟨k + 1, by omega, by go_num, ?_, (y0.below hb2' (by omega)).below hb3 (by omega), by rw [HN.out]; exact y2.put _ rfl, ?_, (hbr.trans (hb2'.mono (by omega))).trans (hb3.mono (by omega))⟩, by simp [intOf]; omega⟩
      · rw [hb3.cell (p := ⟨w.heap.size, 1, none⟩) (by simp; omega), hb2'.cell (p := ⟨w.heap.size, 1, none⟩) (by simp; omega)]; exact g0
      · have := hb3.size; have := hb2.size; omega
    · have hk' : k = 14 := by omega
      subst hk'
      have hdx := dblL_dig hd 14
      generalize hyy : dblL 14 x = y at *
      have HY := Lib.hid hyy; clear hyy
      go_wp2
      refine wp_region_below_tail 5 (by kernel_rfl) (by kernel_rfl) ?_
      simp only [List.take_succ_cons, List.take_zero]
      refine wq_val (by rfl) (fun w' hw' => run_load_cells 30 (.tmp 3) rfl w1.heap.size 0 rfl (lgL y) _ Tryd.underlying30 rfl (by kernel_rfl) (y1.below hw' q2).cellsAt) ?_
      (intro K hK; go_simp; refine hK _ ?_; clear hK K)
      (refine wq_val (by rfl) (fun w' hw' => by obtain ⟨hc, hf⟩ := bcell hw'; go_simp; try rfl) ?_; (intro K hK; go_simp; refine hK _ ?_; clear hK K))
      refine wq_val (v := .int .i64 lo) (by rfl) (fun w' hw' => by obtain ⟨hc, hf⟩ := bcell hw'; have := hc w.heap.size 1 (by omega); rw [g0] at this; go_simp) ?_
      (intro K hK; go_simp; refine hK _ ?_; clear hK K)
      (refine wq_call (by rfl) (fun w' hw' => by go_simp; try rfl) (fun w' hw' => call_below hw' (ofl_any lo 0 h2 (by omega) w')) ?_; (intro K hK; go_simp; refine hK _ ?_; clear hK K))
      (refine wq_call (by rfl) (fun w' hw' => by go_simp; try rfl) (fun w' hw' => call_below hw' (addl_any y (ofL lo 0) hdx (ofL_dig lo 0) w')) ?_; (intro K hK; go_simp; refine hK _ ?_; clear hK K))
      refine wpQuiet_nil ?_
      intro w3 hb3
      simp only [List.drop_succ_cons, List.drop_zero]
      have y3 := y0.below hb3 (by omega)
      refine wpList_store_cells rfl 30 (.tmp 2) (.tmp 18) rfl (w.heap.size + 1) 0 rfl (lgL (addL y (ofL lo 0))) rfl (by kernel_rfl) (by simp [Value.oneCell']) y3.some y3.thaw ?_
      refine wpList_nil ?_
      have hrow := y3.put (lgL (addL y (ofL lo 0))) rfl
      have hbe := setCells_below (B := w.heap.size) (w.heap.size + 1) (by omega) (lgL (addL y (ofL lo 0))) 0 w3
      generalize w3.setCells (w.heap.size + 1) 0 (lgL (addL y (ofL lo 0))) = w4 at *
      go_wp2
      refine bodyPost_ret (v := lgV (numL hi lo)) ?_ rfl ⟨rfl, ?_⟩
      · have e : numL hi lo = addL y (ofL lo 0) := by unfold numL; rw [HX.out, HY.out]
        rw [e]; exact results_lg Tryd.results20 _ (by rfl) hrow
      · exact (hbr.trans (hb3.mono hbr.size)).trans hbe
end Go.Proofs.YtggbnjdbbomjoaaDoor
