/- Walks of the reference of layer 1: Add (the second one greater), Double, Less, Same. -/
import Derived.Test.YtggbnjdbbomjoaaDoorRefC
namespace Go.Proofs.YtggbnjdbbomjoaaDoor
open Go.RowKit

set_option maxRecDepth 100000 in
set_option maxHeartbeats 1000000 in
theorem add_lt_any (x y : Lg) (hx : Dig x.d) (hy : Dig y.d) (hm : x.m ≠ y.m) (hl : ltD x.d y.d 10 = true) (w : World) :
    Calls Tryd.prog 18 #[lgV x, lgV y] w fun e w' => e = .returned (lgV (addL x y)) ∧ Below w.heap.size w w' := by
  have E : addL x y = ⟨y.m && !(zeroB (difD y.d x.d)), difD y.d x.d⟩ := by unfold addL; rw [if_neg hm, if_pos hl]
  obtain ⟨m, d⟩ := x
  obtain ⟨m', d'⟩ := y
  have H := Lib.hid E
  have hm' : (m == m') = false := by simpa using hm
  have hl' : ltD d d' 10 = true := hl
  clear E hm hl
  go_enter Tryd.func18, Tryd.ntmps18
  go_wp2_with fail
  refine (below_any d d' _).mono ?_; rintro e w1 ⟨rfl, hb1⟩; obtain ⟨hc1, hf1⟩ := bcell hb1
  rw [hl']
  have z0 : CellsW w1 w.heap.size (lgL ⟨m, d⟩) := ((CellsW.new w (lgL ⟨m, d⟩) 30).below (B := w.heap.size + 1) (by (repeat (first | (with_reducible exact Below.refl _ _) | ((with_reducible refine Below.alloc ?_ ?_ _); rotate_left; focus (first | (simp; done) | (simp; omega))) | ((with_reducible refine Below.setCell ?_ ?_ _); rotate_left; focus (first | (simp; done) | (simp; omega))) | (with_reducible refine Below.drew ?_) | (with_reducible refine Below.drewN' ?_ _)))) (by omega) : CellsW ((w.alloc (.cells (lgC ⟨m, d⟩) 30)).alloc (.cells (lgC ⟨m', d'⟩) 30) |>.alloc (.cells (lgC lg0) 30)) w.heap.size (lgL ⟨m, d⟩)).below hb1 (by simp; omega)
  have z1 : CellsW w1 (w.heap.size + 1) (lgL ⟨m', d'⟩) := by
    have h := CellsW.new (w.alloc (.cells (lgC ⟨m, d⟩) 30)) (lgL ⟨m', d'⟩) 30
    have h2 := (h.alloc (by simp) (.cells (lgC lg0) 30)).below hb1 (by simp)
    simpa using h2
  have z2 : CellsW w1 (w.heap.size + 1 + 1) (lgL lg0) := by
    have h := CellsW.new ((w.alloc (.cells (lgC ⟨m, d⟩) 30)).alloc (.cells (lgC ⟨m', d'⟩) 30)) (lgL lg0) 30
    have h2 := h.below hb1 (by simp)
    simpa using h2
  have q1 : w.heap.size + 1 + 1 < w1.heap.size := by have := hb1.size; simp at this; omega
  have hbw : Below w.heap.size w w1 := by (repeat (first | (with_reducible exact Below.refl _ _) | ((with_reducible refine Below.alloc ?_ ?_ _); rotate_left; focus (first | (simp; done) | (simp; omega) | (have q0 := hb1.size; (try simp at q0); (try simp); omega))) | ((with_reducible refine Below.setCell ?_ ?_ _); rotate_left; focus (first | (simp; done) | (simp; omega) | (have q0 := hb1.size; (try simp at q0); (try simp); omega))) | (with_reducible refine Below.drew ?_) | (with_reducible refine Below.drewN' ?_ _) | (with_reducible refine Below.trans ?_ (hb1.mono ?_); rotate_left; focus (first | (simp; done) | (simp; omega) | (have q0 := hb1.size; (try simp at q0); (try simp); omega)))))
  clear hb1 hc1 hf1
  go_upto_region 4 with fail
  go_cut [] (fun wx => CellsW wx w.heap.size (lgL ⟨m', d'⟩) ∧ CellsW wx (w.heap.size + 1) (lgL ⟨m, d⟩) ∧ CellsW wx (w.heap.size + 1 + 1) (lgL lg0) ∧ Below w.heap.size w wx ∧ w.heap.size + 1 + 1 < wx.heap.size)
  case first =>
    refine wp_region_lit ?_
    refine wpList_load_cells rfl 30 (.tmp 3) rfl (w.heap.size + 1) 0 rfl (lgL ⟨m', d'⟩) _ Tryd.underlying30 rfl (by kernel_rfl) z1.cellsAt ?_
    refine wpList_load_cells rfl 30 (.tmp 2) rfl w.heap.size 0 rfl (lgL ⟨m, d⟩) _ Tryd.underlying30 rfl (by kernel_rfl) z0.cellsAt ?_
    refine wpList_store_cells rfl 30 (.tmp 2) (.tmp 24) rfl w.heap.size 0 rfl (lgL ⟨m', d'⟩) rfl (by kernel_rfl) (by simp [Value.oneCell']) z0.some z0.thaw ?_
    have z1' := z1.other (by omega : w.heap.size + 1 ≠ w.heap.size) 0 (lgL ⟨m', d'⟩)
    refine wpList_store_cells rfl 30 (.tmp 3) (.tmp 25) rfl (w.heap.size + 1) 0 rfl (lgL ⟨m, d⟩) rfl (by kernel_rfl) (by simp [Value.oneCell']) z1'.some z1'.thaw ?_
    have y0 : CellsW ((w1.setCells w.heap.size 0 (lgL ⟨m', d'⟩)).setCells (w.heap.size + 1) 0 (lgL ⟨m, d⟩)) w.heap.size (lgL ⟨m', d'⟩) := (z0.put (lgL ⟨m', d'⟩) rfl).other (by omega) 0 _
    have y1 : CellsW ((w1.setCells w.heap.size 0 (lgL ⟨m', d'⟩)).setCells (w.heap.size + 1) 0 (lgL ⟨m, d⟩)) (w.heap.size + 1) (lgL ⟨m, d⟩) := z1'.put (lgL ⟨m, d⟩) rfl
    have y2 : CellsW ((w1.setCells w.heap.size 0 (lgL ⟨m', d'⟩)).setCells (w.heap.size + 1) 0 (lgL ⟨m, d⟩)) (w.heap.size + 1 + 1) (lgL lg0) := (z2.other (by omega) 0 _).other (by omega) 0 _
    have hby := (hbw.trans (setCells_below (B := w.heap.size) w.heap.size (by omega) (lgL ⟨m', d'⟩) 0 w1)).trans (setCells_below (B := w.heap.size) (w.heap.size + 1) (by omega) (lgL ⟨m, d⟩) 0 _)
    have hq : w.heap.size + 1 + 1 < ((w1.setCells w.heap.size 0 (lgL ⟨m', d'⟩)).setCells (w.heap.size + 1) 0 (lgL ⟨m, d⟩)).heap.size := by
      have h1 := (setCells_below (B := w.heap.size) w.heap.size (by omega) (lgL ⟨m', d'⟩) 0 w1).size
      have h2 := (setCells_below (B := w.heap.size) (w.heap.size + 1) (by omega) (lgL ⟨m, d⟩) 0 (w1.setCells w.heap.size 0 (lgL ⟨m', d'⟩))).size
      omega
    generalize (w1.setCells w.heap.size 0 (lgL ⟨m', d'⟩)).setCells (w.heap.size + 1) 0 (lgL ⟨m, d⟩) = w2 at *
    refine wpList_nil ?_
    go_wp2
    go_meet
    exact ⟨y0, y1, y2, hby, hq⟩
  case rest =>
    obtain ⟨y0, y1, y2, hby, hq⟩ := hcut
    have a0 := (y0 0 _ rfl).1
    have b0 := (y1 0 _ rfl).1
    have a1 := (y0 1 _ rfl).1
    have b1 := (y1 1 _ rfl).1
    have a2 := (y0 2 _ rfl).1
    have b2 := (y1 2 _ rfl).1
    have a3 := (y0 3 _ rfl).1
    have b3 := (y1 3 _ rfl).1
    have a4 := (y0 4 _ rfl).1
    have b4 := (y1 4 _ rfl).1
    have a5 := (y0 5 _ rfl).1
    have b5 := (y1 5 _ rfl).1
    have a6 := (y0 6 _ rfl).1
    have b6 := (y1 6 _ rfl).1
    have a7 := (y0 7 _ rfl).1
    have b7 := (y1 7 _ rfl).1
    have a8 := (y0 8 _ rfl).1
    have b8 := (y1 8 _ rfl).1
    have a9 := (y0 9 _ rfl).1
    have b9 := (y1 9 _ rfl).1
    have a10 := (y0 10 _ rfl).1
    have b10 := (y1 10 _ rfl).1
    clear y0 y1
    go_wp2_with fail
    refine (difference_any d' d hy hx _).mono ?_; rintro e w2 ⟨rfl, hb2⟩; obtain ⟨hc2, hf2⟩ := bcell hb2
    have q2 : wc.heap.size ≤ w2.heap.size := hb2.size
    have q3 : w.heap.size < wc.heap.size := by omega
    have q4 : w.heap.size < w2.heap.size := by omega
    have q5 : w.heap.size + 1 < wc.heap.size := by omega
    have q6 : w.heap.size + 1 < w2.heap.size := by omega
    have q7 : w.heap.size + 1 + 1 < w2.heap.size := by omega
    have c0 := y2 0 _ rfl
    have HZ := Lib.hid y2; clear y2
    go_wp2_with fail
    cases m'
    · refine wp_region_below_tail 9 (by kernel_rfl) (by kernel_rfl) ?_
      simp only [List.take_succ_cons, List.take_zero]
      (refine wq_val (by rfl) (fun w' hw' => by obtain ⟨hc, hf⟩ := bcell hw'; go_simp; try rfl) ?_; (intro K hK; go_simp; refine hK _ ?_; clear hK K))
      (refine wq_val (by rfl) (fun w' hw' => by obtain ⟨hc, hf⟩ := bcell hw'; go_simp; try rfl) ?_; (intro K hK; go_simp; refine hK _ ?_; clear hK K))
      (refine wq_val (by rfl) (fun w' hw' => by obtain ⟨hc, hf⟩ := bcell hw'; go_simp; try rfl) ?_; (intro K hK; go_simp; refine hK _ ?_; clear hK K))
      (refine wq_skip (by rfl) ?_; (intro K hK; go_simp; refine hK _ ?_; clear hK K))
      (refine wq_skip (by rfl) ?_; (intro K hK; go_simp; refine hK _ ?_; clear hK K))
      (refine wq_skip (by rfl) ?_; (intro K hK; go_simp; refine hK _ ?_; clear hK K))
      (refine wq_val (by rfl) (fun w' hw' => by obtain ⟨hc, hf⟩ := bcell hw'; go_simp; try rfl) ?_; (intro K hK; go_simp; refine hK _ ?_; clear hK K))
      (refine wq_val (by rfl) (fun w' hw' => by obtain ⟨hc, hf⟩ := bcell hw'; go_simp; try rfl) ?_; (intro K hK; go_simp; refine hK _ ?_; clear hK K))
      (refine wq_val (by rfl) (fun w' hw' => by obtain ⟨hc, hf⟩ := bcell hw'; go_simp; try rfl) ?_; (intro K hK; go_simp; refine hK _ ?_; clear hK K))
      refine wpQuiet_nil ?_
      intro w3 hb3
      obtain ⟨hc3, hf3⟩ := bcell hb3
      simp only [List.drop_succ_cons, List.drop_zero]
      have hz : CellsW w3 (w.heap.size + 1 + 1) (lgL lg0) := (((HZ.out.below hb2 hq).alloc (by omega) _).below hb3 (by simp; omega))
      refine wpList_store_cells rfl 30 (.tmp 4) (.tmp 39) rfl (w.heap.size + 1 + 1) 0 rfl (lgL ⟨false, difD d' d⟩) rfl (by kernel_rfl) (by simp [Value.oneCell']) hz.some hz.thaw ?_
      refine wpList_nil ?_
      have hrow := hz.put (lgL ⟨false, difD d' d⟩) rfl
      have hbe := setCells_below (B := w.heap.size) (w.heap.size + 1 + 1) (by omega) (lgL ⟨false, difD d' d⟩) 0 w3
      generalize w3.setCells (w.heap.size + 1 + 1) 0 (lgL ⟨false, difD d' d⟩) = w4 at *
      go_wp2
      refine bodyPost_ret (v := lgV (addL ⟨m, d⟩ ⟨false, d'⟩)) ?_ rfl ⟨rfl, ?_⟩
      · rw [H.out]; exact results_lg Tryd.results18 _ (by rfl) hrow
      · refine Below.trans ?_ hbe
        (repeat (first | (with_reducible exact Below.refl _ _) | ((with_reducible refine Below.alloc ?_ ?_ _); rotate_left; focus (first | (simp; done) | (simp; omega) | (have q0 := hby.size; (try simp at q0); have q1 := hb2.size; (try simp at q1); have q2 := hb3.size; (try simp at q2); (try simp); omega))) | ((with_reducible refine Below.setCell ?_ ?_ _); rotate_left; focus (first | (simp; done) | (simp; omega) | (have q0 := hby.size; (try simp at q0); have q1 := hb2.size; (try simp at q1); have q2 := hb3.size; (try simp at q2); (try simp); omega))) | (with_reducible refine Below.drew ?_) | (with_reducible refine Below.drewN' ?_ _) | (with_reducible refine Below.trans ?_ (hby.mono ?_); rotate_left; focus (first | (simp; done) | (simp; omega) | (have q0 := hby.size; (try simp at q0); have q1 := hb2.size; (try simp at q1); have q2 := hb3.size; (try simp at q2); (try simp); omega))) | (with_reducible refine Below.trans ?_ (hb2.mono ?_); rotate_left; focus (first | (simp; done) | (simp; omega) | (have q0 := hby.size; (try simp at q0); have q1 := hb2.size; (try simp at q1); have q2 := hb3.size; (try simp at q2); (try simp); omega))) | (with_reducible refine Below.trans ?_ (hb3.mono ?_); rotate_left; focus (first | (simp; done) | (simp; omega) | (have q0 := hby.size; (try simp at q0); have q1 := hb2.size; (try simp at q1); have q2 := hb3.size; (try simp at q2); (try simp); omega)))))
    · refine wp_region_below_tail 9 (by kernel_rfl) (by kernel_rfl) ?_
      simp only [List.take_succ_cons, List.take_zero]
      (refine wq_val (by rfl) (fun w' hw' => by obtain ⟨hc, hf⟩ := bcell hw'; go_simp; try rfl) ?_; (intro K hK; go_simp; refine hK _ ?_; clear hK K))
      (refine wq_val (by rfl) (fun w' hw' => by obtain ⟨hc, hf⟩ := bcell hw'; go_simp; try rfl) ?_; (intro K hK; go_simp; refine hK _ ?_; clear hK K))
      (refine wq_val (by rfl) (fun w' hw' => by obtain ⟨hc, hf⟩ := bcell hw'; go_simp; try rfl) ?_; (intro K hK; go_simp; refine hK _ ?_; clear hK K))
      (refine wq_val (by rfl) (fun w' hw' => by obtain ⟨hc, hf⟩ := bcell hw'; go_simp; try rfl) ?_; (intro K hK; go_simp; refine hK _ ?_; clear hK K))
      (refine wq_call (by rfl) (fun w' hw' => by go_simp; try rfl) (fun w' hw' => call_below hw' (zero_any (difD d' d) w')) ?_; (intro K hK; go_simp; refine hK _ ?_; clear hK K))
      (refine wq_val (by rfl) (fun w' hw' => by obtain ⟨hc, hf⟩ := bcell hw'; go_simp; try rfl) ?_; (intro K hK; go_simp; refine hK _ ?_; clear hK K))
      (refine wq_val (by rfl) (fun w' hw' => by obtain ⟨hc, hf⟩ := bcell hw'; go_simp; try rfl) ?_; (intro K hK; go_simp; refine hK _ ?_; clear hK K))
      (refine wq_val (by rfl) (fun w' hw' => by obtain ⟨hc, hf⟩ := bcell hw'; go_simp; try rfl) ?_; (intro K hK; go_simp; refine hK _ ?_; clear hK K))
      (refine wq_val (by rfl) (fun w' hw' => by obtain ⟨hc, hf⟩ := bcell hw'; go_simp; try rfl) ?_; (intro K hK; go_simp; refine hK _ ?_; clear hK K))
      refine wpQuiet_nil ?_
      intro w3 hb3
      obtain ⟨hc3, hf3⟩ := bcell hb3
      simp only [List.drop_succ_cons, List.drop_zero]
      have hz : CellsW w3 (w.heap.size + 1 + 1) (lgL lg0) := (((HZ.out.below hb2 hq).alloc (by omega) _).below hb3 (by simp; omega))
      refine wpList_store_cells rfl 30 (.tmp 4) (.tmp 39) rfl (w.heap.size + 1 + 1) 0 rfl (lgL ⟨!(zeroB (difD d' d)), difD d' d⟩) rfl (by kernel_rfl) (by simp [Value.oneCell']) hz.some hz.thaw ?_
      refine wpList_nil ?_
      have hrow := hz.put (lgL ⟨!(zeroB (difD d' d)), difD d' d⟩) rfl
      have hbe := setCells_below (B := w.heap.size) (w.heap.size + 1 + 1) (by omega) (lgL ⟨!(zeroB (difD d' d)), difD d' d⟩) 0 w3
      generalize w3.setCells (w.heap.size + 1 + 1) 0 (lgL ⟨!(zeroB (difD d' d)), difD d' d⟩) = w4 at *
      go_wp2
      refine bodyPost_ret (v := lgV (addL ⟨m, d⟩ ⟨true, d'⟩)) ?_ rfl ⟨rfl, ?_⟩
      · rw [H.out]; exact results_lg Tryd.results18 _ (by rfl) hrow
      · refine Below.trans ?_ hbe
        (repeat (first | (with_reducible exact Below.refl _ _) | ((with_reducible refine Below.alloc ?_ ?_ _); rotate_left; focus (first | (simp; done) | (simp; omega) | (have q0 := hby.size; (try simp at q0); have q1 := hb2.size; (try simp at q1); have q2 := hb3.size; (try simp at q2); (try simp); omega))) | ((with_reducible refine Below.setCell ?_ ?_ _); rotate_left; focus (first | (simp; done) | (simp; omega) | (have q0 := hby.size; (try simp at q0); have q1 := hb2.size; (try simp at q1); have q2 := hb3.size; (try simp at q2); (try simp); omega))) | (with_reducible refine Below.drew ?_) | (with_reducible refine Below.drewN' ?_ _) | (with_reducible refine Below.trans ?_ (hby.mono ?_); rotate_left; focus (first | (simp; done) | (simp; omega) | (have q0 := hby.size; (try simp at q0); have q1 := hb2.size; (try simp at q1); have q2 := hb3.size; (try simp at q2); (try simp); omega))) | (with_reducible refine Below.trans ?_ (hb2.mono ?_); rotate_left; focus (first | (simp; done) | (simp; omega) | (have q0 := hby.size; (try simp at q0); have q1 := hb2.size; (try simp at q1); have q2 := hb3.size; (try simp at q2); (try simp); omega))) | (with_reducible refine Below.trans ?_ (hb3.mono ?_); rotate_left; focus (first | (simp; done) | (simp; omega) | (have q0 := hby.size; (try simp at q0); have q1 := hb2.size; (try simp at q1); have q2 := hb3.size; (try simp at q2); (try simp); omega)))))

theorem addl_any (x y : Lg) (hx : Dig x.d) (hy : Dig y.d) (w : World) :
    Calls Tryd.prog 18 #[lgV x, lgV y] w fun e w' => e = .returned (lgV (addL x y)) ∧ Below w.heap.size w w' := by
  by_cases hm : x.m = y.m
  · exact add_same_any x y hx hy hm w
  · cases hl : ltD x.d y.d 10
    · exact add_ge_any x y hx hy hm hl w
    · exact add_lt_any x y hx hy hm hl w

theorem neg_dig {x : Lg} (h : Dig x.d) : Dig (negL x).d := h
set_option maxRecDepth 100000 in
set_option maxHeartbeats 1000000 in
theorem double_any (x : Lg) (hx : Dig x.d) (w : World) :
    Calls Tryd.prog 36 #[lgV x] w fun e w' => e = .returned (lgV (addL x x)) ∧ Below w.heap.size w w' := by
  go_enter Tryd.func36, Tryd.ntmps36
  go_wp2_with fail
  refine (addl_any x x hx hx _).mono ?_; rintro e w1 ⟨rfl, hb1⟩
  have hz : CellsW w1 (w.heap.size + 1) (lgL lg0) := by
    have h := (CellsW.new (w.alloc (.cells (lgC x) 30)) (lgL lg0) 30).below hb1 (by simp)
    simpa using h
  have hby : Below w.heap.size w w1 := by (repeat (first | (with_reducible exact Below.refl _ _) | ((with_reducible refine Below.alloc ?_ ?_ _); rotate_left; focus (first | (simp; done) | (simp; omega) | (have q0 := hb1.size; (try simp at q0); (try simp); omega))) | ((with_reducible refine Below.setCell ?_ ?_ _); rotate_left; focus (first | (simp; done) | (simp; omega) | (have q0 := hb1.size; (try simp at q0); (try simp); omega))) | (with_reducible refine Below.drew ?_) | (with_reducible refine Below.drewN' ?_ _) | (with_reducible refine Below.trans ?_ (hb1.mono ?_); rotate_left; focus (first | (simp; done) | (simp; omega) | (have q0 := hb1.size; (try simp at q0); (try simp); omega)))))
  clear hb1
  generalize hyy : addL x x = y
  have HY := Lib.hid hyy; clear hyy
  go_wp2_with (refine wpList_store_cells rfl 30 (.tmp 2) (.tmp 5) rfl (w.heap.size + 1) 0 rfl (lgL y) rfl (by kernel_rfl) (by simp [Value.oneCell']) hz.some hz.thaw ?_)
  refine bodyPost_ret (v := lgV y) ?_ rfl ⟨by rw [HY.out], hby.trans (setCells_below _ (by omega) _ _ _)⟩
  exact results_lg Tryd.results36 _ (by rfl) (hz.put (lgL y) rfl)

set_option maxRecDepth 100000 in
set_option maxHeartbeats 1000000 in
theorem samel_any (x y : Lg) (hx : Dig x.d) (hy : Dig y.d) (w : World) :
    Calls Tryd.prog 32 #[lgV x, lgV y] w fun e w' => e = .returned (.bool (zeroB (addL x (negL y)).d)) ∧ Below w.heap.size w w' := by
  go_enter Tryd.func32, Tryd.ntmps32
  go_wp2
  refine wp_region_below (by kernel_rfl) (by kernel_rfl) ?_
  (refine wq_val (by rfl) (fun w' hw' => by obtain ⟨hc, hf⟩ := bcell hw'; go_simp; try rfl) ?_; (intro K hK; go_simp; refine hK _ ?_; clear hK K))
  (refine wq_val (by rfl) (fun w' hw' => by obtain ⟨hc, hf⟩ := bcell hw'; go_simp; try rfl) ?_; (intro K hK; go_simp; refine hK _ ?_; clear hK K))
  (refine wq_call (by rfl) (fun w' hw' => by go_simp; try rfl) (fun w' hw' => call_below hw' (neg_any y w')) ?_; (intro K hK; go_simp; refine hK _ ?_; clear hK K))
  (refine wq_call (by rfl) (fun w' hw' => by go_simp; try rfl) (fun w' hw' => call_below hw' (addl_any x (negL y) hx (neg_dig hy) w')) ?_; (intro K hK; go_simp; refine hK _ ?_; clear hK K))
  (refine wq_val (by rfl) (fun w' hw' => by obtain ⟨hc, hf⟩ := bcell hw'; go_simp; try rfl) ?_; (intro K hK; go_simp; refine hK _ ?_; clear hK K))
  (refine wq_call (by rfl) (fun w' hw' => by go_simp; try rfl) (fun w' hw' => call_below hw' (zero_any (addL x (negL y)).d w')) ?_; (intro K hK; go_simp; refine hK _ ?_; clear hK K))
  (refine wq_val (by rfl) (fun w' hw' => by obtain ⟨hc, hf⟩ := bcell hw'; go_simp; try rfl) ?_; (intro K hK; go_simp; refine hK _ ?_; clear hK K))
  refine wpQuiet_nil ?_
  intro w1 hb1
  go_wp2
  go_ret
  exact ⟨rfl, by (repeat (first | (with_reducible exact Below.refl _ _) | ((with_reducible refine Below.alloc ?_ ?_ _); rotate_left; focus (first | (simp; done) | (simp; omega) | (have q0 := hb1.size; (try simp at q0); (try simp); omega))) | ((with_reducible refine Below.setCell ?_ ?_ _); rotate_left; focus (first | (simp; done) | (simp; omega) | (have q0 := hb1.size; (try simp at q0); (try simp); omega))) | (with_reducible refine Below.drew ?_) | (with_reducible refine Below.drewN' ?_ _) | (with_reducible refine Below.trans ?_ (hb1.mono ?_); rotate_left; focus (first | (simp; done) | (simp; omega) | (have q0 := hb1.size; (try simp at q0); (try simp); omega)))))⟩
end Go.Proofs.YtggbnjdbbomjoaaDoor
