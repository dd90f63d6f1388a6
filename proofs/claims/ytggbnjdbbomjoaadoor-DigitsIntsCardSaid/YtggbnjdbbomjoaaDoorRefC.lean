/- Walks of the reference of layer 1: Add, Neg, Of, Double, Less, Same. -/
import Derived.Test.YtggbnjdbbomjoaaDoorRefB
import Derived.Lib.QuietBelow
import Derived.Deep.DeepCutAuto
namespace Go.Proofs.YtggbnjdbbomjoaaDoor
open Go.RowKit

/-- a number of the reference -/
structure Lg where
  m : Bool
  d : Nat → Int
abbrev lgC (x : Lg) : Array Value := #[.bool x.m, .int .i64 (x.d 0), .int .i64 (x.d 1), .int .i64 (x.d 2), .int .i64 (x.d 3), .int .i64 (x.d 4), .int .i64 (x.d 5), .int .i64 (x.d 6), .int .i64 (x.d 7), .int .i64 (x.d 8), .int .i64 (x.d 9)]
abbrev lgV (x : Lg) : Value := .agg (lgC x)
abbrev lgL (x : Lg) : List Value := [.bool x.m, .int .i64 (x.d 0), .int .i64 (x.d 1), .int .i64 (x.d 2), .int .i64 (x.d 3), .int .i64 (x.d 4), .int .i64 (x.d 5), .int .i64 (x.d 6), .int .i64 (x.d 7), .int .i64 (x.d 8), .int .i64 (x.d 9)]
set_option maxRecDepth 100000 in
theorem results_lg {fn : Func} {p : Nat} (h : fn.results = #[.cell p 30]) (tmps : Array Value) {b : Nat} (hp : tmps.getD p undef = .pointer (some ⟨b, 0, none⟩)) {w : World} {x : Lg} (hr : CellsW w b (lgL x)) :
    (results fn tmps).run Tryd.prog w = .ok (lgV x) w := by
  have h0 := (hr 0 _ rfl).1
  have h1 := (hr 1 _ rfl).1
  have h2 := (hr 2 _ rfl).1
  have h3 := (hr 3 _ rfl).1
  have h4 := (hr 4 _ rfl).1
  have h5 := (hr 5 _ rfl).1
  have h6 := (hr 6 _ rfl).1
  have h7 := (hr 7 _ rfl).1
  have h8 := (hr 8 _ rfl).1
  have h9 := (hr 9 _ rfl).1
  have h10 := (hr 10 _ rfl).1
  have hp' : tmps[p]?.getD undef = .pointer (some ⟨b, 0, none⟩) := by simpa using hp
  simp [results, h, hp', go_sem, h0, h1, h2, h3, h4, h5, h6, h7, h8, h9, h10]
def lg0 : Lg := ⟨false, fun _ => 0⟩
def negL (x : Lg) : Lg := ⟨!x.m && !(zeroB x.d), x.d⟩
def addL (x y : Lg) : Lg :=
  if x.m = y.m then ⟨x.m, sumD x.d y.d⟩
  else if ltD x.d y.d 10 = true then ⟨y.m && !(zeroB (difD y.d x.d)), difD y.d x.d⟩
  else ⟨x.m && !(zeroB (difD x.d y.d)), difD x.d y.d⟩

set_option maxRecDepth 100000 in
set_option maxHeartbeats 1000000 in
theorem neg_any (x : Lg) (w : World) :
    Calls Tryd.prog 19 #[lgV x] w fun e w' => e = .returned (lgV (negL x)) ∧ Below w.heap.size w w' := by
  obtain ⟨m, d⟩ := x
  cases m
  · go_enter Tryd.func19, Tryd.ntmps19
    go_wp2
    refine wp_region_below_tail 12 (by kernel_rfl) (by kernel_rfl) ?_
    simp only [List.take_succ_cons, List.take_zero]
    (refine wq_val (by rfl) (fun w' hw' => by obtain ⟨hc, hf⟩ := bcell hw'; go_simp; try rfl) ?_; (intro K hK; go_simp; refine hK _ ?_; clear hK K))
    (refine wq_val (by rfl) (fun w' hw' => by obtain ⟨hc, hf⟩ := bcell hw'; go_simp; try rfl) ?_; (intro K hK; go_simp; refine hK _ ?_; clear hK K))
    (refine wq_val (by rfl) (fun w' hw' => by obtain ⟨hc, hf⟩ := bcell hw'; go_simp; try rfl) ?_; (intro K hK; go_simp; refine hK _ ?_; clear hK K))
    (refine wq_val (by rfl) (fun w' hw' => by obtain ⟨hc, hf⟩ := bcell hw'; go_simp; try rfl) ?_; (intro K hK; go_simp; refine hK _ ?_; clear hK K))
    (refine wq_val (by rfl) (fun w' hw' => by obtain ⟨hc, hf⟩ := bcell hw'; go_simp; try rfl) ?_; (intro K hK; go_simp; refine hK _ ?_; clear hK K))
    (refine wq_val (by rfl) (fun w' hw' => by obtain ⟨hc, hf⟩ := bcell hw'; go_simp; try rfl) ?_; (intro K hK; go_simp; refine hK _ ?_; clear hK K))
    (refine wq_call (by rfl) (fun w' hw' => by go_simp; try rfl) (fun w' hw' => call_below hw' (zero_any d w')) ?_; (intro K hK; go_simp; refine hK _ ?_; clear hK K))
    (refine wq_val (by rfl) (fun w' hw' => by obtain ⟨hc, hf⟩ := bcell hw'; go_simp; try rfl) ?_; (intro K hK; go_simp; refine hK _ ?_; clear hK K))
    (refine wq_val (by rfl) (fun w' hw' => by obtain ⟨hc, hf⟩ := bcell hw'; go_simp; try rfl) ?_; (intro K hK; go_simp; refine hK _ ?_; clear hK K))
    (refine wq_val (by rfl) (fun w' hw' => by obtain ⟨hc, hf⟩ := bcell hw'; go_simp; try rfl) ?_; (intro K hK; go_simp; refine hK _ ?_; clear hK K))
    (refine wq_val (by rfl) (fun w' hw' => by obtain ⟨hc, hf⟩ := bcell hw'; go_simp; try rfl) ?_; (intro K hK; go_simp; refine hK _ ?_; clear hK K))
    (refine wq_val (by rfl) (fun w' hw' => by obtain ⟨hc, hf⟩ := bcell hw'; go_simp; try rfl) ?_; (intro K hK; go_simp; refine hK _ ?_; clear hK K))
    refine wpQuiet_nil ?_
    intro w1 hb1
    obtain ⟨hc1, hf1⟩ := bcell hb1
    simp only [List.drop_succ_cons, List.drop_zero]
    go_wp2
    have hz : CellsW w1 (w.heap.size + 1) (lgL lg0) := by
      have h := CellsW.new (w.alloc (.cells (lgC ⟨false, d⟩) 30)) (lgL lg0) 30
      have h2 := CellsW.below h hb1 (by simp)
      simpa using h2
    refine bodyPost_ret (v := lgV (negL ⟨false, d⟩)) ?_ rfl ⟨rfl, ?_⟩
    · exact results_lg Tryd.results19 _ (by rfl) (hz.all (lgL (negL ⟨false, d⟩)) rfl)
    · (repeat (first | (with_reducible exact Below.refl _ _) | ((with_reducible refine Below.alloc ?_ ?_ _); rotate_left; focus (first | (simp; done) | (simp; omega) | (have q0 := hb1.size; (try simp at q0); (try simp); omega))) | ((with_reducible refine Below.setCell ?_ ?_ _); rotate_left; focus (first | (simp; done) | (simp; omega) | (have q0 := hb1.size; (try simp at q0); (try simp); omega))) | (with_reducible refine Below.drew ?_) | (with_reducible refine Below.drewN' ?_ _) | (with_reducible refine Below.trans ?_ (hb1.mono ?_); rotate_left; focus (first | (simp; done) | (simp; omega) | (have q0 := hb1.size; (try simp at q0); (try simp); omega)))))
  · go_enter Tryd.func19, Tryd.ntmps19
    go_wp2
    refine wp_region_below_tail 12 (by kernel_rfl) (by kernel_rfl) ?_
    simp only [List.take_succ_cons, List.take_zero]
    (refine wq_val (by rfl) (fun w' hw' => by obtain ⟨hc, hf⟩ := bcell hw'; go_simp; try rfl) ?_; (intro K hK; go_simp; refine hK _ ?_; clear hK K))
    (refine wq_val (by rfl) (fun w' hw' => by obtain ⟨hc, hf⟩ := bcell hw'; go_simp; try rfl) ?_; (intro K hK; go_simp; refine hK _ ?_; clear hK K))
    (refine wq_val (by rfl) (fun w' hw' => by obtain ⟨hc, hf⟩ := bcell hw'; go_simp; try rfl) ?_; (intro K hK; go_simp; refine hK _ ?_; clear hK K))
    (refine wq_val (by rfl) (fun w' hw' => by obtain ⟨hc, hf⟩ := bcell hw'; go_simp; try rfl) ?_; (intro K hK; go_simp; refine hK _ ?_; clear hK K))
    (refine wq_skip (by rfl) ?_; (intro K hK; go_simp; refine hK _ ?_; clear hK K))
    (refine wq_skip (by rfl) ?_; (intro K hK; go_simp; refine hK _ ?_; clear hK K))
    (refine wq_skip (by rfl) ?_; (intro K hK; go_simp; refine hK _ ?_; clear hK K))
    (refine wq_skip (by rfl) ?_; (intro K hK; go_simp; refine hK _ ?_; clear hK K))
    (refine wq_val (by rfl) (fun w' hw' => by obtain ⟨hc, hf⟩ := bcell hw'; go_simp; try rfl) ?_; (intro K hK; go_simp; refine hK _ ?_; clear hK K))
    (refine wq_val (by rfl) (fun w' hw' => by obtain ⟨hc, hf⟩ := bcell hw'; go_simp; try rfl) ?_; (intro K hK; go_simp; refine hK _ ?_; clear hK K))
    (refine wq_val (by rfl) (fun w' hw' => by obtain ⟨hc, hf⟩ := bcell hw'; go_simp; try rfl) ?_; (intro K hK; go_simp; refine hK _ ?_; clear hK K))
    (refine wq_val (by rfl) (fun w' hw' => by obtain ⟨hc, hf⟩ := bcell hw'; go_simp; try rfl) ?_; (intro K hK; go_simp; refine hK _ ?_; clear hK K))
    refine wpQuiet_nil ?_
    intro w1 hb1
    obtain ⟨hc1, hf1⟩ := bcell hb1
    simp only [List.drop_succ_cons, List.drop_zero]
    go_wp2
    have hz : CellsW w1 (w.heap.size + 1) (lgL lg0) := by
      have h := CellsW.new (w.alloc (.cells (lgC ⟨true, d⟩) 30)) (lgL lg0) 30
      have h2 := CellsW.below h hb1 (by simp)
      simpa using h2
    refine bodyPost_ret (v := lgV (negL ⟨true, d⟩)) ?_ rfl ⟨rfl, ?_⟩
    · exact results_lg Tryd.results19 _ (by rfl) (hz.all (lgL (negL ⟨true, d⟩)) rfl)
    · (repeat (first | (with_reducible exact Below.refl _ _) | ((with_reducible refine Below.alloc ?_ ?_ _); rotate_left; focus (first | (simp; done) | (simp; omega) | (have q0 := hb1.size; (try simp at q0); (try simp); omega))) | ((with_reducible refine Below.setCell ?_ ?_ _); rotate_left; focus (first | (simp; done) | (simp; omega) | (have q0 := hb1.size; (try simp at q0); (try simp); omega))) | (with_reducible refine Below.drew ?_) | (with_reducible refine Below.drewN' ?_ _) | (with_reducible refine Below.trans ?_ (hb1.mono ?_); rotate_left; focus (first | (simp; done) | (simp; omega) | (have q0 := hb1.size; (try simp at q0); (try simp); omega)))))

set_option maxRecDepth 100000 in
set_option maxHeartbeats 1000000 in
theorem add_same_any (x y : Lg) (hx : Dig x.d) (hy : Dig y.d) (hm : x.m = y.m) (w : World) :
    Calls Tryd.prog 18 #[lgV x, lgV y] w fun e w' => e = .returned (lgV (addL x y)) ∧ Below w.heap.size w w' := by
  have E : addL x y = ⟨x.m, sumD x.d y.d⟩ := by unfold addL; rw [if_pos hm]
  obtain ⟨m, d⟩ := x
  obtain ⟨m', d'⟩ := y
  obtain rfl : m = m' := hm
  have H := Lib.hid E; clear E
  go_enter Tryd.func18, Tryd.ntmps18
  go_wp2
  refine wp_region_below_tail 8 (by kernel_rfl) (by kernel_rfl) ?_
  simp only [List.take_succ_cons, List.take_zero]
  (refine wq_val (by rfl) (fun w' hw' => by obtain ⟨hc, hf⟩ := bcell hw'; go_simp; try rfl) ?_; (intro K hK; go_simp; refine hK _ ?_; clear hK K))
  (refine wq_val (by rfl) (fun w' hw' => by obtain ⟨hc, hf⟩ := bcell hw'; go_simp; try rfl) ?_; (intro K hK; go_simp; refine hK _ ?_; clear hK K))
  (refine wq_val (by rfl) (fun w' hw' => by obtain ⟨hc, hf⟩ := bcell hw'; go_simp; try rfl) ?_; (intro K hK; go_simp; refine hK _ ?_; clear hK K))
  (refine wq_val (by rfl) (fun w' hw' => by obtain ⟨hc, hf⟩ := bcell hw'; go_simp; try rfl) ?_; (intro K hK; go_simp; refine hK _ ?_; clear hK K))
  (refine wq_val (by rfl) (fun w' hw' => by obtain ⟨hc, hf⟩ := bcell hw'; go_simp; try rfl) ?_; (intro K hK; go_simp; refine hK _ ?_; clear hK K))
  (refine wq_val (by rfl) (fun w' hw' => by obtain ⟨hc, hf⟩ := bcell hw'; go_simp; try rfl) ?_; (intro K hK; go_simp; refine hK _ ?_; clear hK K))
  (refine wq_call (by rfl) (fun w' hw' => by go_simp; try rfl) (fun w' hw' => call_below hw' (sum_any d d' hx hy w')) ?_; (intro K hK; go_simp; refine hK _ ?_; clear hK K))
  (refine wq_val (by rfl) (fun w' hw' => by obtain ⟨hc, hf⟩ := bcell hw'; go_simp; try rfl) ?_; (intro K hK; go_simp; refine hK _ ?_; clear hK K))
  refine wpQuiet_nil ?_
  intro w1 hb1
  obtain ⟨hc1, hf1⟩ := bcell hb1
  simp only [List.drop_succ_cons, List.drop_zero]
  go_wp2
  have hz : CellsW w1 (w.heap.size + 1 + 1) (lgL lg0) := by
    have h := CellsW.new ((w.alloc (.cells (lgC ⟨m, d⟩) 30)).alloc (.cells (lgC ⟨m, d'⟩) 30)) (lgL lg0) 30
    have h2 := CellsW.below h hb1 (by simp)
    simpa using h2
  refine bodyPost_ret (v := lgV (addL ⟨m, d⟩ ⟨m, d'⟩)) ?_ rfl ⟨rfl, ?_⟩
  · rw [H.out]; exact results_lg Tryd.results18 _ (by rfl) (hz.all (lgL ⟨m, sumD d d'⟩) rfl)
  · (repeat (first | (with_reducible exact Below.refl _ _) | ((with_reducible refine Below.alloc ?_ ?_ _); rotate_left; focus (first | (simp; done) | (simp; omega) | (have q0 := hb1.size; (try simp at q0); (try simp); omega))) | ((with_reducible refine Below.setCell ?_ ?_ _); rotate_left; focus (first | (simp; done) | (simp; omega) | (have q0 := hb1.size; (try simp at q0); (try simp); omega))) | (with_reducible refine Below.drew ?_) | (with_reducible refine Below.drewN' ?_ _) | (with_reducible refine Below.trans ?_ (hb1.mono ?_); rotate_left; focus (first | (simp; done) | (simp; omega) | (have q0 := hb1.size; (try simp at q0); (try simp); omega)))))

set_option maxRecDepth 100000 in
set_option maxHeartbeats 1000000 in
theorem add_ge_any (x y : Lg) (hx : Dig x.d) (hy : Dig y.d) (hm : x.m ≠ y.m) (hl : ltD x.d y.d 10 = false) (w : World) :
    Calls Tryd.prog 18 #[lgV x, lgV y] w fun e w' => e = .returned (lgV (addL x y)) ∧ Below w.heap.size w w' := by
  have E : addL x y = ⟨x.m && !(zeroB (difD x.d y.d)), difD x.d y.d⟩ := by unfold addL; rw [if_neg hm, if_neg (by rw [hl]; decide)]
  obtain ⟨m, d⟩ := x
  obtain ⟨m', d'⟩ := y
  have H := Lib.hid E
  have hm' : (m == m') = false := by simpa using hm
  have hl' : ltD d d' 10 = false := hl
  clear E hm hl
  go_enter Tryd.func18, Tryd.ntmps18
  go_wp2_with fail
  refine (below_any d d' _).mono ?_; rintro e w1 ⟨rfl, hb1⟩; obtain ⟨hc1, hf1⟩ := bcell hb1
  rw [hl']
  go_wp2_with fail
  refine (difference_any d d' hx hy _).mono ?_; rintro e w2 ⟨rfl, hb2⟩; obtain ⟨hc2, hf2⟩ := bcell hb2
  have q1 : w.heap.size + 1 + 1 < w1.heap.size := by have := hb1.size; simp at this; omega
  have q2 : w1.heap.size ≤ w2.heap.size := hb2.size
  have q3 : w.heap.size < w1.heap.size := by omega
  have q4 : w.heap.size < w2.heap.size := by omega
  have q5 : w.heap.size + 1 < w1.heap.size := by omega
  have q6 : w.heap.size + 1 < w2.heap.size := by omega
  have q7 : w.heap.size + 1 + 1 < w2.heap.size := by omega
  go_wp2_with fail
  cases m
  · refine wp_region_below_tail 9 (by kernel_rfl) (by kernel_rfl) ?_
    simp only [List.take_succ_cons, List.take_zero]
    (refine wq_val (by rfl) (fun w' hw' => by obtain ⟨hc, hf⟩ := bcell hw'; go_simp; try rfl) ?_; (intro K hK; go_simp; refine hK _ ?_; clear hK K))
    (refine wq_val (by rfl) (fun w' hw' => by obtain ⟨hc, hf⟩ := bcell hw'; go_simp; try rfl) ?_; (intro K hK; go_simp; refine hK _ ?_; clear hK K))
    (refine wq_val (by rfl) (fun w' hw' => by obtain ⟨hc, hf⟩ := bcell hw'; go_simp; try rfl) ?_; (intro K hK; go_simp; refine hK _ ?_; clear hK K))
    (refine wq_skip (by rfl) ?_; (intro K hK; go_simp; refine hK _ ?_; clear hK K))
    (refine wq_skip (by rfl) ?_; (intro K hK; go_simp; refine hK _ ?_; clear hK K))
    (refine wq_skip (by rfl) ?_; (intro K hK; go_simp; refine hK _ ?_; clear hK K))
    (refine wq_val (by rfl) (fun w' hw' => by obtain ⟨hc, hf⟩ := bcell hw'; go_simp; try rfl) ?_; (intro K hK; go_simp; refine hK _ ?_; clear hK K))
    (refine wq_val (by rfl) (fun w' hw' => by obtain ⟨hc, hf⟩ := bcell hw'; go_simp; try rfl) ?_; (intro K hK; go_simp; refine hK _ ?_; clear hK K))
    (refine wq_val (by rfl) (fun w' hw' => by obtain ⟨hc, hf⟩ := bcell hw'; go_simp; try rfl) ?_; (intro K hK; go_simp; refine hK _ ?_; clear hK K))
    refine wpQuiet_nil ?_
    intro w3 hb3
    obtain ⟨hc3, hf3⟩ := bcell hb3
    simp only [List.drop_succ_cons, List.drop_zero]
    go_wp2
    have hz : CellsW w3 (w.heap.size + 1 + 1) (lgL lg0) := by
      have h := CellsW.new ((w.alloc (.cells (lgC ⟨false, d⟩) 30)).alloc (.cells (lgC ⟨m', d'⟩) 30)) (lgL lg0) 30
      have h2 := CellsW.below ((CellsW.below (CellsW.below h hb1 (by simp)) hb2 (by simpa using q1)).alloc (by simpa using q7) _) hb3 (by simp; omega)
      simpa using h2
    refine bodyPost_ret (v := lgV (addL ⟨false, d⟩ ⟨m', d'⟩)) ?_ rfl ⟨rfl, ?_⟩
    · rw [H.out]; exact results_lg Tryd.results18 _ (by rfl) (hz.all (lgL ⟨false, difD d d'⟩) rfl)
    · (repeat (first | (with_reducible exact Below.refl _ _) | ((with_reducible refine Below.alloc ?_ ?_ _); rotate_left; focus (first | (simp; done) | (simp; omega) | (have q0 := hb1.size; (try simp at q0); have q1 := hb2.size; (try simp at q1); have q2 := hb3.size; (try simp at q2); (try simp); omega))) | ((with_reducible refine Below.setCell ?_ ?_ _); rotate_left; focus (first | (simp; done) | (simp; omega) | (have q0 := hb1.size; (try simp at q0); have q1 := hb2.size; (try simp at q1); have q2 := hb3.size; (try simp at q2); (try simp); omega))) | (with_reducible refine Below.drew ?_) | (with_reducible refine Below.drewN' ?_ _) | (with_reducible refine Below.trans ?_ (hb1.mono ?_); rotate_left; focus (first | (simp; done) | (simp; omega) | (have q0 := hb1.size; (try simp at q0); have q1 := hb2.size; (try simp at q1); have q2 := hb3.size; (try simp at q2); (try simp); omega))) | (with_reducible refine Below.trans ?_ (hb2.mono ?_); rotate_left; focus (first | (simp; done) | (simp; omega) | (have q0 := hb1.size; (try simp at q0); have q1 := hb2.size; (try simp at q1); have q2 := hb3.size; (try simp at q2); (try simp); omega))) | (with_reducible refine Below.trans ?_ (hb3.mono ?_); rotate_left; focus (first | (simp; done) | (simp; omega) | (have q0 := hb1.size; (try simp at q0); have q1 := hb2.size; (try simp at q1); have q2 := hb3.size; (try simp at q2); (try simp); omega)))))
  · refine wp_region_below_tail 9 (by kernel_rfl) (by kernel_rfl) ?_
    simp only [List.take_succ_cons, List.take_zero]
    (refine wq_val (by rfl) (fun w' hw' => by obtain ⟨hc, hf⟩ := bcell hw'; go_simp; try rfl) ?_; (intro K hK; go_simp; refine hK _ ?_; clear hK K))
    (refine wq_val (by rfl) (fun w' hw' => by obtain ⟨hc, hf⟩ := bcell hw'; go_simp; try rfl) ?_; (intro K hK; go_simp; refine hK _ ?_; clear hK K))
    (refine wq_val (by rfl) (fun w' hw' => by obtain ⟨hc, hf⟩ := bcell hw'; go_simp; try rfl) ?_; (intro K hK; go_simp; refine hK _ ?_; clear hK K))
    (refine wq_val (by rfl) (fun w' hw' => by obtain ⟨hc, hf⟩ := bcell hw'; go_simp; try rfl) ?_; (intro K hK; go_simp; refine hK _ ?_; clear hK K))
    (refine wq_call (by rfl) (fun w' hw' => by go_simp; try rfl) (fun w' hw' => call_below hw' (zero_any (difD d d') w')) ?_; (intro K hK; go_simp; refine hK _ ?_; clear hK K))
    (refine wq_val (by rfl) (fun w' hw' => by obtain ⟨hc, hf⟩ := bcell hw'; go_simp; try rfl) ?_; (intro K hK; go_simp; refine hK _ ?_; clear hK K))
    (refine wq_val (by rfl) (fun w' hw' => by obtain ⟨hc, hf⟩ := bcell hw'; go_simp; try rfl) ?_; (intro K hK; go_simp; refine hK _ ?_; clear hK K))
    (refine wq_val (by rfl) (fun w' hw' => by obtain ⟨hc, hf⟩ := bcell hw'; go_simp; try rfl) ?_; (intro K hK; go_simp; refine hK _ ?_; clear hK K))
    (refine wq_val (by rfl) (fun w' hw' => by obtain ⟨hc, hf⟩ := bcell hw'; go_simp; try rfl) ?_; (intro K hK; go_simp; refine hK _ ?_; clear hK K))
    refine wpQuiet_nil ?_
    intro w3 hb3
    obtain ⟨hc3, hf3⟩ := bcell hb3
    simp only [List.drop_succ_cons, List.drop_zero]
    go_wp2
    have hz : CellsW w3 (w.heap.size + 1 + 1) (lgL lg0) := by
      have h := CellsW.new ((w.alloc (.cells (lgC ⟨true, d⟩) 30)).alloc (.cells (lgC ⟨m', d'⟩) 30)) (lgL lg0) 30
      have h2 := CellsW.below ((CellsW.below (CellsW.below h hb1 (by simp)) hb2 (by simpa using q1)).alloc (by simpa using q7) _) hb3 (by simp; omega)
      simpa using h2
    refine bodyPost_ret (v := lgV (addL ⟨true, d⟩ ⟨m', d'⟩)) ?_ rfl ⟨rfl, ?_⟩
    · rw [H.out]; exact results_lg Tryd.results18 _ (by rfl) (hz.all (lgL ⟨!(zeroB (difD d d')), difD d d'⟩) rfl)
    · (repeat (first | (with_reducible exact Below.refl _ _) | ((with_reducible refine Below.alloc ?_ ?_ _); rotate_left; focus (first | (simp; done) | (simp; omega) | (have q0 := hb1.size; (try simp at q0); have q1 := hb2.size; (try simp at q1); have q2 := hb3.size; (try simp at q2); (try simp); omega))) | ((with_reducible refine Below.setCell ?_ ?_ _); rotate_left; focus (first | (simp; done) | (simp; omega) | (have q0 := hb1.size; (try simp at q0); have q1 := hb2.size; (try simp at q1); have q2 := hb3.size; (try simp at q2); (try simp); omega))) | (with_reducible refine Below.drew ?_) | (with_reducible refine Below.drewN' ?_ _) | (with_reducible refine Below.trans ?_ (hb1.mono ?_); rotate_left; focus (first | (simp; done) | (simp; omega) | (have q0 := hb1.size; (try simp at q0); have q1 := hb2.size; (try simp at q1); have q2 := hb3.size; (try simp at q2); (try simp); omega))) | (with_reducible refine Below.trans ?_ (hb2.mono ?_); rotate_left; focus (first | (simp; done) | (simp; omega) | (have q0 := hb1.size; (try simp at q0); have q1 := hb2.size; (try simp at q1); have q2 := hb3.size; (try simp at q2); (try simp); omega))) | (with_reducible refine Below.trans ?_ (hb3.mono ?_); rotate_left; focus (first | (simp; done) | (simp; omega) | (have q0 := hb1.size; (try simp at q0); have q1 := hb2.size; (try simp at q1); have q2 := hb3.size; (try simp at q2); (try simp); omega)))))

end Go.Proofs.YtggbnjdbbomjoaaDoor
