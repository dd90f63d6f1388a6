/- The world package (1). -/
import Derived.Test.YtendekbckfpmgaaGreatMb
import Derived.Test.YtendekbckfpmgaaGreatLw
import Derived.Laws.StructEq
import Derived.Deep.Slices
import Derived.ChangeSame
import Derived.Test.YtendekbckfpmgaaGreatMa
import Derived.Test.YtendekbckfpmgaaGreatRows
namespace Go.Proofs.YtendekbckfpmgaaGreat
open Go Go.RowKit Go.Proofs.YtendekbckfpmgaaGreatW.PrintWords Go.Proofs.YtendekbckfpmgaaGreat.PWorldMay
abbrev ownsZ (w : World) (m n : Nat) (D : DataW Unit) : Prop := w.ownsMap Tryz.prog 43 (plainElem Tryz.prog 2) m n D
def numZ (D : DataW Unit) (s : Int) : Int := match D.atKey (.int .i64 s) (.lit (.int .i64 0)) with | .lit (.int _ c) => c | _ => 0
theorem look_z {w : World} {m n : Nat} {D : DataW Unit} (h : ownsZ w m n D) {s : Int} (hs : I64 s) :
 (Instr.lookup 129 (.map (some m)) (.int .i64 s) false).run Tryz.prog w = .ok (.int .i64 (numZ D s)) w ∧ I64 (numZ D s) := by
 have hz : (zeroValue 2).run Tryz.prog w = .ok (.int .i64 0) w := by kernel_rfl
 have l1 : IntKind.i64.min = -9223372036854775808 := by decide
 have l2 : IntKind.i64.max = 9223372036854775807 := by decide
 have hw : (Lit.int .i64 s).wf = true := by
  simp only [Lit.wf, Bool.and_eq_true, decide_eq_true_eq]; rw [l1, l2]; exact hs
 have hk := Maps.keyOf_int_mk Tryz.underlying43 hw
 obtain ⟨v, ps, hr, hv⟩ := h.look_ok (Maps.int_keyed Tryz.underlying43) Tryz.underlying129 hz (plainElem_int Tryz.underlying2 (by decide)) hk
 obtain ⟨c, rfl, hc, hwc⟩ := plainElem_int_inv Tryz.underlying2 hv
 simp only [Prod.mk.injEq] at hc
 obtain ⟨c', hr', hc', _⟩ := h.lookup_int (Maps.int_keyed Tryz.underlying43) Tryz.underlying129 Tryz.underlying2 hz hk
 have e : numZ D s = c := by unfold numZ; rw [hc.1]
 have e' : numZ D s = c' := by unfold numZ; rw [hc']
 refine ⟨by rw [e']; exact hr', ?_⟩
 rw [e]
 simp only [Lit.wf, Bool.and_eq_true, decide_eq_true_eq] at hwc
 rw [l1, l2] at hwc
 exact hwc
def isB (D : DataW Unit) (v : S47) (s : Int) : Bool :=
 if s = 0 then v.f0 == 0 && (v.f2.f0 == 0 && (v.f2.f1 == 0 && v.f3 == 0))
 else if s = 1 then (v.f2.f0 == normHi (val v.f2.f0 v.f2.f1) && v.f2.f1 == normLo (val v.f2.f0 v.f2.f1)) && (decide (-1099511627776 ≤ v.f2.f0 ∧ v.f2.f0 ≤ 1099511627776) && (v.f0 == 1 && (v.f1 == false && v.f3 == 0)))
 else decide (0 ≤ v.f3 ∧ v.f3 < numZ D s) && (v.f0 == s && (v.f1 == false && (v.f2.f0 == 0 && v.f2.f1 == 0)))
def WideV (v : S47) : Prop := I64 v.f0 ∧ I64 v.f2.f0 ∧ I64 v.f2.f1 ∧ I64 v.f3
set_option maxRecDepth 100000 in
set_option maxHeartbeats 1000000 in
theorem is_zero {w : World} (m : Option Nat) (D : DataW Unit) (v0 : Int) (v1 : Bool) (v2 v3 v4 : Int) :
 Calls Tryz.prog 99 #[.map m, .agg #[.int .i64 v0, .bool v1, .int .i64 v2, .int .i64 v3, .int .i64 v4], .int .i64 0] w fun e w' => e = .returned (.bool (isB D ⟨v0, v1, ⟨v2, v3⟩, v4⟩ 0)) ∧ Below w.heap.size w w' := by
 go_enter Tryz.func99, Tryz.ntmps99
 go_wp2
 all_goals go_ret
 all_goals refine ⟨?_, by (repeat (first | (with_reducible exact Below.refl _ _) | ((with_reducible refine Below.alloc ?_ ?_ _); rotate_left; focus (first | (simp; done) | (simp; omega))) | ((with_reducible refine Below.setCell ?_ ?_ _); rotate_left; focus (first | (simp; done) | (simp; omega))) | (with_reducible refine Below.drew ?_) | (with_reducible refine Below.drewN' ?_ _)))⟩
 all_goals simp [isB, *]
set_option maxRecDepth 100000 in
set_option maxHeartbeats 1000000 in
theorem is_other {w : World} {m n : Nat} {D : DataW Unit} (h : ownsZ w m n D) (v0 : Int) (v1 : Bool) (v2 v3 v4 s : Int) (hs : I64 s) (h0 : s ≠ 0) (h1 : s ≠ 1) :
 Calls Tryz.prog 99 #[.map (some m), .agg #[.int .i64 v0, .bool v1, .int .i64 v2, .int .i64 v3, .int .i64 v4], .int .i64 s] w fun e w' => e = .returned (.bool (isB D ⟨v0, v1, ⟨v2, v3⟩, v4⟩ s)) ∧ Below w.heap.size w w' := by
 have HD := Lib.hid h
 have e0 : (s == 0) = false := by simpa using h0
 have e1 : (s == 1) = false := by simpa using h1
 have H01 := Lib.hid (And.intro h0 h1)
 clear h h0 h1
 by_cases h4 : v4 < 0
 case pos =>
  go_enter Tryz.func99, Tryz.ntmps99
  go_wp2
  go_ret
  refine ⟨?_, by (repeat (first | (with_reducible exact Below.refl _ _) | ((with_reducible refine Below.alloc ?_ ?_ _); rotate_left; focus (first | (simp; done) | (simp; omega))) | ((with_reducible refine Below.setCell ?_ ?_ _); rotate_left; focus (first | (simp; done) | (simp; omega))) | (with_reducible refine Below.drew ?_) | (with_reducible refine Below.drewN' ?_ _)))⟩
  obtain ⟨h0, h1⟩ := H01.out
  have : ¬ (0 ≤ v4 ∧ v4 < numZ D s) := by omega
  simp [isB, h0, h1, this]
 case neg =>
 have hlook : ∀ w', Below w.heap.size w w' → (Instr.lookup 129 (.map (some m)) (.int .i64 s) false).run Tryz.prog w' = .ok (.int .i64 (numZ D s)) w' := fun w' hb => (look_z (ownsMap_ch (S := fun _ => False) HD.out (Ch.ofBelow hb) (fun e => e)) hs).1
 have HL := Lib.hid hlook
 clear hlook
 by_cases h5 : numZ D s ≤ v4
 case pos =>
  go_enter Tryz.func99, Tryz.ntmps99
  go_wp2_with fail
  rw [HL.out _ (by (repeat (first | (with_reducible exact Below.refl _ _) | ((with_reducible refine Below.alloc ?_ ?_ _); rotate_left; focus (first | (simp; done) | (simp; omega))) | ((with_reducible refine Below.setCell ?_ ?_ _); rotate_left; focus (first | (simp; done) | (simp; omega))) | (with_reducible refine Below.drew ?_) | (with_reducible refine Below.drewN' ?_ _))))]
  go_wp2
  go_ret
  refine ⟨?_, by (repeat (first | (with_reducible exact Below.refl _ _) | ((with_reducible refine Below.alloc ?_ ?_ _); rotate_left; focus (first | (simp; done) | (simp; omega))) | ((with_reducible refine Below.setCell ?_ ?_ _); rotate_left; focus (first | (simp; done) | (simp; omega))) | (with_reducible refine Below.drew ?_) | (with_reducible refine Below.drewN' ?_ _)))⟩
  obtain ⟨h0, h1⟩ := H01.out
  have : ¬ (0 ≤ v4 ∧ v4 < numZ D s) := by omega
  simp [isB, h0, h1, this]
 case neg =>
  go_enter Tryz.func99, Tryz.ntmps99
  go_wp2_with fail
  rw [HL.out _ (by (repeat (first | (with_reducible exact Below.refl _ _) | ((with_reducible refine Below.alloc ?_ ?_ _); rotate_left; focus (first | (simp; done) | (simp; omega))) | ((with_reducible refine Below.setCell ?_ ?_ _); rotate_left; focus (first | (simp; done) | (simp; omega))) | (with_reducible refine Below.drew ?_) | (with_reducible refine Below.drewN' ?_ _))))]
  go_wp2
  all_goals go_ret
  all_goals refine ⟨?_, by (repeat (first | (with_reducible exact Below.refl _ _) | ((with_reducible refine Below.alloc ?_ ?_ _); rotate_left; focus (first | (simp; done) | (simp; omega))) | ((with_reducible refine Below.setCell ?_ ?_ _); rotate_left; focus (first | (simp; done) | (simp; omega))) | (with_reducible refine Below.drew ?_) | (with_reducible refine Below.drewN' ?_ _)))⟩
  all_goals (obtain ⟨h0, h1⟩ := H01.out)
  all_goals (have h6 : 0 ≤ v4 ∧ v4 < numZ D s := by omega)
  all_goals simp [isB, *]
set_option maxRecDepth 100000 in
set_option maxHeartbeats 2000000 in
theorem is_one {w : World} (m : Option Nat) (D : DataW Unit) (v0 : Int) (v1 : Bool) (v2 v3 v4 : Int) (h2 : I64 v2) (h3 : I64 v3) :
 Calls Tryz.prog 99 #[.map m, .agg #[.int .i64 v0, .bool v1, .int .i64 v2, .int .i64 v3, .int .i64 v4], .int .i64 1] w fun e w' => e = .returned (.bool (isB D ⟨v0, v1, ⟨v2, v3⟩, v4⟩ 1)) ∧ Below w.heap.size w w' := by
 have HN := Lib.hid (fun w' => normal_any v2 v3 h2 h3 w')
 clear h2 h3
 have HH := Lib.hid (show normHi (val v2 v3) = normHi (val v2 v3) ∧ normLo (val v2 v3) = normLo (val v2 v3) from ⟨rfl, rfl⟩)
 generalize hnh : normHi (val v2 v3) = nh at HN HH
 generalize hnl : normLo (val v2 v3) = nl at HN HH
 replace HH := Lib.hid (And.intro hnh hnl)
 clear hnh hnl
 by_cases a1 : v2 = nh
 case neg =>
  have a1' : (v2 == nh) = false := by simpa using a1
  go_enter Tryz.func99, Tryz.ntmps99
  go_wp2_with fail
  refine wp_region_below (by kernel_rfl) (by kernel_rfl) ?_
  iterate 4 (refine wq_val (by rfl) (fun w' hw' => by obtain ⟨hc, hf⟩ := bcell hw'; go_simp; try rfl) ?_; (intro K hK; go_simp; refine hK _ ?_; clear hK K))
  (refine wq_call (by rfl) (fun w' hw' => by go_simp; try rfl) (fun w' hw' => call_below hw' (HN.out w')) ?_; (intro K hK; go_simp; refine hK _ ?_; clear hK K))
  (refine wq_val (v := .bool true) (by rfl) (fun w' hw' => by go_simp; try rfl) ?_; (intro K hK; go_simp; refine hK _ ?_; clear hK K))
  (refine wq_val (by rfl) (fun w' hw' => by obtain ⟨hc, hf⟩ := bcell hw'; go_simp; try rfl) ?_; (intro K hK; go_simp; refine hK _ ?_; clear hK K))
  (refine wq_skip (by rfl) ?_; (intro K hK; go_simp; refine hK _ ?_; clear hK K))
  (refine wq_skip (by rfl) ?_; (intro K hK; go_simp; refine hK _ ?_; clear hK K))
  (refine wq_skip (by rfl) ?_; (intro K hK; go_simp; refine hK _ ?_; clear hK K))
  (refine wq_skip (by rfl) ?_; (intro K hK; go_simp; refine hK _ ?_; clear hK K))
  iterate 2 (refine wq_val (by rfl) (fun w' hw' => by obtain ⟨hc, hf⟩ := bcell hw'; go_simp; try rfl) ?_; (intro K hK; go_simp; refine hK _ ?_; clear hK K))
  (refine wq_skip (by rfl) ?_; (intro K hK; go_simp; refine hK _ ?_; clear hK K))
  (refine wq_skip (by rfl) ?_; (intro K hK; go_simp; refine hK _ ?_; clear hK K))
  (refine wq_skip (by rfl) ?_; (intro K hK; go_simp; refine hK _ ?_; clear hK K))
  (refine wq_skip (by rfl) ?_; (intro K hK; go_simp; refine hK _ ?_; clear hK K))
  (refine wq_val (by rfl) (fun w' hw' => by obtain ⟨hc, hf⟩ := bcell hw'; go_simp; try rfl) ?_; (intro K hK; go_simp; refine hK _ ?_; clear hK K))
  refine wpQuiet_nil ?_; intro w4 hb4
  obtain ⟨hcc, hff⟩ := bcell hb4
  have z0 := hcc w.heap.size 0 (by simp; omega); have z1 := hcc w.heap.size 1 (by simp; omega); have z2 := hcc w.heap.size 2 (by simp; omega); have z3 := hcc w.heap.size 3 (by simp; omega); have z4 := hcc w.heap.size 4 (by simp; omega)
  have y0 := hcc (w.heap.size + 1) 0 (by simp); have y1 := hcc (w.heap.size + 1) 1 (by simp); have y2 := hcc (w.heap.size + 1) 2 (by simp); have y3 := hcc (w.heap.size + 1) 3 (by simp); have y4 := hcc (w.heap.size + 1) 4 (by simp)
  simp at z0 z1 z2 z3 z4 y0 y1 y2 y3 y4
  have HB4 := Lib.hid (show Below w.heap.size w w4 by (repeat (first | (with_reducible exact Below.refl _ _) | ((with_reducible refine Below.alloc ?_ ?_ _); rotate_left; focus (first | (simp; done) | (simp; omega) | (have q0 := hb4.size; (try simp at q0); (try simp); omega))) | ((with_reducible refine Below.setCell ?_ ?_ _); rotate_left; focus (first | (simp; done) | (simp; omega) | (have q0 := hb4.size; (try simp at q0); (try simp); omega))) | (with_reducible refine Below.drew ?_) | (with_reducible refine Below.drewN' ?_ _) | (with_reducible refine Below.trans ?_ (hb4.mono ?_); rotate_left; focus (first | (simp; done) | (simp; omega) | (have q0 := hb4.size; (try simp at q0); (try simp); omega))))))
  clear hcc hff hb4 HN
  go_wp2
  all_goals go_ret
  all_goals refine ⟨?_, HB4.out⟩
  all_goals (obtain ⟨g1, g2⟩ := HH.out)
  all_goals (try simp [isB, *])
  all_goals (try (intros; omega))
 by_cases a2 : v3 = nl
 case neg =>
  have a2' : (v3 == nl) = false := by simpa using a2
  have HA := Lib.hid a1
  subst a1
  go_enter Tryz.func99, Tryz.ntmps99
  go_wp2_with fail
  refine wp_region_below (by kernel_rfl) (by kernel_rfl) ?_
  iterate 4 (refine wq_val (by rfl) (fun w' hw' => by obtain ⟨hc, hf⟩ := bcell hw'; go_simp; try rfl) ?_; (intro K hK; go_simp; refine hK _ ?_; clear hK K))
  (refine wq_call (by rfl) (fun w' hw' => by go_simp; try rfl) (fun w' hw' => call_below hw' (HN.out w')) ?_; (intro K hK; go_simp; refine hK _ ?_; clear hK K))
  (refine wq_val (v := .bool true) (by rfl) (fun w' hw' => by go_simp; try rfl) ?_; (intro K hK; go_simp; refine hK _ ?_; clear hK K))
  (refine wq_val (by rfl) (fun w' hw' => by obtain ⟨hc, hf⟩ := bcell hw'; go_simp; try rfl) ?_; (intro K hK; go_simp; refine hK _ ?_; clear hK K))
  (refine wq_skip (by rfl) ?_; (intro K hK; go_simp; refine hK _ ?_; clear hK K))
  (refine wq_skip (by rfl) ?_; (intro K hK; go_simp; refine hK _ ?_; clear hK K))
  (refine wq_skip (by rfl) ?_; (intro K hK; go_simp; refine hK _ ?_; clear hK K))
  (refine wq_skip (by rfl) ?_; (intro K hK; go_simp; refine hK _ ?_; clear hK K))
  iterate 2 (refine wq_val (by rfl) (fun w' hw' => by obtain ⟨hc, hf⟩ := bcell hw'; go_simp; try rfl) ?_; (intro K hK; go_simp; refine hK _ ?_; clear hK K))
  (refine wq_skip (by rfl) ?_; (intro K hK; go_simp; refine hK _ ?_; clear hK K))
  (refine wq_skip (by rfl) ?_; (intro K hK; go_simp; refine hK _ ?_; clear hK K))
  (refine wq_skip (by rfl) ?_; (intro K hK; go_simp; refine hK _ ?_; clear hK K))
  (refine wq_skip (by rfl) ?_; (intro K hK; go_simp; refine hK _ ?_; clear hK K))
  (refine wq_val (by rfl) (fun w' hw' => by obtain ⟨hc, hf⟩ := bcell hw'; go_simp; try rfl) ?_; (intro K hK; go_simp; refine hK _ ?_; clear hK K))
  refine wpQuiet_nil ?_; intro w4 hb4
  obtain ⟨hcc, hff⟩ := bcell hb4
  have z0 := hcc w.heap.size 0 (by simp; omega); have z1 := hcc w.heap.size 1 (by simp; omega); have z2 := hcc w.heap.size 2 (by simp; omega); have z3 := hcc w.heap.size 3 (by simp; omega); have z4 := hcc w.heap.size 4 (by simp; omega)
  have y0 := hcc (w.heap.size + 1) 0 (by simp); have y1 := hcc (w.heap.size + 1) 1 (by simp); have y2 := hcc (w.heap.size + 1) 2 (by simp); have y3 := hcc (w.heap.size + 1) 3 (by simp); have y4 := hcc (w.heap.size + 1) 4 (by simp)
  simp at z0 z1 z2 z3 z4 y0 y1 y2 y3 y4
  have HB4 := Lib.hid (show Below w.heap.size w w4 by (repeat (first | (with_reducible exact Below.refl _ _) | ((with_reducible refine Below.alloc ?_ ?_ _); rotate_left; focus (first | (simp; done) | (simp; omega) | (have q0 := hb4.size; (try simp at q0); (try simp); omega))) | ((with_reducible refine Below.setCell ?_ ?_ _); rotate_left; focus (first | (simp; done) | (simp; omega) | (have q0 := hb4.size; (try simp at q0); (try simp); omega))) | (with_reducible refine Below.drew ?_) | (with_reducible refine Below.drewN' ?_ _) | (with_reducible refine Below.trans ?_ (hb4.mono ?_); rotate_left; focus (first | (simp; done) | (simp; omega) | (have q0 := hb4.size; (try simp at q0); (try simp); omega))))))
  clear hcc hff hb4 HN
  go_wp2
  all_goals go_ret
  all_goals refine ⟨?_, HB4.out⟩
  all_goals (obtain ⟨g1, g2⟩ := HH.out)
  all_goals (try simp [isB, *])
  all_goals (try (intros; omega))
 subst a1
 subst a2
 by_cases a3 : v2 < -1099511627776
 case pos =>
  have HA3 := Lib.hid a3
  go_enter Tryz.func99, Tryz.ntmps99
  go_wp2_with fail
  refine wp_region_below (by kernel_rfl) (by kernel_rfl) ?_
  iterate 4 (refine wq_val (by rfl) (fun w' hw' => by obtain ⟨hc, hf⟩ := bcell hw'; go_simp; try rfl) ?_; (intro K hK; go_simp; refine hK _ ?_; clear hK K))
  (refine wq_call (by rfl) (fun w' hw' => by go_simp; try rfl) (fun w' hw' => call_below hw' (HN.out w')) ?_; (intro K hK; go_simp; refine hK _ ?_; clear hK K))
  (refine wq_val (v := .bool false) (by rfl) (fun w' hw' => by go_simp; try rfl) ?_; (intro K hK; go_simp; refine hK _ ?_; clear hK K))
  iterate 4 (refine wq_val (by rfl) (fun w' hw' => by obtain ⟨hc, hf⟩ := bcell hw'; go_simp; try rfl) ?_; (intro K hK; go_simp; refine hK _ ?_; clear hK K))
  (refine wq_val (v := .bool true) (by rfl) (fun w' hw' => by obtain ⟨hc, hf⟩ := bcell hw'; go_simp <;> first | rfl | (simp; omega) | omega) ?_; (intro K hK; go_simp; refine hK _ ?_; clear hK K))
  iterate 2 (refine wq_val (by rfl) (fun w' hw' => by obtain ⟨hc, hf⟩ := bcell hw'; go_simp; try rfl) ?_; (intro K hK; go_simp; refine hK _ ?_; clear hK K))
  (refine wq_skip (by rfl) ?_; (intro K hK; go_simp; refine hK _ ?_; clear hK K))
  (refine wq_skip (by rfl) ?_; (intro K hK; go_simp; refine hK _ ?_; clear hK K))
  (refine wq_skip (by rfl) ?_; (intro K hK; go_simp; refine hK _ ?_; clear hK K))
  (refine wq_skip (by rfl) ?_; (intro K hK; go_simp; refine hK _ ?_; clear hK K))
  (refine wq_val (by rfl) (fun w' hw' => by obtain ⟨hc, hf⟩ := bcell hw'; go_simp; try rfl) ?_; (intro K hK; go_simp; refine hK _ ?_; clear hK K))
  refine wpQuiet_nil ?_; intro w4 hb4
  obtain ⟨hcc, hff⟩ := bcell hb4
  have z0 := hcc w.heap.size 0 (by simp; omega); have z1 := hcc w.heap.size 1 (by simp; omega); have z2 := hcc w.heap.size 2 (by simp; omega); have z3 := hcc w.heap.size 3 (by simp; omega); have z4 := hcc w.heap.size 4 (by simp; omega)
  have y0 := hcc (w.heap.size + 1) 0 (by simp); have y1 := hcc (w.heap.size + 1) 1 (by simp); have y2 := hcc (w.heap.size + 1) 2 (by simp); have y3 := hcc (w.heap.size + 1) 3 (by simp); have y4 := hcc (w.heap.size + 1) 4 (by simp)
  simp at z0 z1 z2 z3 z4 y0 y1 y2 y3 y4
  have HB4 := Lib.hid (show Below w.heap.size w w4 by (repeat (first | (with_reducible exact Below.refl _ _) | ((with_reducible refine Below.alloc ?_ ?_ _); rotate_left; focus (first | (simp; done) | (simp; omega) | (have q0 := hb4.size; (try simp at q0); (try simp); omega))) | ((with_reducible refine Below.setCell ?_ ?_ _); rotate_left; focus (first | (simp; done) | (simp; omega) | (have q0 := hb4.size; (try simp at q0); (try simp); omega))) | (with_reducible refine Below.drew ?_) | (with_reducible refine Below.drewN' ?_ _) | (with_reducible refine Below.trans ?_ (hb4.mono ?_); rotate_left; focus (first | (simp; done) | (simp; omega) | (have q0 := hb4.size; (try simp at q0); (try simp); omega))))))
  clear hcc hff hb4 HN
  go_wp2
  all_goals go_ret
  all_goals refine ⟨?_, HB4.out⟩
  all_goals (obtain ⟨g1, g2⟩ := HH.out; have := HA3.out; have g3 : ¬ (-1099511627776 ≤ v2 ∧ v2 ≤ 1099511627776) := by omega)
  all_goals (try simp [isB, *])
  all_goals (try (intros; omega))
 have a3' : ¬ v2 < -1099511627776 := a3
 by_cases a4 : 1099511627776 < v2
 case pos =>
  have HA3 := Lib.hid a4
  go_enter Tryz.func99, Tryz.ntmps99
  go_wp2_with fail
  refine wp_region_below (by kernel_rfl) (by kernel_rfl) ?_
  iterate 4 (refine wq_val (by rfl) (fun w' hw' => by obtain ⟨hc, hf⟩ := bcell hw'; go_simp; try rfl) ?_; (intro K hK; go_simp; refine hK _ ?_; clear hK K))
  (refine wq_call (by rfl) (fun w' hw' => by go_simp; try rfl) (fun w' hw' => call_below hw' (HN.out w')) ?_; (intro K hK; go_simp; refine hK _ ?_; clear hK K))
  (refine wq_val (v := .bool false) (by rfl) (fun w' hw' => by go_simp; try rfl) ?_; (intro K hK; go_simp; refine hK _ ?_; clear hK K))
  iterate 4 (refine wq_val (by rfl) (fun w' hw' => by obtain ⟨hc, hf⟩ := bcell hw'; go_simp; try rfl) ?_; (intro K hK; go_simp; refine hK _ ?_; clear hK K))
  (refine wq_val (v := .bool false) (by rfl) (fun w' hw' => by obtain ⟨hc, hf⟩ := bcell hw'; go_simp <;> first | rfl | (simp; omega) | omega) ?_; (intro K hK; go_simp; refine hK _ ?_; clear hK K))
  iterate 5 (refine wq_val (by rfl) (fun w' hw' => by obtain ⟨hc, hf⟩ := bcell hw'; go_simp; try rfl) ?_; (intro K hK; go_simp; refine hK _ ?_; clear hK K))
  (refine wq_val (v := .bool true) (by rfl) (fun w' hw' => by obtain ⟨hc, hf⟩ := bcell hw'; go_simp <;> first | rfl | (simp; omega) | omega) ?_; (intro K hK; go_simp; refine hK _ ?_; clear hK K))
  (refine wq_val (by rfl) (fun w' hw' => by obtain ⟨hc, hf⟩ := bcell hw'; go_simp; try rfl) ?_; (intro K hK; go_simp; refine hK _ ?_; clear hK K))
  refine wpQuiet_nil ?_; intro w4 hb4
  obtain ⟨hcc, hff⟩ := bcell hb4
  have z0 := hcc w.heap.size 0 (by simp; omega); have z1 := hcc w.heap.size 1 (by simp; omega); have z2 := hcc w.heap.size 2 (by simp; omega); have z3 := hcc w.heap.size 3 (by simp; omega); have z4 := hcc w.heap.size 4 (by simp; omega)
  have y0 := hcc (w.heap.size + 1) 0 (by simp); have y1 := hcc (w.heap.size + 1) 1 (by simp); have y2 := hcc (w.heap.size + 1) 2 (by simp); have y3 := hcc (w.heap.size + 1) 3 (by simp); have y4 := hcc (w.heap.size + 1) 4 (by simp)
  simp at z0 z1 z2 z3 z4 y0 y1 y2 y3 y4
  have HB4 := Lib.hid (show Below w.heap.size w w4 by (repeat (first | (with_reducible exact Below.refl _ _) | ((with_reducible refine Below.alloc ?_ ?_ _); rotate_left; focus (first | (simp; done) | (simp; omega) | (have q0 := hb4.size; (try simp at q0); (try simp); omega))) | ((with_reducible refine Below.setCell ?_ ?_ _); rotate_left; focus (first | (simp; done) | (simp; omega) | (have q0 := hb4.size; (try simp at q0); (try simp); omega))) | (with_reducible refine Below.drew ?_) | (with_reducible refine Below.drewN' ?_ _) | (with_reducible refine Below.trans ?_ (hb4.mono ?_); rotate_left; focus (first | (simp; done) | (simp; omega) | (have q0 := hb4.size; (try simp at q0); (try simp); omega))))))
  clear hcc hff hb4 HN
  go_wp2
  all_goals go_ret
  all_goals refine ⟨?_, HB4.out⟩
  all_goals (obtain ⟨g1, g2⟩ := HH.out; have := HA3.out; have g3 : ¬ (-1099511627776 ≤ v2 ∧ v2 ≤ 1099511627776) := by omega)
  all_goals (try simp [isB, *])
  all_goals (try (intros; omega))
 case neg =>
  have HA3 := Lib.hid (And.intro a3 a4)
  go_enter Tryz.func99, Tryz.ntmps99
  go_wp2_with fail
  refine wp_region_below (by kernel_rfl) (by kernel_rfl) ?_
  iterate 4 (refine wq_val (by rfl) (fun w' hw' => by obtain ⟨hc, hf⟩ := bcell hw'; go_simp; try rfl) ?_; (intro K hK; go_simp; refine hK _ ?_; clear hK K))
  (refine wq_call (by rfl) (fun w' hw' => by go_simp; try rfl) (fun w' hw' => call_below hw' (HN.out w')) ?_; (intro K hK; go_simp; refine hK _ ?_; clear hK K))
  (refine wq_val (v := .bool false) (by rfl) (fun w' hw' => by go_simp; try rfl) ?_; (intro K hK; go_simp; refine hK _ ?_; clear hK K))
  iterate 4 (refine wq_val (by rfl) (fun w' hw' => by obtain ⟨hc, hf⟩ := bcell hw'; go_simp; try rfl) ?_; (intro K hK; go_simp; refine hK _ ?_; clear hK K))
  (refine wq_val (v := .bool false) (by rfl) (fun w' hw' => by obtain ⟨hc, hf⟩ := bcell hw'; go_simp <;> first | rfl | (simp; omega) | omega) ?_; (intro K hK; go_simp; refine hK _ ?_; clear hK K))
  iterate 5 (refine wq_val (by rfl) (fun w' hw' => by obtain ⟨hc, hf⟩ := bcell hw'; go_simp; try rfl) ?_; (intro K hK; go_simp; refine hK _ ?_; clear hK K))
  (refine wq_val (v := .bool false) (by rfl) (fun w' hw' => by obtain ⟨hc, hf⟩ := bcell hw'; go_simp <;> first | rfl | (simp; omega) | omega) ?_; (intro K hK; go_simp; refine hK _ ?_; clear hK K))
  (refine wq_val (by rfl) (fun w' hw' => by obtain ⟨hc, hf⟩ := bcell hw'; go_simp; try rfl) ?_; (intro K hK; go_simp; refine hK _ ?_; clear hK K))
  refine wpQuiet_nil ?_; intro w4 hb4
  obtain ⟨hcc, hff⟩ := bcell hb4
  have z0 := hcc w.heap.size 0 (by simp; omega); have z1 := hcc w.heap.size 1 (by simp; omega); have z2 := hcc w.heap.size 2 (by simp; omega); have z3 := hcc w.heap.size 3 (by simp; omega); have z4 := hcc w.heap.size 4 (by simp; omega)
  have y0 := hcc (w.heap.size + 1) 0 (by simp); have y1 := hcc (w.heap.size + 1) 1 (by simp); have y2 := hcc (w.heap.size + 1) 2 (by simp); have y3 := hcc (w.heap.size + 1) 3 (by simp); have y4 := hcc (w.heap.size + 1) 4 (by simp)
  simp at z0 z1 z2 z3 z4 y0 y1 y2 y3 y4
  have HB4 := Lib.hid (show Below w.heap.size w w4 by (repeat (first | (with_reducible exact Below.refl _ _) | ((with_reducible refine Below.alloc ?_ ?_ _); rotate_left; focus (first | (simp; done) | (simp; omega) | (have q0 := hb4.size; (try simp at q0); (try simp); omega))) | ((with_reducible refine Below.setCell ?_ ?_ _); rotate_left; focus (first | (simp; done) | (simp; omega) | (have q0 := hb4.size; (try simp at q0); (try simp); omega))) | (with_reducible refine Below.drew ?_) | (with_reducible refine Below.drewN' ?_ _) | (with_reducible refine Below.trans ?_ (hb4.mono ?_); rotate_left; focus (first | (simp; done) | (simp; omega) | (have q0 := hb4.size; (try simp at q0); (try simp); omega))))))
  clear hcc hff hb4 HN
  go_wp2
  all_goals go_ret
  all_goals refine ⟨?_, HB4.out⟩
  all_goals (obtain ⟨g1, g2⟩ := HH.out; have := HA3.out; have g3 : -1099511627776 ≤ v2 ∧ v2 ≤ 1099511627776 := by omega)
  all_goals (try simp [isB, *])
  all_goals (try (intros; omega))
theorem is_any {w : World} {m n : Nat} {D : DataW Unit} (h : ownsZ w m n D) (v : S47) (hv : WideV v) (s : Int) (hs : I64 s) :
 Calls Tryz.prog 99 #[.map (some m), .agg #[.int .i64 v.f0, .bool v.f1, .int .i64 v.f2.f0, .int .i64 v.f2.f1, .int .i64 v.f3], .int .i64 s] w fun e w' => e = .returned (.bool (isB D v s)) ∧ Below w.heap.size w w' := by
 obtain ⟨v0, v1, ⟨v2, v3⟩, v4⟩ := v
 by_cases h0 : s = 0
 · subst h0; exact is_zero _ _ _ _ _ _ _
 by_cases h1 : s = 1
 · subst h1; exact is_one _ _ _ _ _ _ _ hv.2.1 hv.2.2.1
 · exact is_other h _ _ _ _ _ s hs h0 h1
end Go.Proofs.YtendekbckfpmgaaGreat
namespace Go.Proofs.YtendekbckfpmgaaGreat
open Go Go.ChangeShapes Go.RowKit Go.Proofs.YtendekbckfpmgaaGreatW.PrintWords
set_option linter.unusedVariables false
set_option linter.unusedSimpArgs false
theorem add_twice (a : Addr) (m n : Nat) : (a.add m).add n = a.add (m + n) := by
 obtain ⟨b, o, k⟩ := a
 unfold Addr.add
 by_cases hm : m = 0 <;> by_cases hn : n = 0 <;> simp [hm, hn, Nat.add_assoc]
def Opens (P : Program) {α : Type} (d : Kd α) (Pr : α → Prop) (t : TypeId) : Prop :=
 ∀ (H : Type) (enc : TypeId × Value → H) (w : World) (base : Nat) (spare : Nat → Bool) (held : Bool) (fuel : Nat) (cs : List Value) (x : DataW H × List MemPlace),
  DataW.trod enc P w base spare held fuel t cs = some x → ∃ y, d.K w y cs ∧ Pr y
theorem opens_int {P : Program} {t : TypeId} {k : IntKind} (ht : P.underlying t = some (.int k)) : Opens P (Kd.int k) (fun n => (Lit.int k n).wf = true) t := by
 intro H enc w base spare held fuel cs x h
 cases fuel with
 | zero => simp [DataW.trod] at h
 | succ m =>
  unfold DataW.trod at h
  rw [ht] at h
  split at h <;> simp_all
  rename_i h1 h2
  obtain ⟨⟨rfl, hw⟩, rfl⟩ := h
  exact ⟨_, rfl, hw⟩
theorem opens_bool {P : Program} {t : TypeId} (ht : P.underlying t = some .bool) : Opens P Kd.bool (fun _ => True) t := by
 intro H enc w base spare held fuel cs x h
 cases fuel with
 | zero => simp [DataW.trod] at h
 | succ m =>
  unfold DataW.trod at h
  rw [ht] at h
  split at h
  · exact ⟨_, rfl, trivial⟩
  all_goals simp_all
end Go.Proofs.YtendekbckfpmgaaGreat
namespace Go.Proofs.YtendekbckfpmgaaGreat
open Go Go.RowKit Go.Proofs.YtendekbckfpmgaaGreatW.PrintWords Go.Proofs.YtendekbckfpmgaaGreat.PWorldMay
theorem cells_at {α : Type} {d : Kd α} {w : World} {A : Option Addr} {l : List α} (z : α) (h : Kd.C d w A l.length l) (k : Nat) (hk : k < l.length) (hp : 0 < d.sz) :
 ∃ ad bb oo c, A = some ad ∧ ad.add (k * d.sz) = ⟨bb, oo, none⟩ ∧ d.K w (l.getD k z) c ∧ (∀ j u, c[j]? = some u → w.cell? ⟨bb, oo + j, none⟩ = some u) ∧ bb < w.heap.size := by
 obtain ⟨ad, c, e, _, hK, hc⟩ := Kd.C_get h z k (by omega) (by omega)
 rw [Int.toNat_natCast] at hc hK
 have hlen := d.K_len hK
 obtain ⟨u0, h0⟩ : ∃ u0, c[0]? = some u0 := ⟨_, List.getElem?_eq_getElem (by omega)⟩
 have q0 := hc 0 u0 h0
 rw [Nat.add_zero] at q0
 obtain ⟨bb, oo, hadd⟩ : ∃ bb oo, ad.add (k * d.sz) = ⟨bb, oo, none⟩ := by
  rcases hq : ad.add (k * d.sz) with ⟨bb, oo, sp⟩
  cases sp with
  | none => exact ⟨bb, oo, rfl⟩
  | some s =>
   rw [hq] at q0
   unfold World.cell? at q0
   revert q0
   simp only []
   split <;> intro q0 <;> simp at q0
 have hadd' : ∀ j, ad.add (k * d.sz + j) = ⟨bb, oo + j, none⟩ := fun j => by rw [← addr_add bb oo j, ← hadd]; exact (add_twice ad (k * d.sz) j).symm
 refine ⟨ad, bb, oo, c, e, hadd, hK, fun j u hu => by rw [← hadd' j]; exact hc j u hu, ?_⟩
 rw [hadd] at q0
 exact World.block_lt_of_cell? w ⟨bb, oo, none⟩ q0
def eqB (D : DataW Unit) : List S47 → List Int → Bool
 | [], [] => true
 | v :: r, s :: t => isB D v s && eqB D r t
 | _, _ => false
theorem eqB_len (D : DataW Unit) : ∀ (l : List S47) (ss : List Int), l.length ≠ ss.length → eqB D l ss = false
 | [], [], h => absurd rfl h
 | [], _ :: _, _ => rfl
 | _ :: _, [], _ => rfl
 | v :: r, s :: t, h => by
  have := eqB_len D r t (by simpa using h)
  simp [eqB, this]
structure Sizes (w : World) (zb m n : Nat) (D : DataW Unit) : Prop where
 box : w.cell? ⟨zb, 0, none⟩ = some (.map (some m))
 lt : zb < w.heap.size
 own : ownsZ w m n D
theorem Sizes.below {w w' : World} {zb m n : Nat} {D : DataW Unit} (h : Sizes w zb m n D) (hb : Below w.heap.size w w') : Sizes w' zb m n D :=
 ⟨((bcell hb).1 zb 0 h.lt).trans h.box, Nat.lt_of_lt_of_le h.lt hb.size, ownsMap_ch (S := fun _ => False) h.own (Ch.ofBelow hb) (fun e => e)⟩
set_option maxRecDepth 100000 in
theorem one_any {w : World} {zb m n : Nat} {D : DataW Unit} (h : Sizes w zb m n D) (v : S47) (hv : WideV v) (s : Int) (hs : I64 s) :
 Calls Tryz.prog 102 #[.agg #[.int .i64 v.f0, .bool v.f1, .int .i64 v.f2.f0, .int .i64 v.f2.f1, .int .i64 v.f3], .int .i64 s, .pointer (some ⟨zb, 0, none⟩)] w fun e w' => e = .returned (.bool (isB D v s)) ∧ Below w.heap.size w w' := by
 have HI := Lib.hid (fun w' hb => is_any (Sizes.below h (w' := w') hb).own v hv s hs)
 have hbx := h.box
 have hzl := h.lt
 clear h hv hs
 go_enter Tryz.func102, Tryz.ntmps102
 go_wp2_with fail
 refine (HI.out _ (by (repeat (first | (with_reducible exact Below.refl _ _) | ((with_reducible refine Below.alloc ?_ ?_ _); rotate_left; focus (first | (simp; done) | (simp; omega))) | ((with_reducible refine Below.setCell ?_ ?_ _); rotate_left; focus (first | (simp; done) | (simp; omega))) | (with_reducible refine Below.drew ?_) | (with_reducible refine Below.drewN' ?_ _))))).mono ?_; rintro e w1 ⟨rfl, hb1⟩
 have HB := Lib.hid (show Below w.heap.size w w1 by (repeat (first | (with_reducible exact Below.refl _ _) | ((with_reducible refine Below.alloc ?_ ?_ _); rotate_left; focus (first | (simp; done) | (simp; omega) | (have q0 := hb1.size; (try simp at q0); (try simp); omega))) | ((with_reducible refine Below.setCell ?_ ?_ _); rotate_left; focus (first | (simp; done) | (simp; omega) | (have q0 := hb1.size; (try simp at q0); (try simp); omega))) | (with_reducible refine Below.drew ?_) | (with_reducible refine Below.drewN' ?_ _) | (with_reducible refine Below.trans ?_ (hb1.mono ?_); rotate_left; focus (first | (simp; done) | (simp; omega) | (have q0 := hb1.size; (try simp at q0); (try simp); omega))))))
 clear HI hb1
 go_wp2
 go_ret
 exact ⟨rfl, HB.out⟩
def WideL (l : List S47) : Prop := ∀ v ∈ l, WideV v
set_option maxRecDepth 100000 in
set_option maxHeartbeats 1000000 in
theorem eqFunc_any {w : World} {zb m n : Nat} {D : DataW Unit} (h : Sizes w zb m n D) (A : Option Addr) (l : List S47) (c : Nat) (hl : k47.C w A l.length l) (hw : WideL l) (hlen : l.length ≤ maxLen)
 (A2 : Option Addr) (ss : List Int) (c2 : Nat) (hs : (Kd.int .i64).C w A2 ss.length ss) (hI : ∀ z ∈ ss, I64 z) :
 Calls Tryz.prog 101 #[.slice A l.length c, .slice A2 ss.length c2, .func (.func 102) #[] #[.pointer (some ⟨zb, 0, none⟩)]] w fun e w' => e = .returned (.bool (eqB D l ss)) ∧ Below w.heap.size w w' := by
 by_cases hne : l.length = ss.length
 case neg =>
  have HR := Lib.hid (eqB_len D l ss hne)
  have hne' : ((l.length : Int) != (ss.length : Int)) = true := by simp; omega
  clear h hl hs
  go_enter Tryz.func101, Tryz.ntmps101
  go_wp2_with fail
  go_ret
  exact ⟨by rw [HR.out]; rfl, Below.refl _ _⟩
 case pos =>
 have hmx : maxLen ≤ 9223372036854775807 := by decide
 have H := Lib.hid h
 have HL := Lib.hid hl
 have HW := Lib.hid hw
 have HS := Lib.hid hs
 have HI := Lib.hid hI
 rw [← hne]
 have HNE := Lib.hid hne
 clear h hl hw hs hI hne
 go_enter Tryz.func101, Tryz.ntmps101
 go_wp2_with fail
 go_loopw [17] (fun vi wr => ∃ k : Nat, vi = .int .i64 k ∧ k ≤ l.length ∧ Hid (Below w.heap.size w wr ∧ eqB D l ss = eqB D (l.drop k) (ss.drop k))) (fun vi _ => l.length - (intOf vi).toNat)
 case atStart => exact ⟨0, rfl, by omega, Lib.hid ⟨Below.refl _ _, rfl⟩⟩
 case round =>
  obtain ⟨k, rfl, hk, hh⟩ := hrel
  have HB := Lib.hid hh.out.1
  have HQ := Lib.hid hh.out.2
  clear hh
  by_cases hkl : k < l.length
  case neg =>
   have hkl' : ¬ (k : Int) < l.length := by omega
   have HX := Lib.hid (show eqB D l ss = true by rw [HQ.out, List.drop_of_length_le (by omega), List.drop_of_length_le (by have := HNE.out; omega)]; rfl)
   go_wp2_with fail
   go_ret
   exact ⟨by rw [HX.out]; rfl, HB.out⟩
  case pos =>
   have hkl' : (k : Int) < l.length := by omega
   obtain ⟨ad, bb, oo, cs, rfl, hadd, hK, hc, hbl⟩ := cells_at z47 HL.out k hkl (by decide)
   obtain rfl := k47_open hK
   replace hadd : ad.add (k * 5) = ⟨bb, oo, none⟩ := hadd
   obtain ⟨ad2, bb2, oo2, cs2, rfl, hadd2, hK2, hc2, hbl2⟩ := cells_at (0 : Int) HS.out k (by have := HNE.out; omega) (by decide)
   obtain rfl : cs2 = [.int .i64 (ss.getD k 0)] := hK2
   replace hadd2 : ad2.add (k * 1) = ⟨bb2, oo2, none⟩ := hadd2
   rw [Nat.mul_one] at hadd2
   have hd1 : l.drop k = l.getD k z47 :: l.drop (k + 1) := by rw [List.drop_eq_getElem_cons hkl]; simp [hkl]
   have hk2 : k < ss.length := by have := HNE.out; omega
   have hd2 : ss.drop k = ss.getD k 0 :: ss.drop (k + 1) := by rw [List.drop_eq_getElem_cons hk2]; simp [hk2]
   have hwv : WideV (l.getD k z47) := HW.out _ (by rw [show l.getD k z47 = l[k] by simp [hkl]]; exact List.getElem_mem hkl)
   have hiv : I64 (ss.getD k 0) := HI.out _ (by rw [show ss.getD k 0 = ss[k] by simp [hk2]]; exact List.getElem_mem hk2)
   have HE := Lib.hid (show eqB D l ss = (isB D (l.getD k z47) (ss.getD k 0) && eqB D (l.drop (k + 1)) (ss.drop (k + 1))) by rw [HQ.out, hd1, hd2]; rfl)
   have HO := Lib.hid (fun w' hb => one_any (Sizes.below (H.out.below HB.out) (w' := w') hb) (l.getD k z47) hwv (ss.getD k 0) hiv)
   generalize l.getD k z47 = v at *
   generalize ss.getD k 0 = s at *
   obtain ⟨v0, v1, ⟨v2, v3⟩, v4⟩ := v
   have hcc := (bcell HB.out).1
   have q0 : wr.cell? ⟨bb, oo, none⟩ = some (.int .i64 v0) := (hcc bb oo hbl).trans (by have := hc 0 _ rfl; simpa using this)
   have q1 : wr.cell? ⟨bb, oo + 1, none⟩ = some (.bool v1) := (hcc bb _ hbl).trans (hc 1 _ rfl)
   have q2 : wr.cell? ⟨bb, oo + 2, none⟩ = some (.int .i64 v2) := (hcc bb _ hbl).trans (hc 2 _ rfl)
   have q3 : wr.cell? ⟨bb, oo + 3, none⟩ = some (.int .i64 v3) := (hcc bb _ hbl).trans (hc 3 _ rfl)
   have q4 : wr.cell? ⟨bb, oo + 4, none⟩ = some (.int .i64 v4) := (hcc bb _ hbl).trans (hc 4 _ rfl)
   have p0 : wr.cell? ⟨bb2, oo2, none⟩ = some (.int .i64 s) := (hcc bb2 oo2 hbl2).trans (by have := hc2 0 _ rfl; simpa using this)
   have hbr : bb < wr.heap.size := Nat.lt_of_lt_of_le hbl HB.out.size
   have hbr2 : bb2 < wr.heap.size := Nat.lt_of_lt_of_le hbl2 HB.out.size
   clear hK hc hc2 hd1 hd2 hwv hiv hcc HQ hk2
   go_wp2_with fail
   refine (HO.out _ (by (repeat (first | (with_reducible exact Below.refl _ _) | ((with_reducible refine Below.alloc ?_ ?_ _); rotate_left; focus (first | (simp; done) | (simp; omega))) | ((with_reducible refine Below.setCell ?_ ?_ _); rotate_left; focus (first | (simp; done) | (simp; omega))) | (with_reducible refine Below.drew ?_) | (with_reducible refine Below.drewN' ?_ _))))).mono ?_; rintro e w1 ⟨rfl, hb1⟩
   have HB1 := Lib.hid (show Below wr.heap.size wr w1 by (repeat (first | (with_reducible exact Below.refl _ _) | ((with_reducible refine Below.alloc ?_ ?_ _); rotate_left; focus (first | (simp; done) | (simp; omega) | (have q0 := hb1.size; (try simp at q0); (try simp); omega))) | ((with_reducible refine Below.setCell ?_ ?_ _); rotate_left; focus (first | (simp; done) | (simp; omega) | (have q0 := hb1.size; (try simp at q0); (try simp); omega))) | (with_reducible refine Below.drew ?_) | (with_reducible refine Below.drewN' ?_ _) | (with_reducible refine Below.trans ?_ (hb1.mono ?_); rotate_left; focus (first | (simp; done) | (simp; omega) | (have q0 := hb1.size; (try simp at q0); (try simp); omega))))))
   replace HB1 := Lib.hid (HB.out.trans (HB1.out.mono HB.out.size))
   clear HO hb1 q0 q1 q2 q3 q4 p0
   cases hr : isB D ⟨v0, v1, ⟨v2, v3⟩, v4⟩ s
   · have HX := Lib.hid (show eqB D l ss = false by rw [HE.out, hr]; rfl)
     clear hr
     go_wp2_with fail
     go_ret
     exact ⟨by rw [HX.out]; rfl, HB1.out⟩
   · have HX := Lib.hid (And.intro HB1.out (show eqB D l ss = eqB D (l.drop (k + 1)) (ss.drop (k + 1)) by rw [HE.out, hr]; rfl))
     clear hr
     go_wp2_with fail
     go_roundw
     case rel => exact ⟨k + 1, by go_num, by omega, HX⟩
     case measure => simp [intOf]; omega
end Go.Proofs.YtendekbckfpmgaaGreat
namespace Go.Proofs.YtendekbckfpmgaaGreat
open Go Go.RowKit Go.Proofs.YtendekbckfpmgaaGreatW.PrintWords Go.Proofs.YtendekbckfpmgaaGreat.PWorldMay
structure FnBox (w : World) (fb : Nat) (A3 : Option Addr) (c3 : Nat) (ss : List Int) (res : Int) : Prop where
 c1 : w.cell? ⟨fb, 1, none⟩ = some (.slice A3 ss.length c3)
 c2 : w.cell? ⟨fb, 2, none⟩ = some (.int .i64 res)
 lt : fb < w.heap.size
 args : (Kd.int .i64).C w A3 ss.length ss
theorem FnBox.below {w w' : World} {fb : Nat} {A3 : Option Addr} {c3 : Nat} {ss : List Int} {res : Int} (h : FnBox w fb A3 c3 ss res) (hb : Below w.heap.size w w') : FnBox w' fb A3 c3 ss res :=
 ⟨((bcell hb).1 fb 1 h.lt).trans h.c1, ((bcell hb).1 fb 2 h.lt).trans h.c2, Nat.lt_of_lt_of_le h.lt hb.size, Kd.C_below h.args hb⟩
def rowB (D : DataW Unit) (r : S84) (res : Int) (ss : List Int) : Bool := isB D r.f1 res && eqB D r.f0 ss
def WideRow (r : S84) : Prop := WideL r.f0 ∧ WideV r.f1 ∧ r.f0.length ≤ maxLen
set_option maxRecDepth 100000 in
set_option maxHeartbeats 1000000 in
theorem row_any {w : World} {zb m n fb : Nat} {D : DataW Unit} (h : Sizes w zb m n D) {A3 : Option Addr} {c3 : Nat} {ss : List Int} {res : Int} (hf : FnBox w fb A3 c3 ss res) (hI : ∀ z ∈ ss, I64 z) (hres : I64 res)
 (r : S84) (hr : WideRow r) (A4 : Option Addr) (c4 : Nat) (hC : k47.C w A4 r.f0.length r.f0) :
 Calls Tryz.prog 100 #[.agg #[.slice A4 r.f0.length c4, .int .i64 r.f1.f0, .bool r.f1.f1, .int .i64 r.f1.f2.f0, .int .i64 r.f1.f2.f1, .int .i64 r.f1.f3], .pointer (some ⟨zb, 0, none⟩), .pointer (some ⟨fb, 0, none⟩)] w fun e w' => e = .returned (.bool (!rowB D r res ss)) ∧ Below w.heap.size w w' := by
 have HI := Lib.hid (fun w' hb => is_any (Sizes.below h (w' := w') hb).own r.f1 hr.2.1 res hres)
 have HE := Lib.hid (fun w' hb => eqFunc_any (Sizes.below h (w' := w') hb) A4 r.f0 c4 (Kd.C_below hC hb) hr.1 hr.2.2 A3 ss c3 (hf.below hb).args hI)
 have hbx := h.box
 have hzl := h.lt
 have f1 := hf.c1
 have f2 := hf.c2
 have hfl := hf.lt
 clear h hr hC hf hI hres
 obtain ⟨r0, ⟨v0, v1, ⟨v2, v3⟩, v4⟩⟩ := r
 simp only at HI HE
 go_enter Tryz.func100, Tryz.ntmps100
 go_wp2_with fail
 refine (HI.out _ (by (repeat (first | (with_reducible exact Below.refl _ _) | ((with_reducible refine Below.alloc ?_ ?_ _); rotate_left; focus (first | (simp; done) | (simp; omega))) | ((with_reducible refine Below.setCell ?_ ?_ _); rotate_left; focus (first | (simp; done) | (simp; omega))) | (with_reducible refine Below.drew ?_) | (with_reducible refine Below.drewN' ?_ _))))).mono ?_; rintro e w1 ⟨rfl, hb1⟩
 have HB := Lib.hid (show Below w.heap.size w w1 by (repeat (first | (with_reducible exact Below.refl _ _) | ((with_reducible refine Below.alloc ?_ ?_ _); rotate_left; focus (first | (simp; done) | (simp; omega) | (have q0 := hb1.size; (try simp at q0); (try simp); omega))) | ((with_reducible refine Below.setCell ?_ ?_ _); rotate_left; focus (first | (simp; done) | (simp; omega) | (have q0 := hb1.size; (try simp at q0); (try simp); omega))) | (with_reducible refine Below.drew ?_) | (with_reducible refine Below.drewN' ?_ _) | (with_reducible refine Below.trans ?_ (hb1.mono ?_); rotate_left; focus (first | (simp; done) | (simp; omega) | (have q0 := hb1.size; (try simp at q0); (try simp); omega))))))
 obtain ⟨hcc, _⟩ := bcell hb1
 have hcw := (bcell HB.out).1
 have g1 : w1.cell? ⟨fb, 1, none⟩ = some (.slice A3 ss.length c3) := (hcw fb 1 hfl).trans f1
 have g2 : w1.cell? ⟨fb, 2, none⟩ = some (.int .i64 res) := (hcw fb 2 hfl).trans f2
 have g3 : w1.cell? ⟨zb, 0, none⟩ = some (.map (some m)) := (hcw zb 0 hzl).trans hbx
 have z0 := hcc w.heap.size 0 (by simp)
 simp at z0
 have hsz := HB.out.size
 have hs1 := hb1.size
 simp at hs1
 clear hb1 hcc hcw HI hbx f1 f2
 cases hq : isB D ⟨v0, v1, ⟨v2, v3⟩, v4⟩ res
 · have HR := Lib.hid (show rowB D ⟨r0, ⟨v0, v1, ⟨v2, v3⟩, v4⟩⟩ res ss = false by unfold rowB; rw [hq]; rfl)
   clear hq
   go_wp2_with fail
   go_ret
   exact ⟨by rw [HR.out]; rfl, HB.out⟩
 · have HR := Lib.hid (show rowB D ⟨r0, ⟨v0, v1, ⟨v2, v3⟩, v4⟩⟩ res ss = eqB D r0 ss by unfold rowB; rw [hq]; rfl)
   clear hq
   go_wp2_with fail
   refine (HE.out _ HB.out).mono ?_; rintro e w2 ⟨rfl, hb2⟩
   have HB2 := Lib.hid (HB.out.trans (hb2.mono HB.out.size))
   clear HE hb2
   go_wp2_with fail
   go_ret
   exact ⟨by rw [HR.out]; rfl, HB2.out⟩
def badRow (D : DataW Unit) (res : Int) (ss : List Int) : List S84 → Int → Int
 | [], _ => -1
 | r :: t, i => if rowB D r res ss = false then i else badRow D res ss t (i + 1)
theorem badRow_neg (D : DataW Unit) (res : Int) (ss : List Int) : ∀ (l : List S84) (i : Int), 0 ≤ i → (0 ≤ badRow D res ss l i ↔ ¬ ∀ r ∈ l, rowB D r res ss = true)
 | [], i, _ => by simp [badRow]
 | r :: t, i, h => by
  cases e : rowB D r res ss
  · simp [badRow, e, h]
  · have := badRow_neg D res ss t (i + 1) (by omega)
    simp [badRow, e] at this ⊢
    exact this
def WideRows (l : List S84) : Prop := ∀ r ∈ l, WideRow r
set_option maxRecDepth 100000 in
set_option maxHeartbeats 1000000 in
theorem rows_any {w : World} {zb m n fb : Nat} {D : DataW Unit} (h : Sizes w zb m n D) {A3 : Option Addr} {c3 : Nat} {ss : List Int} {res : Int} (hf : FnBox w fb A3 c3 ss res) (hI : ∀ z ∈ ss, I64 z) (hres : I64 res)
 (A : Option Addr) (l : List S84) (c : Nat) (hl : k84.C w A l.length l) (hw : WideRows l) (hlen : l.length ≤ 2000) :
 Calls Tryz.prog 115 #[.slice A l.length c, .func (.func 100) #[] #[.pointer (some ⟨zb, 0, none⟩), .pointer (some ⟨fb, 0, none⟩)]] w fun e w' => e = .returned (.int .i64 (badRow D res ss l 0)) ∧ Below w.heap.size w w' := by
 have H := Lib.hid h
 have HF := Lib.hid hf
 have HL := Lib.hid hl
 have HW := Lib.hid hw
 have HI := Lib.hid (And.intro hI hres)
 clear h hf hl hw hI hres
 go_enter Tryz.func115, Tryz.ntmps115
 go_wp2_with fail
 go_loopw [8] (fun vi wr => ∃ k : Nat, vi = .int .i64 k ∧ k ≤ l.length ∧ Hid (Below w.heap.size w wr ∧ badRow D res ss l 0 = badRow D res ss (l.drop k) k)) (fun vi _ => l.length - (intOf vi).toNat)
 case atStart => exact ⟨0, rfl, by omega, Lib.hid ⟨Below.refl _ _, rfl⟩⟩
 case round =>
  obtain ⟨k, rfl, hk, hh⟩ := hrel
  have HB := Lib.hid hh.out.1
  have HQ := Lib.hid hh.out.2
  clear hh
  by_cases hkl : k < l.length
  case neg =>
   have hkl' : ¬ (k : Int) < l.length := by omega
   have HX := Lib.hid (show badRow D res ss l 0 = -1 by rw [HQ.out, List.drop_of_length_le (by omega)]; rfl)
   go_wp2_with fail
   go_ret
   exact ⟨by rw [HX.out]; rfl, HB.out⟩
  case pos =>
   have hkl' : (k : Int) < l.length := by omega
   obtain ⟨ad, bb, oo, cs, rfl, hadd, hK, hc, hbl⟩ := cells_at z84 HL.out k hkl (by decide)
   obtain ⟨A4, c4, rfl, hle4, hC4⟩ := k84_open hK
   replace hadd : ad.add (k * 6) = ⟨bb, oo, none⟩ := hadd
   have hd1 : l.drop k = l.getD k z84 :: l.drop (k + 1) := by rw [List.drop_eq_getElem_cons hkl]; simp [hkl]
   have hwv : WideRow (l.getD k z84) := HW.out _ (by rw [show l.getD k z84 = l[k] by simp [hkl]]; exact List.getElem_mem hkl)
   have HE := Lib.hid (show badRow D res ss l 0 = (if rowB D (l.getD k z84) res ss = false then (k : Int) else badRow D res ss (l.drop (k + 1)) ((k + 1 : Nat) : Int)) by rw [HQ.out, hd1]; rfl)
   have HO := Lib.hid (fun w' hb => row_any (Sizes.below (H.out.below HB.out) (w' := w') hb) ((HF.out.below HB.out).below hb) HI.out.1 HI.out.2 (l.getD k z84) hwv A4 c4 (Kd.C_below (Kd.C_below hC4 HB.out) hb))
   generalize l.getD k z84 = r at *
   obtain ⟨r0, ⟨v0, v1, ⟨v2, v3⟩, v4⟩⟩ := r
   simp only at hc HO
   have hcc := (bcell HB.out).1
   have q0 : wr.cell? ⟨bb, oo, none⟩ = some (.slice A4 r0.length c4) := (hcc bb oo hbl).trans (by have := hc 0 _ rfl; simpa using this)
   have q1 : wr.cell? ⟨bb, oo + 1, none⟩ = some (.int .i64 v0) := (hcc bb _ hbl).trans (hc 1 _ rfl)
   have q2 : wr.cell? ⟨bb, oo + 2, none⟩ = some (.bool v1) := (hcc bb _ hbl).trans (hc 2 _ rfl)
   have q3 : wr.cell? ⟨bb, oo + 3, none⟩ = some (.int .i64 v2) := (hcc bb _ hbl).trans (hc 3 _ rfl)
   have q4 : wr.cell? ⟨bb, oo + 4, none⟩ = some (.int .i64 v3) := (hcc bb _ hbl).trans (hc 4 _ rfl)
   have q5 : wr.cell? ⟨bb, oo + 5, none⟩ = some (.int .i64 v4) := (hcc bb _ hbl).trans (hc 5 _ rfl)
   clear hK hc hd1 hwv hcc HQ hC4 hle4
   go_wp2_with fail
   refine (HO.out _ (by (repeat (first | (with_reducible exact Below.refl _ _) | ((with_reducible refine Below.alloc ?_ ?_ _); rotate_left; focus (first | (simp; done) | (simp; omega))) | ((with_reducible refine Below.setCell ?_ ?_ _); rotate_left; focus (first | (simp; done) | (simp; omega))) | (with_reducible refine Below.drew ?_) | (with_reducible refine Below.drewN' ?_ _))))).mono ?_; rintro e w1 ⟨rfl, hb1⟩
   have HB1 := Lib.hid (HB.out.trans (hb1.mono HB.out.size))
   clear HO hb1 q0 q1 q2 q3 q4 q5
   cases hr : rowB D ⟨r0, ⟨v0, v1, ⟨v2, v3⟩, v4⟩⟩ res ss
   · have HX := Lib.hid (show badRow D res ss l 0 = (k : Int) by rw [HE.out, if_pos hr])
     clear hr
     go_wp2_with fail
     go_ret
     exact ⟨by rw [HX.out]; rfl, HB1.out⟩
   · have HX := Lib.hid (And.intro HB1.out (show badRow D res ss l 0 = badRow D res ss (l.drop (k + 1)) ((k + 1 : Nat) : Int) by rw [HE.out, if_neg (by rw [hr]; decide)]))
     clear hr
     go_wp2_with fail
     go_roundw
     case rel => exact ⟨k + 1, by go_num, by omega, HX⟩
     case measure => simp [intOf]; omega
set_option maxRecDepth 100000 in
theorem has_any {w : World} {zb m n fb : Nat} {D : DataW Unit} (h : Sizes w zb m n D) {A3 : Option Addr} {c3 : Nat} {ss : List Int} {res : Int} (hf : FnBox w fb A3 c3 ss res) (hI : ∀ z ∈ ss, I64 z) (hres : I64 res)
 (A : Option Addr) (l : List S84) (c : Nat) (hl : k84.C w A l.length l) (hw : WideRows l) (hlen : l.length ≤ 2000) :
 Calls Tryz.prog 77 #[.slice A l.length c, .func (.func 100) #[] #[.pointer (some ⟨zb, 0, none⟩), .pointer (some ⟨fb, 0, none⟩)]] w fun e w' => e = .returned (.bool (decide (0 ≤ badRow D res ss l 0))) ∧ Below w.heap.size w w' := by
 have HX := Lib.hid (rows_any h hf hI hres A l c hl hw hlen)
 clear h hf hI hres hl hw hlen
 go_enter Tryz.func77, Tryz.ntmps77
 go_wp2_with fail
 refine HX.out.mono ?_; rintro e w1 ⟨rfl, hb⟩
 clear HX
 go_wp2
 go_ret
 exact ⟨rfl, hb⟩
def tableB (D : DataW Unit) (rows : List S84) (els : S47) (res : Int) (ss : List Int) : Bool := decide (rows.length ≤ 2000) && (isB D els res && !decide (0 ≤ badRow D res ss rows 0))
set_option maxRecDepth 100000 in
set_option maxHeartbeats 1000000 in
theorem table_any {w : World} {m n : Nat} {D : DataW Unit} (h : ownsZ w m n D) (nm : ByteArray) (A3 : Option Addr) (c3 : Nat) (ss : List Int) (res : Int) (df : Bool) (hs : (Kd.int .i64).C w A3 ss.length ss) (hI : ∀ z ∈ ss, I64 z) (hres : I64 res)
 (fn : Int) (A : Option Addr) (l : List S84) (c : Nat) (hl : k84.C w A l.length l) (hw : WideRows l) (els : S47) (hels : WideV els) :
 Calls Tryz.prog 52 #[.map (some m), .agg #[.int .i64 fn, .slice A l.length c, .int .i64 els.f0, .bool els.f1, .int .i64 els.f2.f0, .int .i64 els.f2.f1, .int .i64 els.f3], .agg #[.string nm, .slice A3 ss.length c3, .int .i64 res, .bool df]] w fun e w' =>
  e = .returned (.bool (tableB D l els res ss)) ∧ Below w.heap.size w w' := by
 have HI := Lib.hid (fun w' (hb : Below w.heap.size w w') => is_any (ownsMap_ch (S := fun _ => False) h (Ch.ofBelow hb) (fun e => e)) els hels res hres)
 have HA := Lib.hid (fun w' (hb : Below w.heap.size w w') (hsz : Sizes w' w.heap.size m n D) (hfb : FnBox w' (w.heap.size + 2) A3 c3 ss res) (hlen : l.length ≤ 2000) => has_any hsz hfb hI hres A l c (Kd.C_below hl hb) hw hlen)
 have H := Lib.hid h
 have HS := Lib.hid hs
 clear h hs hI hres hl hw hels
 obtain ⟨v0, v1, ⟨v2, v3⟩, v4⟩ := els
 simp only at HI
 by_cases hlen : 2000 < l.length
 case pos =>
  have hlen' : (2000 : Int) < l.length := by omega
  have HR := Lib.hid (show tableB D l ⟨v0, v1, ⟨v2, v3⟩, v4⟩ res ss = false by unfold tableB; rw [decide_eq_false (by omega)]; rfl)
  clear HI HA
  go_enter Tryz.func52, Tryz.ntmps52
  go_wp2_with fail
  go_ret
  exact ⟨by rw [HR.out]; rfl, by (repeat (first | (with_reducible exact Below.refl _ _) | ((with_reducible refine Below.alloc ?_ ?_ _); rotate_left; focus (first | (simp; done) | (simp; omega))) | ((with_reducible refine Below.setCell ?_ ?_ _); rotate_left; focus (first | (simp; done) | (simp; omega))) | (with_reducible refine Below.drew ?_) | (with_reducible refine Below.drewN' ?_ _)))⟩
 case neg =>
 have hlen' : ¬ (2000 : Int) < l.length := by omega
 have hle : l.length ≤ 2000 := by omega
 go_enter Tryz.func52, Tryz.ntmps52
 go_wp2_with fail
 refine (HI.out _ (by (repeat (first | (with_reducible exact Below.refl _ _) | ((with_reducible refine Below.alloc ?_ ?_ _); rotate_left; focus (first | (simp; done) | (simp; omega))) | ((with_reducible refine Below.setCell ?_ ?_ _); rotate_left; focus (first | (simp; done) | (simp; omega))) | (with_reducible refine Below.drew ?_) | (with_reducible refine Below.drewN' ?_ _))))).mono ?_; rintro e w1 ⟨rfl, hb1⟩
 have HB := Lib.hid (show Below w.heap.size w w1 by (repeat (first | (with_reducible exact Below.refl _ _) | ((with_reducible refine Below.alloc ?_ ?_ _); rotate_left; focus (first | (simp; done) | (simp; omega) | (have q0 := hb1.size; (try simp at q0); (try simp); omega))) | ((with_reducible refine Below.setCell ?_ ?_ _); rotate_left; focus (first | (simp; done) | (simp; omega) | (have q0 := hb1.size; (try simp at q0); (try simp); omega))) | (with_reducible refine Below.drew ?_) | (with_reducible refine Below.drewN' ?_ _) | (with_reducible refine Below.trans ?_ (hb1.mono ?_); rotate_left; focus (first | (simp; done) | (simp; omega) | (have q0 := hb1.size; (try simp at q0); (try simp); omega))))))
 obtain ⟨hcc, _⟩ := bcell hb1
 have z0 : w1.cell? ⟨w.heap.size, 0, none⟩ = some (.map (some m)) := (hcc w.heap.size 0 (by simp; try omega)).trans (by rw [World.cell?_alloc_past _ _ _ (by simp; omega), World.cell?_alloc_past _ _ _ (by simp), World.cell?_alloc_at _ _ _ _ rfl]; rfl)
 have t1 : w1.cell? ⟨w.heap.size + 1, 1, none⟩ = some (.slice A l.length c) := (hcc (w.heap.size + 1) 1 (by simp; try omega)).trans (by rw [World.cell?_alloc_past _ _ _ (by simp), World.cell?_alloc_at _ _ _ _ (by simp)]; rfl)
 have f1 : w1.cell? ⟨w.heap.size + 2, 1, none⟩ = some (.slice A3 ss.length c3) := (hcc (w.heap.size + 2) 1 (by simp)).trans (by rw [World.cell?_alloc_at _ _ _ _ (by simp)]; rfl)
 have f2 : w1.cell? ⟨w.heap.size + 2, 2, none⟩ = some (.int .i64 res) := (hcc (w.heap.size + 2) 2 (by simp)).trans (by rw [World.cell?_alloc_at _ _ _ _ (by simp)]; rfl)
 have hs1 := hb1.size
 simp at hs1
 have HSZ := Lib.hid (show Sizes w1 w.heap.size m n D from ⟨z0, by omega, ownsMap_ch (S := fun _ => False) H.out (Ch.ofBelow HB.out) (fun e => e)⟩)
 have HFB := Lib.hid (show FnBox w1 (w.heap.size + 2) A3 c3 ss res from ⟨f1, f2, by omega, Kd.C_below HS.out HB.out⟩)
 clear hb1 hcc HI H HS
 cases hq : isB D ⟨v0, v1, ⟨v2, v3⟩, v4⟩ res
 · have HR := Lib.hid (show tableB D l ⟨v0, v1, ⟨v2, v3⟩, v4⟩ res ss = false by unfold tableB; rw [hq, decide_eq_true hle]; rfl)
   clear hq
   go_wp2_with fail
   go_ret
   exact ⟨by rw [HR.out]; rfl, HB.out⟩
 · have HR := Lib.hid (show tableB D l ⟨v0, v1, ⟨v2, v3⟩, v4⟩ res ss = !decide (0 ≤ badRow D res ss l 0) by unfold tableB; rw [hq, decide_eq_true hle]; rfl)
   clear hq
   go_wp2_with fail
   refine (HA.out _ HB.out HSZ.out HFB.out hle).mono ?_; rintro e w2 ⟨rfl, hb2⟩
   have HB2 := Lib.hid (HB.out.trans (hb2.mono HB.out.size))
   clear HA hb2
   go_wp2_with fail
   go_ret
   exact ⟨by rw [HR.out]; rfl, HB2.out⟩
end Go.Proofs.YtendekbckfpmgaaGreat
namespace Go.Proofs.YtendekbckfpmgaaGreat
open Go Go.RowKit Go.Proofs.YtendekbckfpmgaaGreatW.PrintWords Go.Proofs.YtendekbckfpmgaaGreat.PWorldMay
attribute [local go_sem high] eqA47 eqA78
def listB {α β : Type} (p : α → β → Bool) : List α → List β → Bool
 | [], [] => true
 | a :: r, b :: s => p a b && listB p r s
 | _, _ => false
theorem listB_len {α β : Type} (p : α → β → Bool) : ∀ (l : List α) (m : List β), l.length ≠ m.length → listB p l m = false
 | [], [], h => absurd rfl h
 | [], _ :: _, _ => rfl
 | _ :: _, [], _ => rfl
 | a :: r, b :: s, h => by
  have := listB_len p r s (by simpa using h)
  simp [listB, this]
theorem listB_step {α β : Type} (p : α → β → Bool) (l : List α) (m : List β) (za : α) (zb : β) (k : Nat) (h : k < l.length) (h2 : k < m.length) :
 listB p (l.drop k) (m.drop k) = (p (l.getD k za) (m.getD k zb) && listB p (l.drop (k + 1)) (m.drop (k + 1))) := by
 rw [List.drop_eq_getElem_cons h, List.drop_eq_getElem_cons h2]
 simp [listB, h, h2]
def eqSize (a b : S78) : Bool := (a.f0 == b.f0 && (a.f1 == b.f1))
def eqVal (a b : S47) : Bool := (a.f0 == b.f0 && (a.f1 == b.f1 && ((a.f2.f0 == b.f2.f0 && (a.f2.f1 == b.f2.f1)) && (a.f3 == b.f3))))
def eqRow (r s : S84) : Bool := eqVal r.f1 s.f1 && listB eqVal r.f0 s.f0
def eqTab (x y : S81) : Bool := x.f0 == y.f0 && eqVal x.f2 y.f2 && listB eqRow x.f1 y.f1
set_option maxRecDepth 100000 in
set_option maxHeartbeats 1000000 in
theorem eqVals_any {w : World} (A : Option Addr) (l : List S47) (c : Nat) (hl : k47.C w A l.length l) (hlen : l.length ≤ maxLen) (A2 : Option Addr) (m : List S47) (c2 : Nat) (hm : k47.C w A2 m.length m) :
 Calls Tryz.prog 59 #[.slice A l.length c, .slice A2 m.length c2] w fun e w' => e = .returned (.bool (listB eqVal l m)) ∧ Below w.heap.size w w' := by
 by_cases hne : l.length = m.length
 case neg =>
  have HR := Lib.hid (listB_len eqVal l m hne)
  have hne' : ((l.length : Int) != (m.length : Int)) = true := by simp; omega
  clear hl hm
  go_enter Tryz.func59, Tryz.ntmps59
  go_wp2_with fail
  go_ret
  exact ⟨by rw [HR.out]; rfl, Below.refl _ _⟩
 case pos =>
 have hmx : maxLen ≤ 9223372036854775807 := by decide
 have HL := Lib.hid hl
 have HM := Lib.hid hm
 rw [← hne]
 have HNE := Lib.hid hne
 clear hl hm hne
 go_enter Tryz.func59, Tryz.ntmps59
 go_wp2_with fail
 go_loopw [13] (fun vi wr => ∃ k : Nat, vi = .int .i64 k ∧ k ≤ l.length ∧ Hid (Below w.heap.size w wr ∧ listB eqVal l m = listB eqVal (l.drop k) (m.drop k))) (fun vi _ => l.length - (intOf vi).toNat)
 case atStart => exact ⟨0, rfl, by omega, Lib.hid ⟨Below.refl _ _, rfl⟩⟩
 case round =>
  obtain ⟨k, rfl, hk, hh⟩ := hrel
  have HB := Lib.hid hh.out.1
  have HQ := Lib.hid hh.out.2
  clear hh
  by_cases hkl : k < l.length
  case neg =>
   have hkl' : ¬ (k : Int) < l.length := by omega
   have HX := Lib.hid (show listB eqVal l m = true by rw [HQ.out, List.drop_of_length_le (by omega), List.drop_of_length_le (by have := HNE.out; omega)]; rfl)
   go_wp2_with fail
   go_ret
   exact ⟨by rw [HX.out]; rfl, HB.out⟩
  case pos =>
   have hkl' : (k : Int) < l.length := by omega
   have hk2 : k < m.length := by have := HNE.out; omega
   have HE := Lib.hid (show listB eqVal l m = (eqVal (l.getD k z47) (m.getD k z47) && listB eqVal (l.drop (k + 1)) (m.drop (k + 1))) by rw [HQ.out]; exact listB_step eqVal l m z47 z47 k hkl hk2)
   obtain ⟨ad, bb, oo, cs, rfl, hadd, hK, hc, hbl⟩ := cells_at z47 HL.out k hkl (by decide)
   obtain rfl := k47_open hK
   replace hadd : ad.add (k * 5) = ⟨bb, oo, none⟩ := hadd
   obtain ⟨ad2, bb2, oo2, cs2, rfl, hadd2, hK2, hc2, hbl2⟩ := cells_at z47 HM.out k hk2 (by decide)
   obtain rfl := k47_open hK2
   replace hadd2 : ad2.add (k * 5) = ⟨bb2, oo2, none⟩ := hadd2
   generalize l.getD k z47 = v at *
   generalize m.getD k z47 = u at *
   obtain ⟨v0, v1, ⟨v2, v3⟩, v4⟩ := v
   obtain ⟨u0, u1, ⟨u2, u3⟩, u4⟩ := u
   have hcc := (bcell HB.out).1
   have q0 : wr.cell? ⟨bb, oo, none⟩ = some (.int .i64 v0) := (hcc bb _ hbl).trans (by have := hc 0 _ rfl; simpa using this)
   have q1 : wr.cell? ⟨bb, oo + 1, none⟩ = some (.bool v1) := (hcc bb _ hbl).trans (hc 1 _ rfl)
   have q2 : wr.cell? ⟨bb, oo + 2, none⟩ = some (.int .i64 v2) := (hcc bb _ hbl).trans (hc 2 _ rfl)
   have q3 : wr.cell? ⟨bb, oo + 3, none⟩ = some (.int .i64 v3) := (hcc bb _ hbl).trans (hc 3 _ rfl)
   have q4 : wr.cell? ⟨bb, oo + 4, none⟩ = some (.int .i64 v4) := (hcc bb _ hbl).trans (hc 4 _ rfl)
   have p0 : wr.cell? ⟨bb2, oo2, none⟩ = some (.int .i64 u0) := (hcc bb2 _ hbl2).trans (by have := hc2 0 _ rfl; simpa using this)
   have p1 : wr.cell? ⟨bb2, oo2 + 1, none⟩ = some (.bool u1) := (hcc bb2 _ hbl2).trans (hc2 1 _ rfl)
   have p2 : wr.cell? ⟨bb2, oo2 + 2, none⟩ = some (.int .i64 u2) := (hcc bb2 _ hbl2).trans (hc2 2 _ rfl)
   have p3 : wr.cell? ⟨bb2, oo2 + 3, none⟩ = some (.int .i64 u3) := (hcc bb2 _ hbl2).trans (hc2 3 _ rfl)
   have p4 : wr.cell? ⟨bb2, oo2 + 4, none⟩ = some (.int .i64 u4) := (hcc bb2 _ hbl2).trans (hc2 4 _ rfl)
   have hbr : bb < wr.heap.size := Nat.lt_of_lt_of_le hbl HB.out.size
   have hbr2 : bb2 < wr.heap.size := Nat.lt_of_lt_of_le hbl2 HB.out.size
   clear hK hK2 hc hc2 hcc HQ hk2
   cases hr : eqVal ⟨v0, v1, ⟨v2, v3⟩, v4⟩ ⟨u0, u1, ⟨u2, u3⟩, u4⟩
   · have HX := Lib.hid (show listB eqVal l m = false by rw [HE.out, hr]; rfl)
     have hr' := hr
     unfold eqVal at hr'
     simp only at hr'
     clear hr
     go_wp2_with fail
     refine wp_region_below (by kernel_rfl) (by kernel_rfl) ?_
     iterate 8 (refine wq_val (by rfl) (fun w' hw' => by obtain ⟨hc, hf⟩ := bcell hw'; go_simp; try rfl) ?_; (intro K hK; go_simp; refine hK _ ?_; clear hK K))
     (refine wq_val (v := .bool true) (by rfl) (fun w' hw' => by go_simp <;> first | rfl | (rw [hr']; done) | (simp [hr']; done) | (simp at hr' ⊢; done)) ?_; (intro K hK; go_simp; refine hK _ ?_; clear hK K))
     refine wpQuiet_nil ?_; intro w4 hb4
     replace HB := Lib.hid (HB.out.trans (hb4.mono HB.out.size))
     clear hb4
     go_wp2_with fail
     go_ret
     exact ⟨by rw [HX.out]; rfl, HB.out⟩
   · have HX := Lib.hid (show listB eqVal l m = listB eqVal (l.drop (k + 1)) (m.drop (k + 1)) by rw [HE.out, hr]; rfl)
     have hr' := hr
     unfold eqVal at hr'
     simp only at hr'
     clear hr
     go_wp2_with fail
     refine wp_region_below (by kernel_rfl) (by kernel_rfl) ?_
     iterate 8 (refine wq_val (by rfl) (fun w' hw' => by obtain ⟨hc, hf⟩ := bcell hw'; go_simp; try rfl) ?_; (intro K hK; go_simp; refine hK _ ?_; clear hK K))
     (refine wq_val (v := .bool false) (by rfl) (fun w' hw' => by go_simp <;> first | rfl | (rw [hr']; done) | (simp [hr']; done) | (simp at hr' ⊢; done)) ?_; (intro K hK; go_simp; refine hK _ ?_; clear hK K))
     refine wpQuiet_nil ?_; intro w4 hb4
     replace HB := Lib.hid (HB.out.trans (hb4.mono HB.out.size))
     clear hb4
     go_wp2_with fail
     go_roundw
     case rel => exact ⟨k + 1, by go_num, by omega, Lib.hid ⟨HB.out, HX.out⟩⟩
     case measure => simp [intOf]; omega
set_option maxRecDepth 100000 in
set_option maxHeartbeats 1000000 in
theorem eqRow_any (w : World) (r s : S84) (hlen : r.f0.length ≤ maxLen) (A : Option Addr) (c : Nat) (hl : k47.C w A r.f0.length r.f0) (A2 : Option Addr) (c2 : Nat) (hm : k47.C w A2 s.f0.length s.f0) :
 Calls Tryz.prog 58 #[.agg #[.slice A r.f0.length c, .int .i64 r.f1.f0, .bool r.f1.f1, .int .i64 r.f1.f2.f0, .int .i64 r.f1.f2.f1, .int .i64 r.f1.f3], .agg #[.slice A2 s.f0.length c2, .int .i64 s.f1.f0, .bool s.f1.f1, .int .i64 s.f1.f2.f0, .int .i64 s.f1.f2.f1, .int .i64 s.f1.f3]] w fun e w' => e = .returned (.bool (eqRow r s)) ∧ Below w.heap.size w w' := by
 have HE := Lib.hid (fun w' (hb : Below w.heap.size w w') => eqVals_any A r.f0 c (Kd.C_below hl hb) hlen A2 s.f0 c2 (Kd.C_below hm hb))
 clear hl hm
 obtain ⟨vl, ⟨v0, v1, ⟨v2, v3⟩, v4⟩⟩ := r
 obtain ⟨ul, ⟨u0, u1, ⟨u2, u3⟩, u4⟩⟩ := s
 simp only at HE hlen
 cases hr : eqVal ⟨v0, v1, ⟨v2, v3⟩, v4⟩ ⟨u0, u1, ⟨u2, u3⟩, u4⟩
 · have HX := Lib.hid (show eqRow ⟨vl, ⟨v0, v1, ⟨v2, v3⟩, v4⟩⟩ ⟨ul, ⟨u0, u1, ⟨u2, u3⟩, u4⟩⟩ = false by unfold eqRow; rw [hr]; rfl)
   have hr' := hr
   unfold eqVal at hr'
   simp only at hr'
   clear hr
   go_enter Tryz.func58, Tryz.ntmps58
   go_wp2_with fail
   go_ret
   exact ⟨by rw [HX.out]; rfl, by (repeat (first | (with_reducible exact Below.refl _ _) | ((with_reducible refine Below.alloc ?_ ?_ _); rotate_left; focus (first | (simp; done) | (simp; omega))) | ((with_reducible refine Below.setCell ?_ ?_ _); rotate_left; focus (first | (simp; done) | (simp; omega))) | (with_reducible refine Below.drew ?_) | (with_reducible refine Below.drewN' ?_ _)))⟩
 · have HX := Lib.hid (show eqRow ⟨vl, ⟨v0, v1, ⟨v2, v3⟩, v4⟩⟩ ⟨ul, ⟨u0, u1, ⟨u2, u3⟩, u4⟩⟩ = listB eqVal vl ul by unfold eqRow; rw [hr]; rfl)
   have hr' := hr
   unfold eqVal at hr'
   simp only at hr'
   clear hr
   go_enter Tryz.func58, Tryz.ntmps58
   go_wp2_with fail
   refine (HE.out _ (by (repeat (first | (with_reducible exact Below.refl _ _) | ((with_reducible refine Below.alloc ?_ ?_ _); rotate_left; focus (first | (simp; done) | (simp; omega))) | ((with_reducible refine Below.setCell ?_ ?_ _); rotate_left; focus (first | (simp; done) | (simp; omega))) | (with_reducible refine Below.drew ?_) | (with_reducible refine Below.drewN' ?_ _))))).mono ?_; rintro e w1 ⟨rfl, hb1⟩
   have HB := Lib.hid (show Below w.heap.size w w1 by (repeat (first | (with_reducible exact Below.refl _ _) | ((with_reducible refine Below.alloc ?_ ?_ _); rotate_left; focus (first | (simp; done) | (simp; omega) | (have q0 := hb1.size; (try simp at q0); (try simp); omega))) | ((with_reducible refine Below.setCell ?_ ?_ _); rotate_left; focus (first | (simp; done) | (simp; omega) | (have q0 := hb1.size; (try simp at q0); (try simp); omega))) | (with_reducible refine Below.drew ?_) | (with_reducible refine Below.drewN' ?_ _) | (with_reducible refine Below.trans ?_ (hb1.mono ?_); rotate_left; focus (first | (simp; done) | (simp; omega) | (have q0 := hb1.size; (try simp at q0); (try simp); omega))))))
   clear HE hb1
   go_wp2_with fail
   go_ret
   exact ⟨by rw [HX.out]; rfl, HB.out⟩
set_option maxRecDepth 100000 in
set_option maxHeartbeats 1000000 in
theorem eqRows_any {w : World} (A : Option Addr) (l : List S84) (c : Nat) (hl : k84.C w A l.length l) (hlen : l.length ≤ maxLen) (hlw : ∀ x ∈ l, x.f0.length ≤ maxLen) (A2 : Option Addr) (m : List S84) (c2 : Nat) (hm : k84.C w A2 m.length m) :
 Calls Tryz.prog 57 #[.slice A l.length c, .slice A2 m.length c2, .func (.func 58) #[] #[]] w fun e w' => e = .returned (.bool (listB eqRow l m)) ∧ Below w.heap.size w w' := by
 by_cases hne : l.length = m.length
 case neg =>
  have HR := Lib.hid (listB_len eqRow l m hne)
  have hne' : ((l.length : Int) != (m.length : Int)) = true := by simp; omega
  clear hl hm
  go_enter Tryz.func57, Tryz.ntmps57
  go_wp2_with fail
  go_ret
  exact ⟨by rw [HR.out]; rfl, Below.refl _ _⟩
 case pos =>
 have hmx : maxLen ≤ 9223372036854775807 := by decide
 have HL := Lib.hid hl
 have HM := Lib.hid hm
 have HW := Lib.hid hlw
 clear hlw
 rw [← hne]
 have HNE := Lib.hid hne
 clear hl hm hne
 go_enter Tryz.func57, Tryz.ntmps57
 go_wp2_with fail
 go_loopw [17] (fun vi wr => ∃ k : Nat, vi = .int .i64 k ∧ k ≤ l.length ∧ Hid (Below w.heap.size w wr ∧ listB eqRow l m = listB eqRow (l.drop k) (m.drop k))) (fun vi _ => l.length - (intOf vi).toNat)
 case atStart => exact ⟨0, rfl, by omega, Lib.hid ⟨Below.refl _ _, rfl⟩⟩
 case round =>
  obtain ⟨k, rfl, hk, hh⟩ := hrel
  have HB := Lib.hid hh.out.1
  have HQ := Lib.hid hh.out.2
  clear hh
  by_cases hkl : k < l.length
  case neg =>
   have hkl' : ¬ (k : Int) < l.length := by omega
   have HX := Lib.hid (show listB eqRow l m = true by rw [HQ.out, List.drop_of_length_le (by omega), List.drop_of_length_le (by have := HNE.out; omega)]; rfl)
   go_wp2_with fail
   go_ret
   exact ⟨by rw [HX.out]; rfl, HB.out⟩
  case pos =>
   have hkl' : (k : Int) < l.length := by omega
   have hk2 : k < m.length := by have := HNE.out; omega
   have HE := Lib.hid (show listB eqRow l m = (eqRow (l.getD k z84) (m.getD k z84) && listB eqRow (l.drop (k + 1)) (m.drop (k + 1))) by rw [HQ.out]; exact listB_step eqRow l m z84 z84 k hkl hk2)
   obtain ⟨ad, bb, oo, cs, rfl, hadd, hK, hc, hbl⟩ := cells_at z84 HL.out k hkl (by decide)
   obtain ⟨A4, c4, rfl, hle4, hC4⟩ := k84_open hK
   replace hadd : ad.add (k * 6) = ⟨bb, oo, none⟩ := hadd
   obtain ⟨ad2, bb2, oo2, cs2, rfl, hadd2, hK2, hc2, hbl2⟩ := cells_at z84 HM.out k hk2 (by decide)
   obtain ⟨A42, c42, rfl, hle42, hC42⟩ := k84_open hK2
   replace hadd2 : ad2.add (k * 6) = ⟨bb2, oo2, none⟩ := hadd2
   have hwv := HW.out (l.getD k z84) (by rw [show l.getD k z84 = l[k] by simp [hkl]]; exact List.getElem_mem hkl)
   have HO := Lib.hid (fun w' hb => eqRow_any w' (l.getD k z84) (m.getD k z84) hwv A4 c4 (Kd.C_below (Kd.C_below hC4 HB.out) hb) A42 c42 (Kd.C_below (Kd.C_below hC42 HB.out) hb))
   generalize l.getD k z84 = v at *
   generalize m.getD k z84 = u at *
   obtain ⟨vl, ⟨v0, v1, ⟨v2, v3⟩, v4⟩⟩ := v
   obtain ⟨ul, ⟨u0, u1, ⟨u2, u3⟩, u4⟩⟩ := u
   simp only at hc hc2 HO
   have hcc := (bcell HB.out).1
   have q0 : wr.cell? ⟨bb, oo, none⟩ = some (.slice A4 vl.length c4) := (hcc bb _ hbl).trans (by have := hc 0 _ rfl; simpa using this)
   have q1 : wr.cell? ⟨bb, oo + 1, none⟩ = some (.int .i64 v0) := (hcc bb _ hbl).trans (hc 1 _ rfl)
   have q2 : wr.cell? ⟨bb, oo + 2, none⟩ = some (.bool v1) := (hcc bb _ hbl).trans (hc 2 _ rfl)
   have q3 : wr.cell? ⟨bb, oo + 3, none⟩ = some (.int .i64 v2) := (hcc bb _ hbl).trans (hc 3 _ rfl)
   have q4 : wr.cell? ⟨bb, oo + 4, none⟩ = some (.int .i64 v3) := (hcc bb _ hbl).trans (hc 4 _ rfl)
   have q5 : wr.cell? ⟨bb, oo + 5, none⟩ = some (.int .i64 v4) := (hcc bb _ hbl).trans (hc 5 _ rfl)
   have p0 : wr.cell? ⟨bb2, oo2, none⟩ = some (.slice A42 ul.length c42) := (hcc bb2 _ hbl2).trans (by have := hc2 0 _ rfl; simpa using this)
   have p1 : wr.cell? ⟨bb2, oo2 + 1, none⟩ = some (.int .i64 u0) := (hcc bb2 _ hbl2).trans (hc2 1 _ rfl)
   have p2 : wr.cell? ⟨bb2, oo2 + 2, none⟩ = some (.bool u1) := (hcc bb2 _ hbl2).trans (hc2 2 _ rfl)
   have p3 : wr.cell? ⟨bb2, oo2 + 3, none⟩ = some (.int .i64 u2) := (hcc bb2 _ hbl2).trans (hc2 3 _ rfl)
   have p4 : wr.cell? ⟨bb2, oo2 + 4, none⟩ = some (.int .i64 u3) := (hcc bb2 _ hbl2).trans (hc2 4 _ rfl)
   have p5 : wr.cell? ⟨bb2, oo2 + 5, none⟩ = some (.int .i64 u4) := (hcc bb2 _ hbl2).trans (hc2 5 _ rfl)
   have hbr : bb < wr.heap.size := Nat.lt_of_lt_of_le hbl HB.out.size
   have hbr2 : bb2 < wr.heap.size := Nat.lt_of_lt_of_le hbl2 HB.out.size
   clear hK hK2 hc hc2 hcc HQ hk2 hwv hC4 hC42 hle4 hle42
   go_wp2_with fail
   refine (HO.out _ (by (repeat (first | (with_reducible exact Below.refl _ _) | ((with_reducible refine Below.alloc ?_ ?_ _); rotate_left; focus (first | (simp; done) | (simp; omega))) | ((with_reducible refine Below.setCell ?_ ?_ _); rotate_left; focus (first | (simp; done) | (simp; omega))) | (with_reducible refine Below.drew ?_) | (with_reducible refine Below.drewN' ?_ _))))).mono ?_; rintro e w1 ⟨rfl, hb1⟩
   have HB1 := Lib.hid (show Below wr.heap.size wr w1 by (repeat (first | (with_reducible exact Below.refl _ _) | ((with_reducible refine Below.alloc ?_ ?_ _); rotate_left; focus (first | (simp; done) | (simp; omega) | (have q0 := hb1.size; (try simp at q0); (try simp); omega))) | ((with_reducible refine Below.setCell ?_ ?_ _); rotate_left; focus (first | (simp; done) | (simp; omega) | (have q0 := hb1.size; (try simp at q0); (try simp); omega))) | (with_reducible refine Below.drew ?_) | (with_reducible refine Below.drewN' ?_ _) | (with_reducible refine Below.trans ?_ (hb1.mono ?_); rotate_left; focus (first | (simp; done) | (simp; omega) | (have q0 := hb1.size; (try simp at q0); (try simp); omega))))))
   replace HB1 := Lib.hid (HB.out.trans (HB1.out.mono HB.out.size))
   clear HO hb1 q0 p0 q1 p1 q2 p2 q3 p3 q4 p4 q5 p5
   cases hr : eqRow ⟨vl, ⟨v0, v1, ⟨v2, v3⟩, v4⟩⟩ ⟨ul, ⟨u0, u1, ⟨u2, u3⟩, u4⟩⟩
   · have HX := Lib.hid (show listB eqRow l m = false by rw [HE.out, hr]; rfl)
     clear hr
     go_wp2_with fail
     go_ret
     exact ⟨by rw [HX.out]; rfl, HB1.out⟩
   · have HX := Lib.hid (And.intro HB1.out (show listB eqRow l m = listB eqRow (l.drop (k + 1)) (m.drop (k + 1)) by rw [HE.out, hr]; rfl))
     clear hr
     go_wp2_with fail
     go_roundw
     case rel => exact ⟨k + 1, by go_num, by omega, HX⟩
     case measure => simp [intOf]; omega
set_option maxRecDepth 100000 in
set_option maxHeartbeats 1000000 in
theorem eqTab_any (w : World) (x y : S81) (hx : x.f1.length ≤ maxLen ∧ ∀ r ∈ x.f1, r.f0.length ≤ maxLen) (A : Option Addr) (c : Nat) (hl : k84.C w A x.f1.length x.f1) (A2 : Option Addr) (c2 : Nat) (hm : k84.C w A2 y.f1.length y.f1) :
 Calls Tryz.prog 56 #[.agg #[.int .i64 x.f0, .slice A x.f1.length c, .int .i64 x.f2.f0, .bool x.f2.f1, .int .i64 x.f2.f2.f0, .int .i64 x.f2.f2.f1, .int .i64 x.f2.f3], .agg #[.int .i64 y.f0, .slice A2 y.f1.length c2, .int .i64 y.f2.f0, .bool y.f2.f1, .int .i64 y.f2.f2.f0, .int .i64 y.f2.f2.f1, .int .i64 y.f2.f3]] w fun e w' => e = .returned (.bool (eqTab x y)) ∧ Below w.heap.size w w' := by
 have HE := Lib.hid (fun w' (hb : Below w.heap.size w w') => eqRows_any A x.f1 c (Kd.C_below hl hb) hx.1 hx.2 A2 y.f1 c2 (Kd.C_below hm hb))
 clear hl hm hx
 obtain ⟨vn, vl, ⟨v0, v1, ⟨v2, v3⟩, v4⟩⟩ := x
 obtain ⟨un, ul, ⟨u0, u1, ⟨u2, u3⟩, u4⟩⟩ := y
 simp only at HE
 by_cases hn : vn = un
 case neg =>
  have hn' : (vn == un) = false := by simpa using hn
  have HX := Lib.hid (show eqTab ⟨vn, vl, ⟨v0, v1, ⟨v2, v3⟩, v4⟩⟩ ⟨un, ul, ⟨u0, u1, ⟨u2, u3⟩, u4⟩⟩ = false by unfold eqTab; rw [hn']; rfl)
  go_enter Tryz.func56, Tryz.ntmps56
  go_wp2_with fail
  go_ret
  exact ⟨by rw [HX.out]; rfl, by (repeat (first | (with_reducible exact Below.refl _ _) | ((with_reducible refine Below.alloc ?_ ?_ _); rotate_left; focus (first | (simp; done) | (simp; omega))) | ((with_reducible refine Below.setCell ?_ ?_ _); rotate_left; focus (first | (simp; done) | (simp; omega))) | (with_reducible refine Below.drew ?_) | (with_reducible refine Below.drewN' ?_ _)))⟩
 subst hn
 have hnn : (vn == vn) = true := by simp
 cases hr : eqVal ⟨v0, v1, ⟨v2, v3⟩, v4⟩ ⟨u0, u1, ⟨u2, u3⟩, u4⟩
 · have HX := Lib.hid (show eqTab ⟨vn, vl, ⟨v0, v1, ⟨v2, v3⟩, v4⟩⟩ ⟨vn, ul, ⟨u0, u1, ⟨u2, u3⟩, u4⟩⟩ = false by unfold eqTab; simp only; rw [hr, hnn]; rfl)
   have hr' := hr
   unfold eqVal at hr'
   simp only at hr'
   clear hr
   go_enter Tryz.func56, Tryz.ntmps56
   go_wp2_with fail
   go_ret
   exact ⟨by rw [HX.out]; rfl, by (repeat (first | (with_reducible exact Below.refl _ _) | ((with_reducible refine Below.alloc ?_ ?_ _); rotate_left; focus (first | (simp; done) | (simp; omega))) | ((with_reducible refine Below.setCell ?_ ?_ _); rotate_left; focus (first | (simp; done) | (simp; omega))) | (with_reducible refine Below.drew ?_) | (with_reducible refine Below.drewN' ?_ _)))⟩
 · have HX := Lib.hid (show eqTab ⟨vn, vl, ⟨v0, v1, ⟨v2, v3⟩, v4⟩⟩ ⟨vn, ul, ⟨u0, u1, ⟨u2, u3⟩, u4⟩⟩ = listB eqRow vl ul by unfold eqTab; simp only; rw [hr, hnn]; rfl)
   have hr' := hr
   unfold eqVal at hr'
   simp only at hr'
   clear hr
   go_enter Tryz.func56, Tryz.ntmps56
   go_wp2_with fail
   refine (HE.out _ (by (repeat (first | (with_reducible exact Below.refl _ _) | ((with_reducible refine Below.alloc ?_ ?_ _); rotate_left; focus (first | (simp; done) | (simp; omega))) | ((with_reducible refine Below.setCell ?_ ?_ _); rotate_left; focus (first | (simp; done) | (simp; omega))) | (with_reducible refine Below.drew ?_) | (with_reducible refine Below.drewN' ?_ _))))).mono ?_; rintro e w1 ⟨rfl, hb1⟩
   have HB := Lib.hid (show Below w.heap.size w w1 by (repeat (first | (with_reducible exact Below.refl _ _) | ((with_reducible refine Below.alloc ?_ ?_ _); rotate_left; focus (first | (simp; done) | (simp; omega) | (have q0 := hb1.size; (try simp at q0); (try simp); omega))) | ((with_reducible refine Below.setCell ?_ ?_ _); rotate_left; focus (first | (simp; done) | (simp; omega) | (have q0 := hb1.size; (try simp at q0); (try simp); omega))) | (with_reducible refine Below.drew ?_) | (with_reducible refine Below.drewN' ?_ _) | (with_reducible refine Below.trans ?_ (hb1.mono ?_); rotate_left; focus (first | (simp; done) | (simp; omega) | (have q0 := hb1.size; (try simp at q0); (try simp); omega))))))
   clear HE hb1
   go_wp2_with fail
   go_ret
   exact ⟨by rw [HX.out]; rfl, HB.out⟩
set_option maxRecDepth 100000 in
set_option maxHeartbeats 1000000 in
theorem eqTabs_any {w : World} (A : Option Addr) (l : List S81) (c : Nat) (hl : k81.C w A l.length l) (hlen : l.length ≤ maxLen) (hlw : ∀ x ∈ l, x.f1.length ≤ maxLen ∧ ∀ r ∈ x.f1, r.f0.length ≤ maxLen) (A2 : Option Addr) (m : List S81) (c2 : Nat) (hm : k81.C w A2 m.length m) :
 Calls Tryz.prog 55 #[.slice A l.length c, .slice A2 m.length c2, .func (.func 56) #[] #[]] w fun e w' => e = .returned (.bool (listB eqTab l m)) ∧ Below w.heap.size w w' := by
 by_cases hne : l.length = m.length
 case neg =>
  have HR := Lib.hid (listB_len eqTab l m hne)
  have hne' : ((l.length : Int) != (m.length : Int)) = true := by simp; omega
  clear hl hm
  go_enter Tryz.func55, Tryz.ntmps55
  go_wp2_with fail
  go_ret
  exact ⟨by rw [HR.out]; rfl, Below.refl _ _⟩
 case pos =>
 have hmx : maxLen ≤ 9223372036854775807 := by decide
 have HL := Lib.hid hl
 have HM := Lib.hid hm
 have HW := Lib.hid hlw
 clear hlw
 rw [← hne]
 have HNE := Lib.hid hne
 clear hl hm hne
 go_enter Tryz.func55, Tryz.ntmps55
 go_wp2_with fail
 go_loopw [17] (fun vi wr => ∃ k : Nat, vi = .int .i64 k ∧ k ≤ l.length ∧ Hid (Below w.heap.size w wr ∧ listB eqTab l m = listB eqTab (l.drop k) (m.drop k))) (fun vi _ => l.length - (intOf vi).toNat)
 case atStart => exact ⟨0, rfl, by omega, Lib.hid ⟨Below.refl _ _, rfl⟩⟩
 case round =>
  obtain ⟨k, rfl, hk, hh⟩ := hrel
  have HB := Lib.hid hh.out.1
  have HQ := Lib.hid hh.out.2
  clear hh
  by_cases hkl : k < l.length
  case neg =>
   have hkl' : ¬ (k : Int) < l.length := by omega
   have HX := Lib.hid (show listB eqTab l m = true by rw [HQ.out, List.drop_of_length_le (by omega), List.drop_of_length_le (by have := HNE.out; omega)]; rfl)
   go_wp2_with fail
   go_ret
   exact ⟨by rw [HX.out]; rfl, HB.out⟩
  case pos =>
   have hkl' : (k : Int) < l.length := by omega
   have hk2 : k < m.length := by have := HNE.out; omega
   have HE := Lib.hid (show listB eqTab l m = (eqTab (l.getD k z81) (m.getD k z81) && listB eqTab (l.drop (k + 1)) (m.drop (k + 1))) by rw [HQ.out]; exact listB_step eqTab l m z81 z81 k hkl hk2)
   obtain ⟨ad, bb, oo, cs, rfl, hadd, hK, hc, hbl⟩ := cells_at z81 HL.out k hkl (by decide)
   obtain ⟨A4, c4, rfl, hle4, hC4⟩ := k81_open hK
   replace hadd : ad.add (k * 7) = ⟨bb, oo, none⟩ := hadd
   obtain ⟨ad2, bb2, oo2, cs2, rfl, hadd2, hK2, hc2, hbl2⟩ := cells_at z81 HM.out k hk2 (by decide)
   obtain ⟨A42, c42, rfl, hle42, hC42⟩ := k81_open hK2
   replace hadd2 : ad2.add (k * 7) = ⟨bb2, oo2, none⟩ := hadd2
   have hwv := HW.out (l.getD k z81) (by rw [show l.getD k z81 = l[k] by simp [hkl]]; exact List.getElem_mem hkl)
   have HO := Lib.hid (fun w' hb => eqTab_any w' (l.getD k z81) (m.getD k z81) hwv A4 c4 (Kd.C_below (Kd.C_below hC4 HB.out) hb) A42 c42 (Kd.C_below (Kd.C_below hC42 HB.out) hb))
   generalize l.getD k z81 = v at *
   generalize m.getD k z81 = u at *
   obtain ⟨vn, vl, ⟨v0, v1, ⟨v2, v3⟩, v4⟩⟩ := v
   obtain ⟨un, ul, ⟨u0, u1, ⟨u2, u3⟩, u4⟩⟩ := u
   simp only at hc hc2 HO
   have hcc := (bcell HB.out).1
   have q0 : wr.cell? ⟨bb, oo, none⟩ = some (.int .i64 vn) := (hcc bb _ hbl).trans (by have := hc 0 _ rfl; simpa using this)
   have q1 : wr.cell? ⟨bb, oo + 1, none⟩ = some (.slice A4 vl.length c4) := (hcc bb _ hbl).trans (hc 1 _ rfl)
   have q2 : wr.cell? ⟨bb, oo + 2, none⟩ = some (.int .i64 v0) := (hcc bb _ hbl).trans (hc 2 _ rfl)
   have q3 : wr.cell? ⟨bb, oo + 3, none⟩ = some (.bool v1) := (hcc bb _ hbl).trans (hc 3 _ rfl)
   have q4 : wr.cell? ⟨bb, oo + 4, none⟩ = some (.int .i64 v2) := (hcc bb _ hbl).trans (hc 4 _ rfl)
   have q5 : wr.cell? ⟨bb, oo + 5, none⟩ = some (.int .i64 v3) := (hcc bb _ hbl).trans (hc 5 _ rfl)
   have q6 : wr.cell? ⟨bb, oo + 6, none⟩ = some (.int .i64 v4) := (hcc bb _ hbl).trans (hc 6 _ rfl)
   have p0 : wr.cell? ⟨bb2, oo2, none⟩ = some (.int .i64 un) := (hcc bb2 _ hbl2).trans (by have := hc2 0 _ rfl; simpa using this)
   have p1 : wr.cell? ⟨bb2, oo2 + 1, none⟩ = some (.slice A42 ul.length c42) := (hcc bb2 _ hbl2).trans (hc2 1 _ rfl)
   have p2 : wr.cell? ⟨bb2, oo2 + 2, none⟩ = some (.int .i64 u0) := (hcc bb2 _ hbl2).trans (hc2 2 _ rfl)
   have p3 : wr.cell? ⟨bb2, oo2 + 3, none⟩ = some (.bool u1) := (hcc bb2 _ hbl2).trans (hc2 3 _ rfl)
   have p4 : wr.cell? ⟨bb2, oo2 + 4, none⟩ = some (.int .i64 u2) := (hcc bb2 _ hbl2).trans (hc2 4 _ rfl)
   have p5 : wr.cell? ⟨bb2, oo2 + 5, none⟩ = some (.int .i64 u3) := (hcc bb2 _ hbl2).trans (hc2 5 _ rfl)
   have p6 : wr.cell? ⟨bb2, oo2 + 6, none⟩ = some (.int .i64 u4) := (hcc bb2 _ hbl2).trans (hc2 6 _ rfl)
   have hbr : bb < wr.heap.size := Nat.lt_of_lt_of_le hbl HB.out.size
   have hbr2 : bb2 < wr.heap.size := Nat.lt_of_lt_of_le hbl2 HB.out.size
   clear hK hK2 hc hc2 hcc HQ hk2 hwv hC4 hC42 hle4 hle42
   go_wp2_with fail
   refine (HO.out _ (by (repeat (first | (with_reducible exact Below.refl _ _) | ((with_reducible refine Below.alloc ?_ ?_ _); rotate_left; focus (first | (simp; done) | (simp; omega))) | ((with_reducible refine Below.setCell ?_ ?_ _); rotate_left; focus (first | (simp; done) | (simp; omega))) | (with_reducible refine Below.drew ?_) | (with_reducible refine Below.drewN' ?_ _))))).mono ?_; rintro e w1 ⟨rfl, hb1⟩
   have HB1 := Lib.hid (show Below wr.heap.size wr w1 by (repeat (first | (with_reducible exact Below.refl _ _) | ((with_reducible refine Below.alloc ?_ ?_ _); rotate_left; focus (first | (simp; done) | (simp; omega) | (have q0 := hb1.size; (try simp at q0); (try simp); omega))) | ((with_reducible refine Below.setCell ?_ ?_ _); rotate_left; focus (first | (simp; done) | (simp; omega) | (have q0 := hb1.size; (try simp at q0); (try simp); omega))) | (with_reducible refine Below.drew ?_) | (with_reducible refine Below.drewN' ?_ _) | (with_reducible refine Below.trans ?_ (hb1.mono ?_); rotate_left; focus (first | (simp; done) | (simp; omega) | (have q0 := hb1.size; (try simp at q0); (try simp); omega))))))
   replace HB1 := Lib.hid (HB.out.trans (HB1.out.mono HB.out.size))
   clear HO hb1 q0 p0 q1 p1 q2 p2 q3 p3 q4 p4 q5 p5 q6 p6
   cases hr : eqTab ⟨vn, vl, ⟨v0, v1, ⟨v2, v3⟩, v4⟩⟩ ⟨un, ul, ⟨u0, u1, ⟨u2, u3⟩, u4⟩⟩
   · have HX := Lib.hid (show listB eqTab l m = false by rw [HE.out, hr]; rfl)
     clear hr
     go_wp2_with fail
     go_ret
     exact ⟨by rw [HX.out]; rfl, HB1.out⟩
   · have HX := Lib.hid (And.intro HB1.out (show listB eqTab l m = listB eqTab (l.drop (k + 1)) (m.drop (k + 1)) by rw [HE.out, hr]; rfl))
     clear hr
     go_wp2_with fail
     go_roundw
     case rel => exact ⟨k + 1, by go_num, by omega, HX⟩
     case measure => simp [intOf]; omega
set_option maxRecDepth 100000 in
set_option maxHeartbeats 1000000 in
theorem eqSizes_any {w : World} (A : Option Addr) (l : List S78) (c : Nat) (hl : k78.C w A l.length l) (hlen : l.length ≤ maxLen) (A2 : Option Addr) (m : List S78) (c2 : Nat) (hm : k78.C w A2 m.length m) :
 Calls Tryz.prog 54 #[.slice A l.length c, .slice A2 m.length c2] w fun e w' => e = .returned (.bool (listB eqSize l m)) ∧ Below w.heap.size w w' := by
 by_cases hne : l.length = m.length
 case neg =>
  have HR := Lib.hid (listB_len eqSize l m hne)
  have hne' : ((l.length : Int) != (m.length : Int)) = true := by simp; omega
  clear hl hm
  go_enter Tryz.func54, Tryz.ntmps54
  go_wp2_with fail
  go_ret
  exact ⟨by rw [HR.out]; rfl, Below.refl _ _⟩
 case pos =>
 have hmx : maxLen ≤ 9223372036854775807 := by decide
 have HL := Lib.hid hl
 have HM := Lib.hid hm
 rw [← hne]
 have HNE := Lib.hid hne
 clear hl hm hne
 go_enter Tryz.func54, Tryz.ntmps54
 go_wp2_with fail
 go_loopw [13] (fun vi wr => ∃ k : Nat, vi = .int .i64 k ∧ k ≤ l.length ∧ Hid (Below w.heap.size w wr ∧ listB eqSize l m = listB eqSize (l.drop k) (m.drop k))) (fun vi _ => l.length - (intOf vi).toNat)
 case atStart => exact ⟨0, rfl, by omega, Lib.hid ⟨Below.refl _ _, rfl⟩⟩
 case round =>
  obtain ⟨k, rfl, hk, hh⟩ := hrel
  have HB := Lib.hid hh.out.1
  have HQ := Lib.hid hh.out.2
  clear hh
  by_cases hkl : k < l.length
  case neg =>
   have hkl' : ¬ (k : Int) < l.length := by omega
   have HX := Lib.hid (show listB eqSize l m = true by rw [HQ.out, List.drop_of_length_le (by omega), List.drop_of_length_le (by have := HNE.out; omega)]; rfl)
   go_wp2_with fail
   go_ret
   exact ⟨by rw [HX.out]; rfl, HB.out⟩
  case pos =>
   have hkl' : (k : Int) < l.length := by omega
   have hk2 : k < m.length := by have := HNE.out; omega
   have HE := Lib.hid (show listB eqSize l m = (eqSize (l.getD k z78) (m.getD k z78) && listB eqSize (l.drop (k + 1)) (m.drop (k + 1))) by rw [HQ.out]; exact listB_step eqSize l m z78 z78 k hkl hk2)
   obtain ⟨ad, bb, oo, cs, rfl, hadd, hK, hc, hbl⟩ := cells_at z78 HL.out k hkl (by decide)
   obtain rfl := k78_open hK
   replace hadd : ad.add (k * 2) = ⟨bb, oo, none⟩ := hadd
   obtain ⟨ad2, bb2, oo2, cs2, rfl, hadd2, hK2, hc2, hbl2⟩ := cells_at z78 HM.out k hk2 (by decide)
   obtain rfl := k78_open hK2
   replace hadd2 : ad2.add (k * 2) = ⟨bb2, oo2, none⟩ := hadd2
   generalize l.getD k z78 = v at *
   generalize m.getD k z78 = u at *
   obtain ⟨v0, v1⟩ := v
   obtain ⟨u0, u1⟩ := u
   have hcc := (bcell HB.out).1
   have q0 : wr.cell? ⟨bb, oo, none⟩ = some (.int .i64 v0) := (hcc bb _ hbl).trans (by have := hc 0 _ rfl; simpa using this)
   have q1 : wr.cell? ⟨bb, oo + 1, none⟩ = some (.int .i64 v1) := (hcc bb _ hbl).trans (hc 1 _ rfl)
   have p0 : wr.cell? ⟨bb2, oo2, none⟩ = some (.int .i64 u0) := (hcc bb2 _ hbl2).trans (by have := hc2 0 _ rfl; simpa using this)
   have p1 : wr.cell? ⟨bb2, oo2 + 1, none⟩ = some (.int .i64 u1) := (hcc bb2 _ hbl2).trans (hc2 1 _ rfl)
   have hbr : bb < wr.heap.size := Nat.lt_of_lt_of_le hbl HB.out.size
   have hbr2 : bb2 < wr.heap.size := Nat.lt_of_lt_of_le hbl2 HB.out.size
   clear hK hK2 hc hc2 hcc HQ hk2
   cases hr : eqSize ⟨v0, v1⟩ ⟨u0, u1⟩
   · have HX := Lib.hid (show listB eqSize l m = false by rw [HE.out, hr]; rfl)
     have hr' := hr
     unfold eqSize at hr'
     simp only at hr'
     clear hr
     go_wp2_with fail
     refine wp_region_below (by kernel_rfl) (by kernel_rfl) ?_
     iterate 8 (refine wq_val (by rfl) (fun w' hw' => by obtain ⟨hc, hf⟩ := bcell hw'; go_simp; try rfl) ?_; (intro K hK; go_simp; refine hK _ ?_; clear hK K))
     (refine wq_val (v := .bool true) (by rfl) (fun w' hw' => by go_simp <;> first | rfl | (rw [hr']; done) | (simp [hr']; done) | (simp at hr' ⊢; done)) ?_; (intro K hK; go_simp; refine hK _ ?_; clear hK K))
     refine wpQuiet_nil ?_; intro w4 hb4
     replace HB := Lib.hid (HB.out.trans (hb4.mono HB.out.size))
     clear hb4
     go_wp2_with fail
     go_ret
     exact ⟨by rw [HX.out]; rfl, HB.out⟩
   · have HX := Lib.hid (show listB eqSize l m = listB eqSize (l.drop (k + 1)) (m.drop (k + 1)) by rw [HE.out, hr]; rfl)
     have hr' := hr
     unfold eqSize at hr'
     simp only at hr'
     clear hr
     go_wp2_with fail
     refine wp_region_below (by kernel_rfl) (by kernel_rfl) ?_
     iterate 8 (refine wq_val (by rfl) (fun w' hw' => by obtain ⟨hc, hf⟩ := bcell hw'; go_simp; try rfl) ?_; (intro K hK; go_simp; refine hK _ ?_; clear hK K))
     (refine wq_val (v := .bool false) (by rfl) (fun w' hw' => by go_simp <;> first | rfl | (rw [hr']; done) | (simp [hr']; done) | (simp at hr' ⊢; done)) ?_; (intro K hK; go_simp; refine hK _ ?_; clear hK K))
     refine wpQuiet_nil ?_; intro w4 hb4
     replace HB := Lib.hid (HB.out.trans (hb4.mono HB.out.size))
     clear hb4
     go_wp2_with fail
     go_roundw
     case rel => exact ⟨k + 1, by go_num, by omega, Lib.hid ⟨HB.out, HX.out⟩⟩
     case measure => simp [intOf]; omega
def eqWorld (z1 z2 : List S78) (f1 f2 : List S81) : Bool := listB eqSize z1 z2 && listB eqTab f1 f2
def ShortT (f : List S81) : Prop := f.length ≤ maxLen ∧ ∀ x ∈ f, x.f1.length ≤ maxLen ∧ ∀ r ∈ x.f1, r.f0.length ≤ maxLen
set_option maxRecDepth 100000 in
set_option maxHeartbeats 1000000 in
theorem same_any (w : World) (A1 : Option Addr) (c1 : Nat) (z1 : List S78) (A2 : Option Addr) (c2 : Nat) (f1 : List S81) (A3 : Option Addr) (c3 : Nat) (z2 : List S78) (A4 : Option Addr) (c4 : Nat) (f2 : List S81)
 (h1 : k78.C w A1 z1.length z1) (h2 : k81.C w A2 f1.length f1) (h3 : k78.C w A3 z2.length z2) (h4 : k81.C w A4 f2.length f2) (hz : z1.length ≤ maxLen) (hf : ShortT f1) :
 Calls Tryz.prog 20 #[.agg #[.slice A1 z1.length c1, .slice A2 f1.length c2], .agg #[.slice A3 z2.length c3, .slice A4 f2.length c4]] w fun e w' => e = .returned (.bool (eqWorld z1 z2 f1 f2)) ∧ Below w.heap.size w w' := by
 have HS := Lib.hid (fun w' (hb : Below w.heap.size w w') => eqSizes_any A1 z1 c1 (Kd.C_below h1 hb) hz A3 z2 c3 (Kd.C_below h3 hb))
 have HT := Lib.hid (fun w' (hb : Below w.heap.size w w') => eqTabs_any A2 f1 c2 (Kd.C_below h2 hb) hf.1 hf.2 A4 f2 c4 (Kd.C_below h4 hb))
 clear h1 h2 h3 h4 hz hf
 cases hr : listB eqSize z1 z2
 · have HX := Lib.hid (show eqWorld z1 z2 f1 f2 = false by unfold eqWorld; rw [hr]; rfl)
   go_enter Tryz.func20, Tryz.ntmps20
   go_wp2_with fail
   refine (HS.out _ (by (repeat (first | (with_reducible exact Below.refl _ _) | ((with_reducible refine Below.alloc ?_ ?_ _); rotate_left; focus (first | (simp; done) | (simp; omega))) | ((with_reducible refine Below.setCell ?_ ?_ _); rotate_left; focus (first | (simp; done) | (simp; omega))) | (with_reducible refine Below.drew ?_) | (with_reducible refine Below.drewN' ?_ _))))).mono ?_; rintro e w1 ⟨rfl, hb1⟩
   rw [hr]
   have HB := Lib.hid (show Below w.heap.size w w1 by (repeat (first | (with_reducible exact Below.refl _ _) | ((with_reducible refine Below.alloc ?_ ?_ _); rotate_left; focus (first | (simp; done) | (simp; omega) | (have q0 := hb1.size; (try simp at q0); (try simp); omega))) | ((with_reducible refine Below.setCell ?_ ?_ _); rotate_left; focus (first | (simp; done) | (simp; omega) | (have q0 := hb1.size; (try simp at q0); (try simp); omega))) | (with_reducible refine Below.drew ?_) | (with_reducible refine Below.drewN' ?_ _) | (with_reducible refine Below.trans ?_ (hb1.mono ?_); rotate_left; focus (first | (simp; done) | (simp; omega) | (have q0 := hb1.size; (try simp at q0); (try simp); omega))))))
   clear HS HT hb1 hr
   go_wp2_with fail
   go_ret
   exact ⟨by rw [HX.out]; rfl, HB.out⟩
 · have HX := Lib.hid (show eqWorld z1 z2 f1 f2 = listB eqTab f1 f2 by unfold eqWorld; rw [hr]; rfl)
   go_enter Tryz.func20, Tryz.ntmps20
   go_wp2_with fail
   refine (HS.out _ (by (repeat (first | (with_reducible exact Below.refl _ _) | ((with_reducible refine Below.alloc ?_ ?_ _); rotate_left; focus (first | (simp; done) | (simp; omega))) | ((with_reducible refine Below.setCell ?_ ?_ _); rotate_left; focus (first | (simp; done) | (simp; omega))) | (with_reducible refine Below.drew ?_) | (with_reducible refine Below.drewN' ?_ _))))).mono ?_; rintro e w1 ⟨rfl, hb1⟩
   rw [hr]
   have HB := Lib.hid (show Below w.heap.size w w1 by (repeat (first | (with_reducible exact Below.refl _ _) | ((with_reducible refine Below.alloc ?_ ?_ _); rotate_left; focus (first | (simp; done) | (simp; omega) | (have q0 := hb1.size; (try simp at q0); (try simp); omega))) | ((with_reducible refine Below.setCell ?_ ?_ _); rotate_left; focus (first | (simp; done) | (simp; omega) | (have q0 := hb1.size; (try simp at q0); (try simp); omega))) | (with_reducible refine Below.drew ?_) | (with_reducible refine Below.drewN' ?_ _) | (with_reducible refine Below.trans ?_ (hb1.mono ?_); rotate_left; focus (first | (simp; done) | (simp; omega) | (have q0 := hb1.size; (try simp at q0); (try simp); omega))))))
   obtain ⟨hcc, _⟩ := bcell hb1
   have q1 : w1.cell? ⟨w.heap.size, 1, none⟩ = some (.slice A2 f1.length c2) := (hcc w.heap.size 1 (by simp; try omega)).trans (by rw [World.cell?_alloc_past _ _ _ (by simp), World.cell?_alloc_at _ _ _ _ rfl]; rfl)
   have q2 : w1.cell? ⟨w.heap.size + 1, 1, none⟩ = some (.slice A4 f2.length c4) := (hcc (w.heap.size + 1) 1 (by simp)).trans (by rw [World.cell?_alloc_at _ _ _ _ (by simp)]; rfl)
   clear HS hb1 hcc hr
   go_wp2_with fail
   refine (HT.out _ HB.out).mono ?_; rintro e w2 ⟨rfl, hb2⟩
   have HB2 := Lib.hid (HB.out.trans (hb2.mono HB.out.size))
   clear HT hb2
   go_wp2_with fail
   go_ret
   exact ⟨by rw [HX.out]; rfl, HB2.out⟩
end Go.Proofs.YtendekbckfpmgaaGreat
namespace Go.Proofs.YtendekbckfpmgaaGreat
open Go Go.RowKit Go.Proofs.YtendekbckfpmgaaGreatW.PrintWords Go.Proofs.YtendekbckfpmgaaGreat.PWorldMay
def sizeR : List S78 → Int → Int
 | [], _ => 0
 | x :: r, s => if x.f0 = s then x.f1 else sizeR r s
theorem size_l0 (z : List S78) (f : List S81) (s : Int) (hz : z.length ≤ 100000) : ∀ (n k i : Nat), z.length - i ≤ n → n < k → i ≤ z.length → juristref09_size.l0 k s (i : Int) z f = some (sizeR (z.drop i) s)
 | n, 0, i, _, h, _ => absurd h (Nat.not_lt_zero _)
 | n, k + 1, i, hn, hk, hi => by
  rw [juristref09_size.l0]
  by_cases h : i < z.length
  · have hs : wrap64 ((i : Int) + 1) = ((i + 1 : Nat) : Int) := by unfold wrap64; omega
    have e1 : rd_T78 z (i : Int) = z.getD i z78 := rfl
    have hd : z.drop i = z.getD i z78 :: z.drop (i + 1) := by rw [List.drop_eq_getElem_cons h]; simp [h]
    rw [if_pos (by omega), if_pos (by omega), e1, hd, sizeR]
    by_cases c : (z.getD i z78).f0 = s
    · rw [if_pos c, if_pos c]
    · rw [if_neg c, if_neg c, hs]
      cases n with
      | zero => omega
      | succ n => exact size_l0 z f s hz n k (i + 1) (by omega) (by omega) (by omega)
  · rw [if_neg (by omega), List.drop_of_length_le (by omega)]; rfl
theorem size_f (z : List S78) (f : List S81) (s : Int) (hz : z.length ≤ 100000) (k : Nat) (hk : z.length < k) : juristref09_size.f k z f s = some (sizeR z s) :=
 size_l0 z f s hz z.length k 0 (by omega) hk (by omega)
def isR (z : List S78) (v : S47) (s : Int) : Bool :=
 if v.f0 = s then (if s = 0 then (if (v.f2.f0 == 0 && (v.f2.f1 == 0)) = true then (v.f3 == 0) else false)
  else (if s = 1 then (if v.f1 = true then false else (if v.f3 = 0 then (if v.f2.f1 ≥ 0 then (if v.f2.f1 < 4611686018427387904 then (if v.f2.f0 ≥ (-1099511627776) then (decide (v.f2.f0 ≤ 1099511627776)) else false) else false) else false) else false))
  else (if v.f1 = true then false else (if (v.f2.f0 == 0 && (v.f2.f1 == 0)) = true then (if v.f3 ≥ 0 then decide (v.f3 < sizeR z s) else false) else false)))) else false
def rowR (z : List S78) (res : Int) (ss : List Int) (r : S84) : Bool := decide (r.f0.length = ss.length) && isR z r.f1 res && listB (isR z) r.f0 ss
def tabR (z : List S78) (y : S81) (res : Int) (ss : List Int) : Bool := decide (y.f1.length ≤ 2000) && isR z y.f2 res && y.f1.all (rowR z res ss)
attribute [local go_sem high] eqA45
def ZI7A (vb : Nat) (_v0 _v2 _v3 _v4 : Int) (_vw : Value) (_sz : Int) : Nat → Value → Prop
 | 0, v => v = .pointer (some ⟨vb, 1, none⟩)
 | 1, v => v = .bool true
 | 2, v => v = .bool false
 | 3, v => v = .bool false
 | 4, v => v = undef
 | 5, v => v = undef
 | 6, v => v = undef
 | 7, v => v = undef
 | 8, v => v = .bool false
 | 9, v => v = .bool false
 | 10, v => v = undef
 | 11, v => v = undef
 | 12, v => v = undef
 | 13, v => v = .bool false
 | 14, v => v = .bool false
 | 15, v => v = undef
 | 16, v => v = undef
 | 17, v => v = undef
 | 18, v => v = undef
 | 19, v => v = undef
 | _, v => v = undef
def ZI7B (vb : Nat) (_v0 v2 v3 _v4 : Int) (_vw : Value) (_sz : Int) : Nat → Value → Prop
 | 0, v => v = .pointer (some ⟨vb, 1, none⟩)
 | 1, v => v = .bool false
 | 2, v => v = .bool true
 | 3, v => v = .bool true
 | 4, v => v = .pointer (some ⟨vb, 2, none⟩)
 | 5, v => v = .agg #[.int .i64 v2, .int .i64 v3]
 | 6, v => v = .agg #[.int .i64 0, .int .i64 0]
 | 7, v => v = .bool false
 | 8, v => v = .bool false
 | 9, v => v = .bool false
 | 10, v => v = undef
 | 11, v => v = undef
 | 12, v => v = undef
 | 13, v => v = .bool false
 | 14, v => v = .bool false
 | 15, v => v = undef
 | 16, v => v = undef
 | 17, v => v = undef
 | 18, v => v = undef
 | 19, v => v = undef
 | _, v => v = undef
def ZI7C (vb : Nat) (_v0 v2 v3 v4 : Int) (_vw : Value) (_sz : Int) : Nat → Value → Prop
 | 0, v => v = .pointer (some ⟨vb, 1, none⟩)
 | 1, v => v = .bool false
 | 2, v => v = .bool true
 | 3, v => v = .bool true
 | 4, v => v = .pointer (some ⟨vb, 2, none⟩)
 | 5, v => v = .agg #[.int .i64 v2, .int .i64 v3]
 | 6, v => v = .agg #[.int .i64 0, .int .i64 0]
 | 7, v => v = .bool true
 | 8, v => v = .bool true
 | 9, v => v = .bool true
 | 10, v => v = .pointer (some ⟨vb, 4, none⟩)
 | 11, v => v = .int .i64 v4
 | 12, v => v = .bool false
 | 13, v => v = .bool false
 | 14, v => v = .bool false
 | 15, v => v = undef
 | 16, v => v = undef
 | 17, v => v = undef
 | 18, v => v = undef
 | 19, v => v = undef
 | _, v => v = undef
def ZI7D (vb : Nat) (v0 v2 v3 v4 : Int) (vw : Value) (sz : Int) : Nat → Value → Prop
 | 0, v => v = .pointer (some ⟨vb, 1, none⟩)
 | 1, v => v = .bool false
 | 2, v => v = .bool true
 | 3, v => v = .bool true
 | 4, v => v = .pointer (some ⟨vb, 2, none⟩)
 | 5, v => v = .agg #[.int .i64 v2, .int .i64 v3]
 | 6, v => v = .agg #[.int .i64 0, .int .i64 0]
 | 7, v => v = .bool true
 | 8, v => v = .bool true
 | 9, v => v = .bool true
 | 10, v => v = .pointer (some ⟨vb, 4, none⟩)
 | 11, v => v = .int .i64 v4
 | 12, v => v = .bool true
 | 13, v => v = .bool true
 | 14, v => v = .bool true
 | 15, v => v = .pointer (some ⟨vb, 4, none⟩)
 | 16, v => v = .int .i64 v4
 | 17, v => v = vw
 | 18, v => v = .int .i64 v0
 | 19, v => v = .int .i64 (sz)
 | _, v => v = .bool (decide (v4 < sz))
set_option maxRecDepth 100000 in
set_option maxHeartbeats 1000000 in
theorem ris_any (w : World) (A1 : Option Addr) (c1 : Nat) (z : List S78) (A2 : Option Addr) (c2 : Nat) (f : List S81) (hz : k78.C w A1 z.length z) (hzc : z.length ≤ c1) (hf : k81.C w A2 f.length f) (hfc : f.length ≤ c2) (hz5 : z.length ≤ 100000)
 (v0 : Int) (v1 : Bool) (v2 v3 v4 s : Int) : Calls Tryz.prog 103 #[.agg #[.slice A1 z.length c1, .slice A2 f.length c2], .agg #[.int .i64 v0, .bool v1, .int .i64 v2, .int .i64 v3, .int .i64 v4], .int .i64 s] w fun e w' => e = .returned (.bool (isR z ⟨v0, v1, ⟨v2, v3⟩, v4⟩ s)) ∧ Below w.heap.size w w' := by
 have HW := Lib.hid (And.intro hz hf)
 have HC := Lib.hid (And.intro hzc (And.intro hfc hz5))
 clear hz hzc hf hfc hz5
 by_cases h0 : v0 = s
 case neg =>
  have e0 : (v0 != s) = true := by simpa using h0
  have HX := Lib.hid (show isR z ⟨v0, v1, ⟨v2, v3⟩, v4⟩ s = false by unfold isR; rw [if_neg h0])
  go_enter Tryz.func103, Tryz.ntmps103
  go_wp2_with fail
  go_ret
  exact ⟨by rw [HX.out]; rfl, by (repeat (first | (with_reducible exact Below.refl _ _) | ((with_reducible refine Below.alloc ?_ ?_ _); rotate_left; focus (first | (simp; done) | (simp; omega))) | ((with_reducible refine Below.setCell ?_ ?_ _); rotate_left; focus (first | (simp; done) | (simp; omega))) | (with_reducible refine Below.drew ?_) | (with_reducible refine Below.drewN' ?_ _)))⟩
 case pos =>
 subst h0
 by_cases h1 : v0 = 0
 case pos =>
  subst h1
  cases hI : (v2 == 0 && v3 == 0)
  · have HX := Lib.hid (show isR z ⟨0, v1, ⟨v2, v3⟩, v4⟩ 0 = false by unfold isR; simp [hI])
    go_enter Tryz.func103, Tryz.ntmps103
    go_wp2_with fail
    go_ret
    exact ⟨by rw [HX.out]; rfl, by (repeat (first | (with_reducible exact Below.refl _ _) | ((with_reducible refine Below.alloc ?_ ?_ _); rotate_left; focus (first | (simp; done) | (simp; omega))) | ((with_reducible refine Below.setCell ?_ ?_ _); rotate_left; focus (first | (simp; done) | (simp; omega))) | (with_reducible refine Below.drew ?_) | (with_reducible refine Below.drewN' ?_ _)))⟩
  · have HX := Lib.hid (show isR z ⟨0, v1, ⟨v2, v3⟩, v4⟩ 0 = (v4 == 0) by unfold isR; simp [hI])
    go_enter Tryz.func103, Tryz.ntmps103
    go_wp2_with fail
    go_ret
    exact ⟨by rw [HX.out]; try rfl, by (repeat (first | (with_reducible exact Below.refl _ _) | ((with_reducible refine Below.alloc ?_ ?_ _); rotate_left; focus (first | (simp; done) | (simp; omega))) | ((with_reducible refine Below.setCell ?_ ?_ _); rotate_left; focus (first | (simp; done) | (simp; omega))) | (with_reducible refine Below.drew ?_) | (with_reducible refine Below.drewN' ?_ _)))⟩
 case neg =>
 have e1 : (v0 == 0) = false := by simpa using h1
 by_cases h2 : v0 = 1
 case pos =>
  subst h2
  cases v1
  case true =>
   have HX := Lib.hid (show isR z ⟨1, true, ⟨v2, v3⟩, v4⟩ 1 = false by unfold isR; simp)
   go_enter Tryz.func103, Tryz.ntmps103
   go_wp2_with fail
   go_ret
   exact ⟨by rw [HX.out]; rfl, by (repeat (first | (with_reducible exact Below.refl _ _) | ((with_reducible refine Below.alloc ?_ ?_ _); rotate_left; focus (first | (simp; done) | (simp; omega))) | ((with_reducible refine Below.setCell ?_ ?_ _); rotate_left; focus (first | (simp; done) | (simp; omega))) | (with_reducible refine Below.drew ?_) | (with_reducible refine Below.drewN' ?_ _)))⟩
  case false =>
  by_cases h4 : v4 = 0
  case neg =>
   have e4 : (v4 == 0) = false := by simpa using h4
   have HX := Lib.hid (show isR z ⟨1, false, ⟨v2, v3⟩, v4⟩ 1 = false by unfold isR; simp [h4])
   go_enter Tryz.func103, Tryz.ntmps103
   go_wp2_with fail
   go_ret
   exact ⟨by rw [HX.out]; rfl, by (repeat (first | (with_reducible exact Below.refl _ _) | ((with_reducible refine Below.alloc ?_ ?_ _); rotate_left; focus (first | (simp; done) | (simp; omega))) | ((with_reducible refine Below.setCell ?_ ?_ _); rotate_left; focus (first | (simp; done) | (simp; omega))) | (with_reducible refine Below.drew ?_) | (with_reducible refine Below.drewN' ?_ _)))⟩
  case pos =>
  subst h4
  by_cases h5 : v3 ≥ 0
  case neg =>
   have HX := Lib.hid (show isR z ⟨1, false, ⟨v2, v3⟩, 0⟩ 1 = false by unfold isR; simp [h5])
   go_enter Tryz.func103, Tryz.ntmps103
   go_wp2_with fail
   go_ret
   exact ⟨by rw [HX.out]; rfl, by (repeat (first | (with_reducible exact Below.refl _ _) | ((with_reducible refine Below.alloc ?_ ?_ _); rotate_left; focus (first | (simp; done) | (simp; omega))) | ((with_reducible refine Below.setCell ?_ ?_ _); rotate_left; focus (first | (simp; done) | (simp; omega))) | (with_reducible refine Below.drew ?_) | (with_reducible refine Below.drewN' ?_ _)))⟩
  case pos =>
  by_cases h6 : v3 < 4611686018427387904
  case neg =>
   have HX := Lib.hid (show isR z ⟨1, false, ⟨v2, v3⟩, 0⟩ 1 = false by unfold isR; simp [h6])
   go_enter Tryz.func103, Tryz.ntmps103
   go_wp2_with fail
   go_ret
   exact ⟨by rw [HX.out]; rfl, by (repeat (first | (with_reducible exact Below.refl _ _) | ((with_reducible refine Below.alloc ?_ ?_ _); rotate_left; focus (first | (simp; done) | (simp; omega))) | ((with_reducible refine Below.setCell ?_ ?_ _); rotate_left; focus (first | (simp; done) | (simp; omega))) | (with_reducible refine Below.drew ?_) | (with_reducible refine Below.drewN' ?_ _)))⟩
  case pos =>
  by_cases h7 : v2 ≥ -1099511627776
  case neg =>
   have HX := Lib.hid (show isR z ⟨1, false, ⟨v2, v3⟩, 0⟩ 1 = false by unfold isR; simp [h7])
   go_enter Tryz.func103, Tryz.ntmps103
   go_wp2_with fail
   go_ret
   exact ⟨by rw [HX.out]; rfl, by (repeat (first | (with_reducible exact Below.refl _ _) | ((with_reducible refine Below.alloc ?_ ?_ _); rotate_left; focus (first | (simp; done) | (simp; omega))) | ((with_reducible refine Below.setCell ?_ ?_ _); rotate_left; focus (first | (simp; done) | (simp; omega))) | (with_reducible refine Below.drew ?_) | (with_reducible refine Below.drewN' ?_ _)))⟩
  case pos =>
  have HX := Lib.hid (show isR z ⟨1, false, ⟨v2, v3⟩, 0⟩ 1 = decide (v2 ≤ 1099511627776) by unfold isR; simp [h5, h6, h7])
  go_enter Tryz.func103, Tryz.ntmps103
  go_wp2_with fail
  go_ret
  exact ⟨by rw [HX.out]; try rfl, by (repeat (first | (with_reducible exact Below.refl _ _) | ((with_reducible refine Below.alloc ?_ ?_ _); rotate_left; focus (first | (simp; done) | (simp; omega))) | ((with_reducible refine Below.setCell ?_ ?_ _); rotate_left; focus (first | (simp; done) | (simp; omega))) | (with_reducible refine Below.drew ?_) | (with_reducible refine Below.drewN' ?_ _)))⟩
 case neg =>
 have e2 : (v0 == 1) = false := by simpa using h2
 have HSZ0 := Lib.hid (fun W (hb : Below w.heap.size w W) => (show Calls Tryz.prog 124 #[.agg #[.slice A1 z.length c1, .slice A2 f.length c2], .int .i64 v0] W fun e w' => e = .returned (.int .i64 (sizeR z v0)) ∧ Below W.heap.size W w' from by
  have := juristref09_size.calls (z.length + 1) A1 c1 z A2 c2 f v0 _ W (Kd.C_below HW.out.1 hb) HC.out.1 (Kd.C_below HW.out.2 hb) HC.out.2.1 (size_f z f v0 HC.out.2.2 _ (Nat.lt_succ_self _))
  exact this))
 have HX := Lib.hid (show isR z ⟨v0, v1, ⟨v2, v3⟩, v4⟩ v0 = (if v1 = true then false else (if (v2 == 0 && (v3 == 0)) = true then (if v4 ≥ 0 then decide (v4 < sizeR z v0) else false) else false)) by unfold isR; simp only [↓reduceIte, h1, h2])
 have HR4 := Lib.hid (show RowB ((w.alloc (.cells #[.slice A1 z.length c1, .slice A2 f.length c2] 37)).alloc (.cells #[.int .i64 v0, .bool v1, .int .i64 v2, .int .i64 v3, .int .i64 v4] 47)) w.heap.size 37 [.slice A1 z.length c1, .slice A2 f.length c2] from RowB.kept (S := fun _ => False) (RowB.new w [.slice A1 z.length c1, .slice A2 f.length c2] 37) ((Ch.refl _ _).alloc _) (fun e => e))
 have HR5 := Lib.hid (show RowB ((w.alloc (.cells #[.slice A1 z.length c1, .slice A2 f.length c2] 37)).alloc (.cells #[.int .i64 v0, .bool v1, .int .i64 v2, .int .i64 v3, .int .i64 v4] 47)) (w.heap.size + 1) 47 [.int .i64 v0, .bool v1, .int .i64 v2, .int .i64 v3, .int .i64 v4] by
  have := RowB.new (w.alloc (.cells #[.slice A1 z.length c1, .slice A2 f.length c2] 37)) [.int .i64 v0, .bool v1, .int .i64 v2, .int .i64 v3, .int .i64 v4] 47
  rw [show (w.alloc (.cells #[.slice A1 z.length c1, .slice A2 f.length c2] 37)).heap.size = w.heap.size + 1 by simp] at this
  exact this)
 have HB := Lib.hid (show Below w.heap.size w ((w.alloc (.cells #[.slice A1 z.length c1, .slice A2 f.length c2] 37)).alloc (.cells #[.int .i64 v0, .bool v1, .int .i64 v2, .int .i64 v3, .int .i64 v4] 47)) from ((Below.refl _ w).alloc (Nat.le_refl _) _).alloc (by simp) _)
 go_enter Tryz.func103, Tryz.ntmps103
 go_wp2_with fail
 have HSZ := Lib.hid (fun W' (hb : Below ((w.alloc (.cells #[.slice A1 z.length c1, .slice A2 f.length c2] 37)).alloc (.cells #[.int .i64 v0, .bool v1, .int .i64 v2, .int .i64 v3, .int .i64 v4] 47)).heap.size ((w.alloc (.cells #[.slice A1 z.length c1, .slice A2 f.length c2] 37)).alloc (.cells #[.int .i64 v0, .bool v1, .int .i64 v2, .int .i64 v3, .int .i64 v4] 47)) W') => HSZ0.out W' (HB.out.trans (hb.mono HB.out.size)))
 clear HSZ0
 generalize (w.alloc (.cells #[.slice A1 z.length c1, .slice A2 f.length c2] 37)).alloc (.cells #[.int .i64 v0, .bool v1, .int .i64 v2, .int .i64 v3, .int .i64 v4] 47) = W at *
 generalize w.heap.size + 1 = vb at HR5 ⊢
 generalize hwb : w.heap.size = wb at HR4 ⊢
 have HWB := Lib.hid hwb
 clear hwb
 have w0 : W.cell? ⟨wb, 0, none⟩ = some (.slice A1 z.length c1) := HR4.out.cell 0
 have w1 : W.cell? ⟨wb, 1, none⟩ = some (.slice A2 f.length c2) := HR4.out.cell 1
 have hwl : wb < W.heap.size := HR4.out.lt
 have x1 : W.cell? ⟨vb, 1, none⟩ = some (.bool v1) := HR5.out.cell 1
 have x2 : W.cell? ⟨vb, 2, none⟩ = some (.int .i64 v2) := HR5.out.cell 2
 have x3 : W.cell? ⟨vb, 3, none⟩ = some (.int .i64 v3) := HR5.out.cell 3
 have x4 : W.cell? ⟨vb, 4, none⟩ = some (.int .i64 v4) := HR5.out.cell 4
 have hvl : vb < W.heap.size := HR5.out.lt
 have fin : ∀ w4, Below W.heap.size W w4 → Below w.heap.size w w4 := fun w4 h => HB.out.trans (h.mono HB.out.size)
 have FIN := Lib.hid fin
 clear HR4 HR5 HB fin
 cases v1
 case true =>
  refine wp_region_flow3 21 (by kernel_rfl) (by kernel_rfl) ?_ (fun iz _ v => (ZI7A vb v0 v2 v3 v4 (.agg #[.slice A1 z.length c1, .slice A2 f.length c2]) (sizeR z v0)) iz v) (fun w' => Below W.heap.size W w') (Below.drew (Below.refl _ W)) ?_ ?_
  · intro i o' d hi ho hd
    have : i = 0 ∨ i = 1 ∨ i = 2 ∨ i = 3 ∨ i = 4 ∨ i = 5 ∨ i = 6 ∨ i = 7 ∨ i = 8 ∨ i = 9 ∨ i = 10 ∨ i = 11 ∨ i = 12 ∨ i = 13 ∨ i = 14 ∨ i = 15 ∨ i = 16 ∨ i = 17 ∨ i = 18 ∨ i = 19 ∨ i = 20 := by omega
    rcases this with rfl | rfl | rfl | rfl | rfl | rfl | rfl | rfl | rfl | rfl | rfl | rfl | rfl | rfl | rfl | rfl | rfl | rfl | rfl | rfl | rfl <;> (simp at ho; subst ho; simp at hd; subst hd; simp)
  · intro i o' hi ho
    have : i = 0 ∨ i = 1 ∨ i = 2 ∨ i = 3 ∨ i = 4 ∨ i = 5 ∨ i = 6 ∨ i = 7 ∨ i = 8 ∨ i = 9 ∨ i = 10 ∨ i = 11 ∨ i = 12 ∨ i = 13 ∨ i = 14 ∨ i = 15 ∨ i = 16 ∨ i = 17 ∨ i = 18 ∨ i = 19 ∨ i = 20 := by omega
    rcases this with rfl | rfl | rfl | rfl | rfl | rfl | rfl | rfl | rfl | rfl | rfl | rfl | rfl | rfl | rfl | rfl | rfl | rfl | rfl | rfl | rfl <;> (simp at ho; subst ho; intro a w' hC hd hr)
    · rw [if_pos (by rfl)]; have e4 : a.tmps[4]?.getD undef = .pointer (some ⟨vb, 0, none⟩) := gd (hr 4 (free_of (by rfl))); exact flow_val (by go_simp; try rfl) ⟨rfl, hC, fun _ _ _ h => h⟩
    · rw [if_pos (by rfl)]; have e59 : a.tmps[59]?.getD undef = .pointer (some ⟨vb, 1, none⟩) := gd (hd ⟨0, .data⟩ (by simp) rfl _ _ rfl rfl); have g0 := bget hC x1 hvl; exact flow_val (by go_simp; try rfl) ⟨rfl, hC, fun _ _ _ h => h⟩
    · rw [if_pos (by rfl)]; have e60 : a.tmps[60]?.getD undef = .bool true := gd (hd ⟨1, .data⟩ (by simp) rfl _ _ rfl rfl); exact flow_val (by go_simp; try rfl) ⟨rfl, hC, fun _ _ _ h => h⟩
    · rw [if_pos (by rfl)]; have e61 : a.tmps[61]?.getD undef = .bool false := gd (hd ⟨2, .data⟩ (by simp) rfl _ _ rfl rfl); exact flow_val (by go_simp; try rfl) ⟨rfl, hC, fun _ _ _ h => h⟩
    · have eg := tmp_bool (hd ⟨3, .guard⟩ (by simp) rfl _ _ rfl rfl : a.tmps.getD 62 undef = .bool false); rw [if_neg (by simp [Region.wanted, yielded, eg])]; exact rfl
    · have eg := tmp_bool (hd ⟨3, .guard⟩ (by simp) rfl _ _ rfl rfl : a.tmps.getD 62 undef = .bool false); rw [if_neg (by simp [Region.wanted, yielded, eg])]; exact rfl
    · have eg := tmp_bool (hd ⟨3, .guard⟩ (by simp) rfl _ _ rfl rfl : a.tmps.getD 62 undef = .bool false); rw [if_neg (by simp [Region.wanted, yielded, eg])]; exact rfl
    · have eg := tmp_bool (hd ⟨3, .guard⟩ (by simp) rfl _ _ rfl rfl : a.tmps.getD 62 undef = .bool false); rw [if_neg (by simp [Region.wanted, yielded, eg])]; exact rfl
    · rw [if_pos (by rfl)]; have e62 : a.tmps[62]?.getD undef = .bool false := gd (hd ⟨3, .data⟩ (by simp) rfl _ _ rfl rfl); exact flow_val (by first | (go_simp; done) | (go_simp; rfl) | (go_simp; simp [*]; done)) ⟨rfl, hC, fun _ _ _ h => h⟩
    · rw [if_pos (by rfl)]; have e67 : a.tmps[67]?.getD undef = .bool false := gd (hd ⟨8, .data⟩ (by simp) rfl _ _ rfl rfl); exact flow_val (by go_simp; try rfl) ⟨rfl, hC, fun _ _ _ h => h⟩
    · have eg := tmp_bool (hd ⟨9, .guard⟩ (by simp) rfl _ _ rfl rfl : a.tmps.getD 68 undef = .bool false); rw [if_neg (by simp [Region.wanted, yielded, eg])]; exact rfl
    · have eg := tmp_bool (hd ⟨9, .guard⟩ (by simp) rfl _ _ rfl rfl : a.tmps.getD 68 undef = .bool false); rw [if_neg (by simp [Region.wanted, yielded, eg])]; exact rfl
    · have eg := tmp_bool (hd ⟨9, .guard⟩ (by simp) rfl _ _ rfl rfl : a.tmps.getD 68 undef = .bool false); rw [if_neg (by simp [Region.wanted, yielded, eg])]; exact rfl
    · rw [if_pos (by rfl)]; have e68 : a.tmps[68]?.getD undef = .bool false := gd (hd ⟨9, .data⟩ (by simp) rfl _ _ rfl rfl); exact flow_val (by first | (go_simp; done) | (go_simp; rfl) | (go_simp; simp [*]; done)) ⟨rfl, hC, fun _ _ _ h => h⟩
    · rw [if_pos (by rfl)]; have e72 : a.tmps[72]?.getD undef = .bool false := gd (hd ⟨13, .data⟩ (by simp) rfl _ _ rfl rfl); exact flow_val (by go_simp; try rfl) ⟨rfl, hC, fun _ _ _ h => h⟩
    · have eg := tmp_bool (hd ⟨14, .guard⟩ (by simp) rfl _ _ rfl rfl : a.tmps.getD 73 undef = .bool false); rw [if_neg (by simp [Region.wanted, yielded, eg])]; exact rfl
    · have eg := tmp_bool (hd ⟨14, .guard⟩ (by simp) rfl _ _ rfl rfl : a.tmps.getD 73 undef = .bool false); rw [if_neg (by simp [Region.wanted, yielded, eg])]; exact rfl
    · have eg := tmp_bool (hd ⟨14, .guard⟩ (by simp) rfl _ _ rfl rfl : a.tmps.getD 73 undef = .bool false); rw [if_neg (by simp [Region.wanted, yielded, eg])]; exact rfl
    · have eg := tmp_bool (hd ⟨14, .guard⟩ (by simp) rfl _ _ rfl rfl : a.tmps.getD 73 undef = .bool false); rw [if_neg (by simp [Region.wanted, yielded, eg])]; exact rfl
    · have eg := tmp_bool (hd ⟨14, .guard⟩ (by simp) rfl _ _ rfl rfl : a.tmps.getD 73 undef = .bool false); rw [if_neg (by simp [Region.wanted, yielded, eg])]; exact rfl
    · have eg := tmp_bool (hd ⟨14, .guard⟩ (by simp) rfl _ _ rfl rfl : a.tmps.getD 73 undef = .bool false); rw [if_neg (by simp [Region.wanted, yielded, eg])]; exact rfl
  intro vs' w4 hb4 hZ
  have v14 : vs' 14 = .bool false := hZ 14 _ _ (by omega) rfl rfl
  have v20 : vs' 20 = undef := hZ 20 _ _ (by omega) rfl rfl
  clear hZ w0 w1 x1 x2 x3 x4
  simp only [List.drop_succ_cons, List.drop_zero, List.take_succ_cons, List.take_zero, putAll, v14, v20]
  go_wp2_with fail
  go_ret
  exact ⟨by rw [HX.out]; rfl, FIN.out _ hb4⟩
 case false =>
 cases hI : (v2 == 0 && v3 == 0)
 case false =>
  have HXX := Lib.hid (show isR z ⟨v0, false, ⟨v2, v3⟩, v4⟩ v0 = false by rw [HX.out, hI]; rfl)
  refine wp_region_flow3 21 (by kernel_rfl) (by kernel_rfl) ?_ (fun iz _ v => (ZI7B vb v0 v2 v3 v4 (.agg #[.slice A1 z.length c1, .slice A2 f.length c2]) (sizeR z v0)) iz v) (fun w' => Below W.heap.size W w') (Below.drew (Below.refl _ W)) ?_ ?_
  · intro i o' d hi ho hd
    have : i = 0 ∨ i = 1 ∨ i = 2 ∨ i = 3 ∨ i = 4 ∨ i = 5 ∨ i = 6 ∨ i = 7 ∨ i = 8 ∨ i = 9 ∨ i = 10 ∨ i = 11 ∨ i = 12 ∨ i = 13 ∨ i = 14 ∨ i = 15 ∨ i = 16 ∨ i = 17 ∨ i = 18 ∨ i = 19 ∨ i = 20 := by omega
    rcases this with rfl | rfl | rfl | rfl | rfl | rfl | rfl | rfl | rfl | rfl | rfl | rfl | rfl | rfl | rfl | rfl | rfl | rfl | rfl | rfl | rfl <;> (simp at ho; subst ho; simp at hd; subst hd; simp)
  · intro i o' hi ho
    have : i = 0 ∨ i = 1 ∨ i = 2 ∨ i = 3 ∨ i = 4 ∨ i = 5 ∨ i = 6 ∨ i = 7 ∨ i = 8 ∨ i = 9 ∨ i = 10 ∨ i = 11 ∨ i = 12 ∨ i = 13 ∨ i = 14 ∨ i = 15 ∨ i = 16 ∨ i = 17 ∨ i = 18 ∨ i = 19 ∨ i = 20 := by omega
    rcases this with rfl | rfl | rfl | rfl | rfl | rfl | rfl | rfl | rfl | rfl | rfl | rfl | rfl | rfl | rfl | rfl | rfl | rfl | rfl | rfl | rfl <;> (simp at ho; subst ho; intro a w' hC hd hr)
    · rw [if_pos (by rfl)]; have e4 : a.tmps[4]?.getD undef = .pointer (some ⟨vb, 0, none⟩) := gd (hr 4 (free_of (by rfl))); exact flow_val (by go_simp; try rfl) ⟨rfl, hC, fun _ _ _ h => h⟩
    · rw [if_pos (by rfl)]; have e59 : a.tmps[59]?.getD undef = .pointer (some ⟨vb, 1, none⟩) := gd (hd ⟨0, .data⟩ (by simp) rfl _ _ rfl rfl); have g0 := bget hC x1 hvl; exact flow_val (by go_simp; try rfl) ⟨rfl, hC, fun _ _ _ h => h⟩
    · rw [if_pos (by rfl)]; have e60 : a.tmps[60]?.getD undef = .bool false := gd (hd ⟨1, .data⟩ (by simp) rfl _ _ rfl rfl); exact flow_val (by go_simp; try rfl) ⟨rfl, hC, fun _ _ _ h => h⟩
    · rw [if_pos (by rfl)]; have e61 : a.tmps[61]?.getD undef = .bool true := gd (hd ⟨2, .data⟩ (by simp) rfl _ _ rfl rfl); exact flow_val (by go_simp; try rfl) ⟨rfl, hC, fun _ _ _ h => h⟩
    · have eg := tmp_bool (hd ⟨3, .guard⟩ (by simp) rfl _ _ rfl rfl : a.tmps.getD 62 undef = .bool true); rw [if_pos (by simp [Region.wanted, yielded, eg])]; clear eg; have e4 : a.tmps[4]?.getD undef = .pointer (some ⟨vb, 0, none⟩) := gd (hr 4 (free_of (by rfl))); exact flow_val (by go_simp; try rfl) ⟨rfl, hC, fun _ _ _ h => h⟩
    · have eg := tmp_bool (hd ⟨3, .guard⟩ (by simp) rfl _ _ rfl rfl : a.tmps.getD 62 undef = .bool true); rw [if_pos (by simp [Region.wanted, yielded, eg])]; clear eg; have e63 : a.tmps[63]?.getD undef = .pointer (some ⟨vb, 2, none⟩) := gd (hd ⟨4, .data⟩ (by simp) rfl _ _ rfl rfl); have g0 := bget hC x2 hvl; have g1 := bget hC x3 hvl; exact flow_val (by go_simp; try rfl) ⟨rfl, hC, fun _ _ _ h => h⟩
    · have eg := tmp_bool (hd ⟨3, .guard⟩ (by simp) rfl _ _ rfl rfl : a.tmps.getD 62 undef = .bool true); rw [if_pos (by simp [Region.wanted, yielded, eg])]; clear eg; exact flow_val (by go_simp; try rfl) ⟨rfl, hC, fun _ _ _ h => h⟩
    · have eg := tmp_bool (hd ⟨3, .guard⟩ (by simp) rfl _ _ rfl rfl : a.tmps.getD 62 undef = .bool true); rw [if_pos (by simp [Region.wanted, yielded, eg])]; clear eg; have e64 : a.tmps[64]?.getD undef = .agg #[.int .i64 v2, .int .i64 v3] := gd (hd ⟨5, .data⟩ (by simp) rfl _ _ rfl rfl); have e65 : a.tmps[65]?.getD undef = .agg #[.int .i64 0, .int .i64 0] := gd (hd ⟨6, .data⟩ (by simp) rfl _ _ rfl rfl); exact flow_val (by first | (go_simp; done) | (go_simp; rfl) | (go_simp; simp [*]; done)) ⟨rfl, hC, fun _ _ _ h => h⟩
    · rw [if_pos (by rfl)]; have e62 : a.tmps[62]?.getD undef = .bool true := gd (hd ⟨3, .data⟩ (by simp) rfl _ _ rfl rfl); have e66 : a.tmps[66]?.getD undef = .bool false := gd (hd ⟨7, .data⟩ (by simp) rfl _ _ rfl rfl); exact flow_val (by first | (go_simp; done) | (go_simp; rfl) | (go_simp; simp [*]; done)) ⟨rfl, hC, fun _ _ _ h => h⟩
    · rw [if_pos (by rfl)]; have e67 : a.tmps[67]?.getD undef = .bool false := gd (hd ⟨8, .data⟩ (by simp) rfl _ _ rfl rfl); exact flow_val (by go_simp; try rfl) ⟨rfl, hC, fun _ _ _ h => h⟩
    · have eg := tmp_bool (hd ⟨9, .guard⟩ (by simp) rfl _ _ rfl rfl : a.tmps.getD 68 undef = .bool false); rw [if_neg (by simp [Region.wanted, yielded, eg])]; exact rfl
    · have eg := tmp_bool (hd ⟨9, .guard⟩ (by simp) rfl _ _ rfl rfl : a.tmps.getD 68 undef = .bool false); rw [if_neg (by simp [Region.wanted, yielded, eg])]; exact rfl
    · have eg := tmp_bool (hd ⟨9, .guard⟩ (by simp) rfl _ _ rfl rfl : a.tmps.getD 68 undef = .bool false); rw [if_neg (by simp [Region.wanted, yielded, eg])]; exact rfl
    · rw [if_pos (by rfl)]; have e68 : a.tmps[68]?.getD undef = .bool false := gd (hd ⟨9, .data⟩ (by simp) rfl _ _ rfl rfl); exact flow_val (by first | (go_simp; done) | (go_simp; rfl) | (go_simp; simp [*]; done)) ⟨rfl, hC, fun _ _ _ h => h⟩
    · rw [if_pos (by rfl)]; have e72 : a.tmps[72]?.getD undef = .bool false := gd (hd ⟨13, .data⟩ (by simp) rfl _ _ rfl rfl); exact flow_val (by go_simp; try rfl) ⟨rfl, hC, fun _ _ _ h => h⟩
    · have eg := tmp_bool (hd ⟨14, .guard⟩ (by simp) rfl _ _ rfl rfl : a.tmps.getD 73 undef = .bool false); rw [if_neg (by simp [Region.wanted, yielded, eg])]; exact rfl
    · have eg := tmp_bool (hd ⟨14, .guard⟩ (by simp) rfl _ _ rfl rfl : a.tmps.getD 73 undef = .bool false); rw [if_neg (by simp [Region.wanted, yielded, eg])]; exact rfl
    · have eg := tmp_bool (hd ⟨14, .guard⟩ (by simp) rfl _ _ rfl rfl : a.tmps.getD 73 undef = .bool false); rw [if_neg (by simp [Region.wanted, yielded, eg])]; exact rfl
    · have eg := tmp_bool (hd ⟨14, .guard⟩ (by simp) rfl _ _ rfl rfl : a.tmps.getD 73 undef = .bool false); rw [if_neg (by simp [Region.wanted, yielded, eg])]; exact rfl
    · have eg := tmp_bool (hd ⟨14, .guard⟩ (by simp) rfl _ _ rfl rfl : a.tmps.getD 73 undef = .bool false); rw [if_neg (by simp [Region.wanted, yielded, eg])]; exact rfl
    · have eg := tmp_bool (hd ⟨14, .guard⟩ (by simp) rfl _ _ rfl rfl : a.tmps.getD 73 undef = .bool false); rw [if_neg (by simp [Region.wanted, yielded, eg])]; exact rfl
  intro vs' w4 hb4 hZ
  have v14 : vs' 14 = .bool false := hZ 14 _ _ (by omega) rfl rfl
  have v20 : vs' 20 = undef := hZ 20 _ _ (by omega) rfl rfl
  clear hZ w0 w1 x1 x2 x3 x4
  simp only [List.drop_succ_cons, List.drop_zero, List.take_succ_cons, List.take_zero, putAll, v14, v20]
  go_wp2_with fail
  go_ret
  exact ⟨by rw [HXX.out]; rfl, FIN.out _ hb4⟩
 case true =>
 by_cases hv : v4 ≥ 0
 case neg =>
  have HXX := Lib.hid (show isR z ⟨v0, false, ⟨v2, v3⟩, v4⟩ v0 = false by rw [HX.out, hI]; simp [hv])
  have hv' : decide (v4 ≥ 0) = false := by simpa using hv
  refine wp_region_flow3 21 (by kernel_rfl) (by kernel_rfl) ?_ (fun iz _ v => (ZI7C vb v0 v2 v3 v4 (.agg #[.slice A1 z.length c1, .slice A2 f.length c2]) (sizeR z v0)) iz v) (fun w' => Below W.heap.size W w') (Below.drew (Below.refl _ W)) ?_ ?_
  · intro i o' d hi ho hd
    have : i = 0 ∨ i = 1 ∨ i = 2 ∨ i = 3 ∨ i = 4 ∨ i = 5 ∨ i = 6 ∨ i = 7 ∨ i = 8 ∨ i = 9 ∨ i = 10 ∨ i = 11 ∨ i = 12 ∨ i = 13 ∨ i = 14 ∨ i = 15 ∨ i = 16 ∨ i = 17 ∨ i = 18 ∨ i = 19 ∨ i = 20 := by omega
    rcases this with rfl | rfl | rfl | rfl | rfl | rfl | rfl | rfl | rfl | rfl | rfl | rfl | rfl | rfl | rfl | rfl | rfl | rfl | rfl | rfl | rfl <;> (simp at ho; subst ho; simp at hd; subst hd; simp)
  · intro i o' hi ho
    have : i = 0 ∨ i = 1 ∨ i = 2 ∨ i = 3 ∨ i = 4 ∨ i = 5 ∨ i = 6 ∨ i = 7 ∨ i = 8 ∨ i = 9 ∨ i = 10 ∨ i = 11 ∨ i = 12 ∨ i = 13 ∨ i = 14 ∨ i = 15 ∨ i = 16 ∨ i = 17 ∨ i = 18 ∨ i = 19 ∨ i = 20 := by omega
    rcases this with rfl | rfl | rfl | rfl | rfl | rfl | rfl | rfl | rfl | rfl | rfl | rfl | rfl | rfl | rfl | rfl | rfl | rfl | rfl | rfl | rfl <;> (simp at ho; subst ho; intro a w' hC hd hr)
    · rw [if_pos (by rfl)]; have e4 : a.tmps[4]?.getD undef = .pointer (some ⟨vb, 0, none⟩) := gd (hr 4 (free_of (by rfl))); exact flow_val (by go_simp; try rfl) ⟨rfl, hC, fun _ _ _ h => h⟩
    · rw [if_pos (by rfl)]; have e59 : a.tmps[59]?.getD undef = .pointer (some ⟨vb, 1, none⟩) := gd (hd ⟨0, .data⟩ (by simp) rfl _ _ rfl rfl); have g0 := bget hC x1 hvl; exact flow_val (by go_simp; try rfl) ⟨rfl, hC, fun _ _ _ h => h⟩
    · rw [if_pos (by rfl)]; have e60 : a.tmps[60]?.getD undef = .bool false := gd (hd ⟨1, .data⟩ (by simp) rfl _ _ rfl rfl); exact flow_val (by go_simp; try rfl) ⟨rfl, hC, fun _ _ _ h => h⟩
    · rw [if_pos (by rfl)]; have e61 : a.tmps[61]?.getD undef = .bool true := gd (hd ⟨2, .data⟩ (by simp) rfl _ _ rfl rfl); exact flow_val (by go_simp; try rfl) ⟨rfl, hC, fun _ _ _ h => h⟩
    · have eg := tmp_bool (hd ⟨3, .guard⟩ (by simp) rfl _ _ rfl rfl : a.tmps.getD 62 undef = .bool true); rw [if_pos (by simp [Region.wanted, yielded, eg])]; clear eg; have e4 : a.tmps[4]?.getD undef = .pointer (some ⟨vb, 0, none⟩) := gd (hr 4 (free_of (by rfl))); exact flow_val (by go_simp; try rfl) ⟨rfl, hC, fun _ _ _ h => h⟩
    · have eg := tmp_bool (hd ⟨3, .guard⟩ (by simp) rfl _ _ rfl rfl : a.tmps.getD 62 undef = .bool true); rw [if_pos (by simp [Region.wanted, yielded, eg])]; clear eg; have e63 : a.tmps[63]?.getD undef = .pointer (some ⟨vb, 2, none⟩) := gd (hd ⟨4, .data⟩ (by simp) rfl _ _ rfl rfl); have g0 := bget hC x2 hvl; have g1 := bget hC x3 hvl; exact flow_val (by go_simp; try rfl) ⟨rfl, hC, fun _ _ _ h => h⟩
    · have eg := tmp_bool (hd ⟨3, .guard⟩ (by simp) rfl _ _ rfl rfl : a.tmps.getD 62 undef = .bool true); rw [if_pos (by simp [Region.wanted, yielded, eg])]; clear eg; exact flow_val (by go_simp; try rfl) ⟨rfl, hC, fun _ _ _ h => h⟩
    · have eg := tmp_bool (hd ⟨3, .guard⟩ (by simp) rfl _ _ rfl rfl : a.tmps.getD 62 undef = .bool true); rw [if_pos (by simp [Region.wanted, yielded, eg])]; clear eg; have e64 : a.tmps[64]?.getD undef = .agg #[.int .i64 v2, .int .i64 v3] := gd (hd ⟨5, .data⟩ (by simp) rfl _ _ rfl rfl); have e65 : a.tmps[65]?.getD undef = .agg #[.int .i64 0, .int .i64 0] := gd (hd ⟨6, .data⟩ (by simp) rfl _ _ rfl rfl); exact flow_val (by first | (go_simp; done) | (go_simp; rfl) | (go_simp; simp [*]; done)) ⟨rfl, hC, fun _ _ _ h => h⟩
    · rw [if_pos (by rfl)]; have e62 : a.tmps[62]?.getD undef = .bool true := gd (hd ⟨3, .data⟩ (by simp) rfl _ _ rfl rfl); have e66 : a.tmps[66]?.getD undef = .bool true := gd (hd ⟨7, .data⟩ (by simp) rfl _ _ rfl rfl); exact flow_val (by first | (go_simp; done) | (go_simp; rfl) | (go_simp; simp [*]; done)) ⟨rfl, hC, fun _ _ _ h => h⟩
    · rw [if_pos (by rfl)]; have e67 : a.tmps[67]?.getD undef = .bool true := gd (hd ⟨8, .data⟩ (by simp) rfl _ _ rfl rfl); exact flow_val (by go_simp; try rfl) ⟨rfl, hC, fun _ _ _ h => h⟩
    · have eg := tmp_bool (hd ⟨9, .guard⟩ (by simp) rfl _ _ rfl rfl : a.tmps.getD 68 undef = .bool true); rw [if_pos (by simp [Region.wanted, yielded, eg])]; clear eg; have e4 : a.tmps[4]?.getD undef = .pointer (some ⟨vb, 0, none⟩) := gd (hr 4 (free_of (by rfl))); exact flow_val (by go_simp; try rfl) ⟨rfl, hC, fun _ _ _ h => h⟩
    · have eg := tmp_bool (hd ⟨9, .guard⟩ (by simp) rfl _ _ rfl rfl : a.tmps.getD 68 undef = .bool true); rw [if_pos (by simp [Region.wanted, yielded, eg])]; clear eg; have e69 : a.tmps[69]?.getD undef = .pointer (some ⟨vb, 4, none⟩) := gd (hd ⟨10, .data⟩ (by simp) rfl _ _ rfl rfl); have g0 := bget hC x4 hvl; exact flow_val (by go_simp; try rfl) ⟨rfl, hC, fun _ _ _ h => h⟩
    · have eg := tmp_bool (hd ⟨9, .guard⟩ (by simp) rfl _ _ rfl rfl : a.tmps.getD 68 undef = .bool true); rw [if_pos (by simp [Region.wanted, yielded, eg])]; clear eg; have e70 : a.tmps[70]?.getD undef = .int .i64 v4 := gd (hd ⟨11, .data⟩ (by simp) rfl _ _ rfl rfl); exact flow_val (by first | (go_simp; done) | (go_simp; rfl) | (go_simp; simp [*]; done)) ⟨rfl, hC, fun _ _ _ h => h⟩
    · rw [if_pos (by rfl)]; have e68 : a.tmps[68]?.getD undef = .bool true := gd (hd ⟨9, .data⟩ (by simp) rfl _ _ rfl rfl); have e71 : a.tmps[71]?.getD undef = .bool false := gd (hd ⟨12, .data⟩ (by simp) rfl _ _ rfl rfl); exact flow_val (by first | (go_simp; done) | (go_simp; rfl) | (go_simp; simp [*]; done)) ⟨rfl, hC, fun _ _ _ h => h⟩
    · rw [if_pos (by rfl)]; have e72 : a.tmps[72]?.getD undef = .bool false := gd (hd ⟨13, .data⟩ (by simp) rfl _ _ rfl rfl); exact flow_val (by go_simp; try rfl) ⟨rfl, hC, fun _ _ _ h => h⟩
    · have eg := tmp_bool (hd ⟨14, .guard⟩ (by simp) rfl _ _ rfl rfl : a.tmps.getD 73 undef = .bool false); rw [if_neg (by simp [Region.wanted, yielded, eg])]; exact rfl
    · have eg := tmp_bool (hd ⟨14, .guard⟩ (by simp) rfl _ _ rfl rfl : a.tmps.getD 73 undef = .bool false); rw [if_neg (by simp [Region.wanted, yielded, eg])]; exact rfl
    · have eg := tmp_bool (hd ⟨14, .guard⟩ (by simp) rfl _ _ rfl rfl : a.tmps.getD 73 undef = .bool false); rw [if_neg (by simp [Region.wanted, yielded, eg])]; exact rfl
    · have eg := tmp_bool (hd ⟨14, .guard⟩ (by simp) rfl _ _ rfl rfl : a.tmps.getD 73 undef = .bool false); rw [if_neg (by simp [Region.wanted, yielded, eg])]; exact rfl
    · have eg := tmp_bool (hd ⟨14, .guard⟩ (by simp) rfl _ _ rfl rfl : a.tmps.getD 73 undef = .bool false); rw [if_neg (by simp [Region.wanted, yielded, eg])]; exact rfl
    · have eg := tmp_bool (hd ⟨14, .guard⟩ (by simp) rfl _ _ rfl rfl : a.tmps.getD 73 undef = .bool false); rw [if_neg (by simp [Region.wanted, yielded, eg])]; exact rfl
  intro vs' w4 hb4 hZ
  have v14 : vs' 14 = .bool false := hZ 14 _ _ (by omega) rfl rfl
  have v20 : vs' 20 = undef := hZ 20 _ _ (by omega) rfl rfl
  clear hZ w0 w1 x1 x2 x3 x4
  simp only [List.drop_succ_cons, List.drop_zero, List.take_succ_cons, List.take_zero, putAll, v14, v20]
  go_wp2_with fail
  go_ret
  exact ⟨by rw [HXX.out]; rfl, FIN.out _ hb4⟩
 case pos =>
  have HXX := Lib.hid (show isR z ⟨v0, false, ⟨v2, v3⟩, v4⟩ v0 = decide (v4 < sizeR z v0) by rw [HX.out, hI]; simp [hv])
  have hv' : decide (v4 ≥ 0) = true := by simpa using hv
  refine wp_region_flow3 21 (by kernel_rfl) (by kernel_rfl) ?_ (fun iz _ v => (ZI7D vb v0 v2 v3 v4 (.agg #[.slice A1 z.length c1, .slice A2 f.length c2]) (sizeR z v0)) iz v) (fun w' => Below W.heap.size W w') (Below.drew (Below.refl _ W)) ?_ ?_
  · intro i o' d hi ho hd
    have : i = 0 ∨ i = 1 ∨ i = 2 ∨ i = 3 ∨ i = 4 ∨ i = 5 ∨ i = 6 ∨ i = 7 ∨ i = 8 ∨ i = 9 ∨ i = 10 ∨ i = 11 ∨ i = 12 ∨ i = 13 ∨ i = 14 ∨ i = 15 ∨ i = 16 ∨ i = 17 ∨ i = 18 ∨ i = 19 ∨ i = 20 := by omega
    rcases this with rfl | rfl | rfl | rfl | rfl | rfl | rfl | rfl | rfl | rfl | rfl | rfl | rfl | rfl | rfl | rfl | rfl | rfl | rfl | rfl | rfl <;> (simp at ho; subst ho; simp at hd; subst hd; simp)
  · intro i o' hi ho
    have : i = 0 ∨ i = 1 ∨ i = 2 ∨ i = 3 ∨ i = 4 ∨ i = 5 ∨ i = 6 ∨ i = 7 ∨ i = 8 ∨ i = 9 ∨ i = 10 ∨ i = 11 ∨ i = 12 ∨ i = 13 ∨ i = 14 ∨ i = 15 ∨ i = 16 ∨ i = 17 ∨ i = 18 ∨ i = 19 ∨ i = 20 := by omega
    rcases this with rfl | rfl | rfl | rfl | rfl | rfl | rfl | rfl | rfl | rfl | rfl | rfl | rfl | rfl | rfl | rfl | rfl | rfl | rfl | rfl | rfl <;> (simp at ho; subst ho; intro a w' hC hd hr)
    · rw [if_pos (by rfl)]; have e4 : a.tmps[4]?.getD undef = .pointer (some ⟨vb, 0, none⟩) := gd (hr 4 (free_of (by rfl))); exact flow_val (by go_simp; try rfl) ⟨rfl, hC, fun _ _ _ h => h⟩
    · rw [if_pos (by rfl)]; have e59 : a.tmps[59]?.getD undef = .pointer (some ⟨vb, 1, none⟩) := gd (hd ⟨0, .data⟩ (by simp) rfl _ _ rfl rfl); have g0 := bget hC x1 hvl; exact flow_val (by go_simp; try rfl) ⟨rfl, hC, fun _ _ _ h => h⟩
    · rw [if_pos (by rfl)]; have e60 : a.tmps[60]?.getD undef = .bool false := gd (hd ⟨1, .data⟩ (by simp) rfl _ _ rfl rfl); exact flow_val (by go_simp; try rfl) ⟨rfl, hC, fun _ _ _ h => h⟩
    · rw [if_pos (by rfl)]; have e61 : a.tmps[61]?.getD undef = .bool true := gd (hd ⟨2, .data⟩ (by simp) rfl _ _ rfl rfl); exact flow_val (by go_simp; try rfl) ⟨rfl, hC, fun _ _ _ h => h⟩
    · have eg := tmp_bool (hd ⟨3, .guard⟩ (by simp) rfl _ _ rfl rfl : a.tmps.getD 62 undef = .bool true); rw [if_pos (by simp [Region.wanted, yielded, eg])]; clear eg; have e4 : a.tmps[4]?.getD undef = .pointer (some ⟨vb, 0, none⟩) := gd (hr 4 (free_of (by rfl))); exact flow_val (by go_simp; try rfl) ⟨rfl, hC, fun _ _ _ h => h⟩
    · have eg := tmp_bool (hd ⟨3, .guard⟩ (by simp) rfl _ _ rfl rfl : a.tmps.getD 62 undef = .bool true); rw [if_pos (by simp [Region.wanted, yielded, eg])]; clear eg; have e63 : a.tmps[63]?.getD undef = .pointer (some ⟨vb, 2, none⟩) := gd (hd ⟨4, .data⟩ (by simp) rfl _ _ rfl rfl); have g0 := bget hC x2 hvl; have g1 := bget hC x3 hvl; exact flow_val (by go_simp; try rfl) ⟨rfl, hC, fun _ _ _ h => h⟩
    · have eg := tmp_bool (hd ⟨3, .guard⟩ (by simp) rfl _ _ rfl rfl : a.tmps.getD 62 undef = .bool true); rw [if_pos (by simp [Region.wanted, yielded, eg])]; clear eg; exact flow_val (by go_simp; try rfl) ⟨rfl, hC, fun _ _ _ h => h⟩
    · have eg := tmp_bool (hd ⟨3, .guard⟩ (by simp) rfl _ _ rfl rfl : a.tmps.getD 62 undef = .bool true); rw [if_pos (by simp [Region.wanted, yielded, eg])]; clear eg; have e64 : a.tmps[64]?.getD undef = .agg #[.int .i64 v2, .int .i64 v3] := gd (hd ⟨5, .data⟩ (by simp) rfl _ _ rfl rfl); have e65 : a.tmps[65]?.getD undef = .agg #[.int .i64 0, .int .i64 0] := gd (hd ⟨6, .data⟩ (by simp) rfl _ _ rfl rfl); exact flow_val (by first | (go_simp; done) | (go_simp; rfl) | (go_simp; simp [*]; done)) ⟨rfl, hC, fun _ _ _ h => h⟩
    · rw [if_pos (by rfl)]; have e62 : a.tmps[62]?.getD undef = .bool true := gd (hd ⟨3, .data⟩ (by simp) rfl _ _ rfl rfl); have e66 : a.tmps[66]?.getD undef = .bool true := gd (hd ⟨7, .data⟩ (by simp) rfl _ _ rfl rfl); exact flow_val (by first | (go_simp; done) | (go_simp; rfl) | (go_simp; simp [*]; done)) ⟨rfl, hC, fun _ _ _ h => h⟩
    · rw [if_pos (by rfl)]; have e67 : a.tmps[67]?.getD undef = .bool true := gd (hd ⟨8, .data⟩ (by simp) rfl _ _ rfl rfl); exact flow_val (by go_simp; try rfl) ⟨rfl, hC, fun _ _ _ h => h⟩
    · have eg := tmp_bool (hd ⟨9, .guard⟩ (by simp) rfl _ _ rfl rfl : a.tmps.getD 68 undef = .bool true); rw [if_pos (by simp [Region.wanted, yielded, eg])]; clear eg; have e4 : a.tmps[4]?.getD undef = .pointer (some ⟨vb, 0, none⟩) := gd (hr 4 (free_of (by rfl))); exact flow_val (by go_simp; try rfl) ⟨rfl, hC, fun _ _ _ h => h⟩
    · have eg := tmp_bool (hd ⟨9, .guard⟩ (by simp) rfl _ _ rfl rfl : a.tmps.getD 68 undef = .bool true); rw [if_pos (by simp [Region.wanted, yielded, eg])]; clear eg; have e69 : a.tmps[69]?.getD undef = .pointer (some ⟨vb, 4, none⟩) := gd (hd ⟨10, .data⟩ (by simp) rfl _ _ rfl rfl); have g0 := bget hC x4 hvl; exact flow_val (by go_simp; try rfl) ⟨rfl, hC, fun _ _ _ h => h⟩
    · have eg := tmp_bool (hd ⟨9, .guard⟩ (by simp) rfl _ _ rfl rfl : a.tmps.getD 68 undef = .bool true); rw [if_pos (by simp [Region.wanted, yielded, eg])]; clear eg; have e70 : a.tmps[70]?.getD undef = .int .i64 v4 := gd (hd ⟨11, .data⟩ (by simp) rfl _ _ rfl rfl); exact flow_val (by first | (go_simp; done) | (go_simp; rfl) | (go_simp; simp [*]; done)) ⟨rfl, hC, fun _ _ _ h => h⟩
    · rw [if_pos (by rfl)]; have e68 : a.tmps[68]?.getD undef = .bool true := gd (hd ⟨9, .data⟩ (by simp) rfl _ _ rfl rfl); have e71 : a.tmps[71]?.getD undef = .bool true := gd (hd ⟨12, .data⟩ (by simp) rfl _ _ rfl rfl); exact flow_val (by first | (go_simp; done) | (go_simp; rfl) | (go_simp; simp [*]; done)) ⟨rfl, hC, fun _ _ _ h => h⟩
    · rw [if_pos (by rfl)]; have e72 : a.tmps[72]?.getD undef = .bool true := gd (hd ⟨13, .data⟩ (by simp) rfl _ _ rfl rfl); exact flow_val (by go_simp; try rfl) ⟨rfl, hC, fun _ _ _ h => h⟩
    · have eg := tmp_bool (hd ⟨14, .guard⟩ (by simp) rfl _ _ rfl rfl : a.tmps.getD 73 undef = .bool true); rw [if_pos (by simp [Region.wanted, yielded, eg])]; clear eg; have e4 : a.tmps[4]?.getD undef = .pointer (some ⟨vb, 0, none⟩) := gd (hr 4 (free_of (by rfl))); exact flow_val (by go_simp; try rfl) ⟨rfl, hC, fun _ _ _ h => h⟩
    · have eg := tmp_bool (hd ⟨14, .guard⟩ (by simp) rfl _ _ rfl rfl : a.tmps.getD 73 undef = .bool true); rw [if_pos (by simp [Region.wanted, yielded, eg])]; clear eg; have e74 : a.tmps[74]?.getD undef = .pointer (some ⟨vb, 4, none⟩) := gd (hd ⟨15, .data⟩ (by simp) rfl _ _ rfl rfl); have g0 := bget hC x4 hvl; exact flow_val (by go_simp; try rfl) ⟨rfl, hC, fun _ _ _ h => h⟩
    · have eg := tmp_bool (hd ⟨14, .guard⟩ (by simp) rfl _ _ rfl rfl : a.tmps.getD 73 undef = .bool true); rw [if_pos (by simp [Region.wanted, yielded, eg])]; clear eg; have e3 : a.tmps[3]?.getD undef = .pointer (some ⟨wb, 0, none⟩) := gd (hr 3 (free_of (by rfl))); have g0 := bget hC w0 hwl; have g1 := bget hC w1 hwl; exact flow_val (by go_simp; try rfl) ⟨rfl, hC, fun _ _ _ h => h⟩
    · have eg := tmp_bool (hd ⟨14, .guard⟩ (by simp) rfl _ _ rfl rfl : a.tmps.getD 73 undef = .bool true); rw [if_pos (by simp [Region.wanted, yielded, eg])]; clear eg; have e2 : a.tmps[2]?.getD undef = .int .i64 v0 := gd (hr 2 (free_of (by rfl))); exact flow_val (by go_simp; try rfl) ⟨rfl, hC, fun _ _ _ h => h⟩
    · have eg := tmp_bool (hd ⟨14, .guard⟩ (by simp) rfl _ _ rfl rfl : a.tmps.getD 73 undef = .bool true); rw [if_pos (by simp [Region.wanted, yielded, eg])]; clear eg; have e76 : a.tmps[76]?.getD undef = .agg #[.slice A1 z.length c1, .slice A2 f.length c2] := gd (hd ⟨17, .data⟩ (by simp) rfl _ _ rfl rfl); have e77 : a.tmps[77]?.getD undef = .int .i64 v0 := gd (hd ⟨18, .data⟩ (by simp) rfl _ _ rfl rfl); exact flow_call (by go_simp) ((HSZ.out w' hC).mono fun e w'' ⟨he, hb⟩ => ⟨_, he, rfl, hC.trans (hb.mono hC.size), fun _ _ _ h => h⟩)
    · have eg := tmp_bool (hd ⟨14, .guard⟩ (by simp) rfl _ _ rfl rfl : a.tmps.getD 73 undef = .bool true); rw [if_pos (by simp [Region.wanted, yielded, eg])]; clear eg; have e75 : a.tmps[75]?.getD undef = .int .i64 v4 := gd (hd ⟨16, .data⟩ (by simp) rfl _ _ rfl rfl); have e78 : a.tmps[78]?.getD undef = .int .i64 (sizeR z v0) := gd (hd ⟨19, .data⟩ (by simp) rfl _ _ rfl rfl); exact flow_val (by go_simp; try rfl) ⟨rfl, hC, fun _ _ _ h => h⟩
  intro vs' w4 hb4 hZ
  have v14 : vs' 14 = .bool true := hZ 14 _ _ (by omega) rfl rfl
  have v20 : vs' 20 = .bool (decide (v4 < sizeR z v0)) := hZ 20 _ _ (by omega) rfl rfl
  clear hZ w0 w1 x1 x2 x3 x4
  simp only [List.drop_succ_cons, List.drop_zero, List.take_succ_cons, List.take_zero, putAll, v14, v20]
  go_wp2_with fail
  go_ret
  exact ⟨by rw [HXX.out]; rfl, FIN.out _ hb4⟩
def ZT6A (tb fb i bb oo : Nat) (_res : Int) (vr va : Value) (ln : Nat) (vs : Value) (sn : Nat) (_vw _vv : Value) (_ans : Bool) : Nat → Value → Prop
 | 0, v => v = .pointer (some ⟨tb, 1, none⟩)
 | 1, v => v = vr
 | 2, v => v = .int .i64 i
 | 3, v => v = .pointer (some ⟨bb, oo, none⟩)
 | 4, v => v = .pointer (some ⟨bb, oo, none⟩)
 | 5, v => v = va
 | 6, v => v = .int .i64 (ln : Int)
 | 7, v => v = .pointer (some ⟨fb, 1, none⟩)
 | 8, v => v = vs
 | 9, v => v = .int .i64 (sn : Int)
 | 10, v => v = .bool true
 | 11, v => v = .bool true
 | 12, v => v = undef
 | 13, v => v = undef
 | 14, v => v = undef
 | 15, v => v = undef
 | 16, v => v = undef
 | 17, v => v = undef
 | 18, v => v = undef
 | 19, v => v = undef
 | 20, v => v = undef
 | 21, v => v = undef
 | _, v => v = undef
def ZT6B (tb fb i bb oo : Nat) (res : Int) (vr va : Value) (ln : Nat) (vs : Value) (sn : Nat) (vw vv : Value) (ans : Bool) : Nat → Value → Prop
 | 0, v => v = .pointer (some ⟨tb, 1, none⟩)
 | 1, v => v = vr
 | 2, v => v = .int .i64 i
 | 3, v => v = .pointer (some ⟨bb, oo, none⟩)
 | 4, v => v = .pointer (some ⟨bb, oo, none⟩)
 | 5, v => v = va
 | 6, v => v = .int .i64 (ln : Int)
 | 7, v => v = .pointer (some ⟨fb, 1, none⟩)
 | 8, v => v = vs
 | 9, v => v = .int .i64 (sn : Int)
 | 10, v => v = .bool false
 | 11, v => v = .bool false
 | 12, v => v = vw
 | 13, v => v = .pointer (some ⟨tb, 1, none⟩)
 | 14, v => v = vr
 | 15, v => v = .int .i64 i
 | 16, v => v = .pointer (some ⟨bb, oo, none⟩)
 | 17, v => v = .pointer (some ⟨bb, oo + 1, none⟩)
 | 18, v => v = vv
 | 19, v => v = .pointer (some ⟨fb, 2, none⟩)
 | 20, v => v = .int .i64 res
 | 21, v => v = .bool ans
 | _, v => v = .bool (!ans)
def ZT11 (tb fb i bb oo j b5 o5 b6 o6 : Nat) (s : Int) (vr va vs vw vv : Value) (ans : Bool) : Nat → Value → Prop
 | 0, v => v = vw
 | 1, v => v = .pointer (some ⟨tb, 1, none⟩)
 | 2, v => v = vr
 | 3, v => v = .int .i64 i
 | 4, v => v = .pointer (some ⟨bb, oo, none⟩)
 | 5, v => v = .pointer (some ⟨bb, oo, none⟩)
 | 6, v => v = va
 | 7, v => v = .int .i64 j
 | 8, v => v = .pointer (some ⟨b5, o5, none⟩)
 | 9, v => v = vv
 | 10, v => v = .pointer (some ⟨fb, 1, none⟩)
 | 11, v => v = vs
 | 12, v => v = .int .i64 j
 | 13, v => v = .pointer (some ⟨b6, o6, none⟩)
 | 14, v => v = .int .i64 s
 | _, v => v = .bool ans
set_option maxRecDepth 100000 in
set_option maxHeartbeats 2000000 in
theorem rtable_any (w : World) (A1 : Option Addr) (c1 : Nat) (z : List S78) (A2 : Option Addr) (c2 : Nat) (f : List S81) (hz : k78.C w A1 z.length z) (hzc : z.length ≤ c1) (hf : k81.C w A2 f.length f) (hfc : f.length ≤ c2) (hz5 : z.length ≤ 100000)
 (fn : Int) (A4 : Option Addr) (c4 : Nat) (rows : List S84) (hr : k84.C w A4 rows.length rows) (e0 : Int) (e1 : Bool) (e2 e3 e4 : Int) (nm : ByteArray) (za : Option Addr) (zc : Nat) (ss : List Int) (hs : (Kd.int .i64).C w za ss.length ss) (hss : ss.length ≤ 100000) (res : Int) (df : Bool) :
 Calls Tryz.prog 53 #[.agg #[.slice A1 z.length c1, .slice A2 f.length c2], .agg #[.int .i64 fn, .slice A4 rows.length c4, .int .i64 e0, .bool e1, .int .i64 e2, .int .i64 e3, .int .i64 e4], .agg #[.string nm, .slice za ss.length zc, .int .i64 res, .bool df]] w fun e w' => e = .returned (.bool (tabR z ⟨fn, rows, ⟨e0, e1, ⟨e2, e3⟩, e4⟩⟩ res ss)) ∧ Below w.heap.size w w' := by
 have HIS := Lib.hid (show ∀ W, Below w.heap.size w W → ∀ v0 v1 v2 v3 v4 s, Calls Tryz.prog 103 #[.agg #[.slice A1 z.length c1, .slice A2 f.length c2], .agg #[.int .i64 v0, .bool v1, .int .i64 v2, .int .i64 v3, .int .i64 v4], .int .i64 s] W fun e w' => e = .returned (.bool (isR z ⟨v0, v1, ⟨v2, v3⟩, v4⟩ s)) ∧ Below W.heap.size W w' from
  fun W hb v0 v1 v2 v3 v4 s => ris_any W A1 c1 z A2 c2 f (Kd.C_below hz hb) hzc (Kd.C_below hf hb) hfc hz5 v0 v1 v2 v3 v4 s)
 have HRS := Lib.hid hr
 have HSS := Lib.hid hs
 clear hz hzc hf hfc hz5 hr hs
 by_cases hl : rows.length ≤ 2000
 case neg =>
  have hl' : (rows.length : Int) > 2000 := by omega
  have HX := Lib.hid (show tabR z ⟨fn, rows, ⟨e0, e1, ⟨e2, e3⟩, e4⟩⟩ res ss = false by unfold tabR; simp [hl])
  go_enter Tryz.func53, Tryz.ntmps53
  go_wp2_with fail
  go_ret
  exact ⟨by rw [HX.out]; rfl, by (repeat (first | (with_reducible exact Below.refl _ _) | ((with_reducible refine Below.alloc ?_ ?_ _); rotate_left; focus (first | (simp; done) | (simp; omega))) | ((with_reducible refine Below.setCell ?_ ?_ _); rotate_left; focus (first | (simp; done) | (simp; omega))) | (with_reducible refine Below.drew ?_) | (with_reducible refine Below.drewN' ?_ _)))⟩
 case pos =>
 have hl' : ¬ (rows.length : Int) > 2000 := by omega
 have HX0 := Lib.hid (show tabR z ⟨fn, rows, ⟨e0, e1, ⟨e2, e3⟩, e4⟩⟩ res ss = (isR z ⟨e0, e1, ⟨e2, e3⟩, e4⟩ res && rows.all (rowR z res ss)) by unfold tabR; simp only [decide_eq_true hl, Bool.true_and])
 have hb0 : Below w.heap.size w (((w.alloc (.cells #[.slice A1 z.length c1, .slice A2 f.length c2] 37)).alloc (.cells #[.int .i64 fn, .slice A4 rows.length c4, .int .i64 e0, .bool e1, .int .i64 e2, .int .i64 e3, .int .i64 e4] 81)).alloc (.cells #[.string nm, .slice za ss.length zc, .int .i64 res, .bool df] 72)) :=
  (((Below.refl _ w).alloc (Nat.le_refl _) _).alloc (by simp) _).alloc (by simp; omega) _
 have HB0 := Lib.hid hb0
 have HR1 := Lib.hid (RowB.kept (S := fun _ => False) (RowB.new w [.slice A1 z.length c1, .slice A2 f.length c2] 37) (((Ch.refl _ _).alloc (.cells #[.int .i64 fn, .slice A4 rows.length c4, .int .i64 e0, .bool e1, .int .i64 e2, .int .i64 e3, .int .i64 e4] 81)).alloc (.cells #[.string nm, .slice za ss.length zc, .int .i64 res, .bool df] 72)) (fun e => e))
 have HR2 := Lib.hid (show RowB (((w.alloc (.cells #[.slice A1 z.length c1, .slice A2 f.length c2] 37)).alloc (.cells #[.int .i64 fn, .slice A4 rows.length c4, .int .i64 e0, .bool e1, .int .i64 e2, .int .i64 e3, .int .i64 e4] 81)).alloc (.cells #[.string nm, .slice za ss.length zc, .int .i64 res, .bool df] 72)) (w.heap.size + 1) 81 [.int .i64 fn, .slice A4 rows.length c4, .int .i64 e0, .bool e1, .int .i64 e2, .int .i64 e3, .int .i64 e4] by
  have := RowB.new (w.alloc (.cells #[.slice A1 z.length c1, .slice A2 f.length c2] 37)) [.int .i64 fn, .slice A4 rows.length c4, .int .i64 e0, .bool e1, .int .i64 e2, .int .i64 e3, .int .i64 e4] 81
  rw [show (w.alloc (.cells #[.slice A1 z.length c1, .slice A2 f.length c2] 37)).heap.size = w.heap.size + 1 by simp] at this
  exact RowB.kept (S := fun _ => False) this ((Ch.refl _ _).alloc _) (fun e => e))
 have HR3 := Lib.hid (show RowB (((w.alloc (.cells #[.slice A1 z.length c1, .slice A2 f.length c2] 37)).alloc (.cells #[.int .i64 fn, .slice A4 rows.length c4, .int .i64 e0, .bool e1, .int .i64 e2, .int .i64 e3, .int .i64 e4] 81)).alloc (.cells #[.string nm, .slice za ss.length zc, .int .i64 res, .bool df] 72)) (w.heap.size + 1 + 1) 72 [.string nm, .slice za ss.length zc, .int .i64 res, .bool df] by
  have := RowB.new ((w.alloc (.cells #[.slice A1 z.length c1, .slice A2 f.length c2] 37)).alloc (.cells #[.int .i64 fn, .slice A4 rows.length c4, .int .i64 e0, .bool e1, .int .i64 e2, .int .i64 e3, .int .i64 e4] 81)) [.string nm, .slice za ss.length zc, .int .i64 res, .bool df] 72
  rw [show ((w.alloc (.cells #[.slice A1 z.length c1, .slice A2 f.length c2] 37)).alloc (.cells #[.int .i64 fn, .slice A4 rows.length c4, .int .i64 e0, .bool e1, .int .i64 e2, .int .i64 e3, .int .i64 e4] 81)).heap.size = w.heap.size + 1 + 1 by simp] at this
  exact this)
 clear hb0
 go_enter Tryz.func53, Tryz.ntmps53
 go_wp2_with fail
 refine (HIS.out _ HB0.out e0 e1 e2 e3 e4 res).mono ?_; rintro e w9 ⟨rfl, hb9⟩
 have hr1 := HR1.out.kept (S := fun _ => False) (Ch.ofBelow hb9) (fun e => e)
 have hr2 := HR2.out.kept (S := fun _ => False) (Ch.ofBelow hb9) (fun e => e)
 have hr3 := HR3.out.kept (S := fun _ => False) (Ch.ofBelow hb9) (fun e => e)
 have HB := Lib.hid (HB0.out.trans (hb9.mono HB0.out.size))
 clear HR1 HR2 HR3 HB0 hb9
 generalize w.heap.size + 1 + 1 = fb at hr3 ⊢
 generalize w.heap.size + 1 = tb at hr2 ⊢
 generalize hwb : w.heap.size = wb at hr1 ⊢
 have HWB := Lib.hid hwb
 have HR1 := Lib.hid hr1
 have HR2 := Lib.hid hr2
 have HR3 := Lib.hid hr3
 clear hwb hr1 hr2 hr3
 cases hE : isR z ⟨e0, e1, ⟨e2, e3⟩, e4⟩ res
 case false =>
  have HX := Lib.hid (show tabR z ⟨fn, rows, ⟨e0, e1, ⟨e2, e3⟩, e4⟩⟩ res ss = false by rw [HX0.out, hE]; rfl)
  go_wp2_with fail
  go_ret
  exact ⟨by rw [HX.out]; rfl, HB.out⟩
 case true =>
 have HX := Lib.hid (show tabR z ⟨fn, rows, ⟨e0, e1, ⟨e2, e3⟩, e4⟩⟩ res ss = rows.all (rowR z res ss) by rw [HX0.out, hE]; rfl)
 clear HX0 hE
 go_wp2_with fail
 go_loopw [7] (fun vi wr => ∃ i : Nat, vi = .int .i64 i ∧ i ≤ rows.length ∧ Hid (Below w9.heap.size w9 wr ∧ rows.all (rowR z res ss) = (rows.drop i).all (rowR z res ss))) (fun vi _ => rows.length - (intOf vi).toNat)
 case atStart => exact ⟨0, rfl, by omega, Lib.hid ⟨Below.refl _ _, rfl⟩⟩
 case round =>
  obtain ⟨i, rfl, hi, hh⟩ := hrel
  have HB9 := Lib.hid hh.out.1
  have HQ := Lib.hid hh.out.2
  have HBW := Lib.hid (HB.out.trans (hh.out.1.mono HB.out.size))
  have hr1 := HR1.out.kept (S := fun _ => False) (Ch.ofBelow hh.out.1) (fun e => e)
  have hr2 := HR2.out.kept (S := fun _ => False) (Ch.ofBelow hh.out.1) (fun e => e)
  have hr3 := HR3.out.kept (S := fun _ => False) (Ch.ofBelow hh.out.1) (fun e => e)
  have w0 : wr.cell? ⟨wb, 0, none⟩ = some (.slice A1 z.length c1) := hr1.cell 0
  have w1 : wr.cell? ⟨wb, 1, none⟩ = some (.slice A2 f.length c2) := hr1.cell 1
  have hwl : wb < wr.heap.size := hr1.lt
  have t1 : wr.cell? ⟨tb, 1, none⟩ = some (.slice A4 rows.length c4) := hr2.cell 1
  have htl : tb < wr.heap.size := hr2.lt
  have f1 : wr.cell? ⟨fb, 1, none⟩ = some (.slice za ss.length zc) := hr3.cell 1
  have f2 : wr.cell? ⟨fb, 2, none⟩ = some (.int .i64 res) := hr3.cell 2
  have hfl : fb < wr.heap.size := hr3.lt
  clear hh hr1 hr2 hr3
  by_cases hil : i < rows.length
  case neg =>
   have hil' : ¬ (i : Int) < rows.length := by omega
   have HXX := Lib.hid (show tabR z ⟨fn, rows, ⟨e0, e1, ⟨e2, e3⟩, e4⟩⟩ res ss = true by rw [HX.out, HQ.out, List.drop_of_length_le (by omega)]; rfl)
   go_wp2_with fail
   go_ret
   exact ⟨by rw [HXX.out]; rfl, HBW.out⟩
  case pos =>
   have hil' : (i : Int) < rows.length := by omega
   obtain ⟨ad, bb, oo, cs, hA, hadd, hK, hc, hbl⟩ := cells_at z84 HRS.out i hil (by decide)
   subst hA
   obtain ⟨A5, c5, rfl, hle5, hC5⟩ := k84_open hK
   replace hadd : ad.add (i * 6) = ⟨bb, oo, none⟩ := hadd
   have hd : rows.drop i = rows.getD i z84 :: rows.drop (i + 1) := by rw [List.drop_eq_getElem_cons hil]; simp [hil]
   have HE := Lib.hid (show rows.all (rowR z res ss) = (rowR z res ss (rows.getD i z84) && (rows.drop (i + 1)).all (rowR z res ss)) by rw [HQ.out, hd, List.all_cons])
   generalize rows.getD i z84 = rr at *
   obtain ⟨la, ⟨r0, r1, ⟨r2, r3⟩, r4⟩⟩ := rr
   simp only at hc hC5 hle5 HE
   have q0 : wr.cell? ⟨bb, oo, none⟩ = some (.slice A5 la.length c5) := ((bcell HBW.out).1 bb _ hbl).trans (by have := hc 0 _ rfl; simpa using this)
   have q1 : wr.cell? ⟨bb, oo + 1, none⟩ = some (.int .i64 r0) := ((bcell HBW.out).1 bb _ hbl).trans (hc 1 _ rfl)
   have q2 : wr.cell? ⟨bb, oo + 2, none⟩ = some (.bool r1) := ((bcell HBW.out).1 bb _ hbl).trans (hc 2 _ rfl)
   have q3 : wr.cell? ⟨bb, oo + 3, none⟩ = some (.int .i64 r2) := ((bcell HBW.out).1 bb _ hbl).trans (hc 3 _ rfl)
   have q4 : wr.cell? ⟨bb, oo + 4, none⟩ = some (.int .i64 r3) := ((bcell HBW.out).1 bb _ hbl).trans (hc 4 _ rfl)
   have q5 : wr.cell? ⟨bb, oo + 5, none⟩ = some (.int .i64 r4) := ((bcell HBW.out).1 bb _ hbl).trans (hc 5 _ rfl)
   have hbr : bb < wr.heap.size := Nat.lt_of_lt_of_le hbl HBW.out.size
   have HA5 := Lib.hid hC5
   have HQQ := Lib.hid (show ∀ W, Below w.heap.size w W → W.cell? ⟨bb, oo, none⟩ = some (.slice A5 la.length c5) ∧ bb < W.heap.size from fun W hb => ⟨((bcell hb).1 bb _ hbl).trans (by have := hc 0 _ rfl; simpa using this), Nat.lt_of_lt_of_le hbl hb.size⟩)
   have HIS2 := Lib.hid HIS.out
   clear hK hc hd hC5 hle5 hbl
   by_cases hll : la.length = ss.length
   case neg =>
    have hq2 : ((la.length : Int) != (ss.length : Int)) = true := by simp; omega
    have HXX := Lib.hid (show tabR z ⟨fn, rows, ⟨e0, e1, ⟨e2, e3⟩, e4⟩⟩ res ss = false by rw [HX.out, HE.out]; unfold rowR; simp [hll])
    have hans : ∃ ans : Bool, ans = true := ⟨true, rfl⟩
    obtain ⟨ans, _⟩ := hans
    go_wp2_with fail
    refine wp_region_flow3 23 (by kernel_rfl) (by kernel_rfl) ?_ (fun iz _ v => (ZT6A tb fb i bb oo res (.slice (some ad) rows.length c4) (.slice A5 la.length c5) la.length (.slice za ss.length zc) ss.length (.agg #[.slice A1 z.length c1, .slice A2 f.length c2]) (.agg #[.int .i64 r0, .bool r1, .int .i64 r2, .int .i64 r3, .int .i64 r4]) ans) iz v) (fun w' => Below wr.heap.size wr w') (Below.drew (Below.refl _ wr)) ?_ ?_
    · intro i o' d hi ho hd
      have : i = 0 ∨ i = 1 ∨ i = 2 ∨ i = 3 ∨ i = 4 ∨ i = 5 ∨ i = 6 ∨ i = 7 ∨ i = 8 ∨ i = 9 ∨ i = 10 ∨ i = 11 ∨ i = 12 ∨ i = 13 ∨ i = 14 ∨ i = 15 ∨ i = 16 ∨ i = 17 ∨ i = 18 ∨ i = 19 ∨ i = 20 ∨ i = 21 ∨ i = 22 := by omega
      rcases this with rfl | rfl | rfl | rfl | rfl | rfl | rfl | rfl | rfl | rfl | rfl | rfl | rfl | rfl | rfl | rfl | rfl | rfl | rfl | rfl | rfl | rfl | rfl <;> (simp at ho; subst ho; simp at hd; subst hd; simp)
    · intro i o' hi ho
      have : i = 0 ∨ i = 1 ∨ i = 2 ∨ i = 3 ∨ i = 4 ∨ i = 5 ∨ i = 6 ∨ i = 7 ∨ i = 8 ∨ i = 9 ∨ i = 10 ∨ i = 11 ∨ i = 12 ∨ i = 13 ∨ i = 14 ∨ i = 15 ∨ i = 16 ∨ i = 17 ∨ i = 18 ∨ i = 19 ∨ i = 20 ∨ i = 21 ∨ i = 22 := by omega
      rcases this with rfl | rfl | rfl | rfl | rfl | rfl | rfl | rfl | rfl | rfl | rfl | rfl | rfl | rfl | rfl | rfl | rfl | rfl | rfl | rfl | rfl | rfl | rfl <;> (simp at ho; subst ho; intro a w' hC hd hr)
      · rw [if_pos (by rfl)]; have e4 : a.tmps[4]?.getD undef = .pointer (some ⟨tb, 0, none⟩) := gd (hr 4 (free_of (by rfl))); exact flow_val (by go_simp; try rfl) ⟨rfl, hC, fun _ _ _ h => h⟩
      · rw [if_pos (by rfl)]; have e29 : a.tmps[29]?.getD undef = .pointer (some ⟨tb, 1, none⟩) := gd (hd ⟨0, .data⟩ (by simp) rfl _ _ rfl rfl); have g0 := bget hC t1 htl; exact flow_val (by go_simp; try rfl) ⟨rfl, hC, fun _ _ _ h => h⟩
      · rw [if_pos (by rfl)]; have e7 : a.tmps[7]?.getD undef = .int .i64 i := gd (hr 7 (free_of (by rfl))); exact flow_val (by go_simp; try rfl) ⟨rfl, hC, fun _ _ _ h => h⟩
      · rw [if_pos (by rfl)]; have e30 : a.tmps[30]?.getD undef = .slice (some ad) rows.length c4 := gd (hd ⟨1, .data⟩ (by simp) rfl _ _ rfl rfl); have e31 : a.tmps[31]?.getD undef = .int .i64 i := gd (hd ⟨2, .data⟩ (by simp) rfl _ _ rfl rfl); have hx := hadd; exact flow_val (by go_simp; try rfl) ⟨rfl, hC, fun _ _ _ h => h⟩
      · rw [if_pos (by rfl)]; have e32 : a.tmps[32]?.getD undef = .pointer (some ⟨bb, oo, none⟩) := gd (hd ⟨3, .data⟩ (by simp) rfl _ _ rfl rfl); exact flow_val (by go_simp; try rfl) ⟨rfl, hC, fun _ _ _ h => h⟩
      · rw [if_pos (by rfl)]; have e33 : a.tmps[33]?.getD undef = .pointer (some ⟨bb, oo, none⟩) := gd (hd ⟨4, .data⟩ (by simp) rfl _ _ rfl rfl); have g0 := bget hC q0 hbr; exact flow_val (by go_simp; try rfl) ⟨rfl, hC, fun _ _ _ h => h⟩
      · rw [if_pos (by rfl)]; have e34 : a.tmps[34]?.getD undef = .slice A5 la.length c5 := gd (hd ⟨5, .data⟩ (by simp) rfl _ _ rfl rfl); exact flow_val (by go_simp; try rfl) ⟨rfl, hC, fun _ _ _ h => h⟩
      · rw [if_pos (by rfl)]; have e5 : a.tmps[5]?.getD undef = .pointer (some ⟨fb, 0, none⟩) := gd (hr 5 (free_of (by rfl))); exact flow_val (by go_simp; try rfl) ⟨rfl, hC, fun _ _ _ h => h⟩
      · rw [if_pos (by rfl)]; have e36 : a.tmps[36]?.getD undef = .pointer (some ⟨fb, 1, none⟩) := gd (hd ⟨7, .data⟩ (by simp) rfl _ _ rfl rfl); have g0 := bget hC f1 hfl; exact flow_val (by go_simp; try rfl) ⟨rfl, hC, fun _ _ _ h => h⟩
      · rw [if_pos (by rfl)]; have e37 : a.tmps[37]?.getD undef = .slice za ss.length zc := gd (hd ⟨8, .data⟩ (by simp) rfl _ _ rfl rfl); exact flow_val (by go_simp; try rfl) ⟨rfl, hC, fun _ _ _ h => h⟩
      · rw [if_pos (by rfl)]; have e35 : a.tmps[35]?.getD undef = .int .i64 (la.length : Int) := gd (hd ⟨6, .data⟩ (by simp) rfl _ _ rfl rfl); have e38 : a.tmps[38]?.getD undef = .int .i64 (ss.length : Int) := gd (hd ⟨9, .data⟩ (by simp) rfl _ _ rfl rfl); exact flow_val (by first | (go_simp; done) | (go_simp; rfl) | (go_simp; simp [*]; done)) ⟨rfl, hC, fun _ _ _ h => h⟩
      · rw [if_pos (by rfl)]; have e39 : a.tmps[39]?.getD undef = .bool true := gd (hd ⟨10, .data⟩ (by simp) rfl _ _ rfl rfl); exact flow_val (by go_simp; try rfl) ⟨rfl, hC, fun _ _ _ h => h⟩
      · have eg := tmp_bool (hd ⟨11, .guard⟩ (by simp) rfl _ _ rfl rfl : a.tmps.getD 40 undef = .bool true); rw [if_neg (by simp [Region.wanted, yielded, eg])]; exact rfl
      · have eg := tmp_bool (hd ⟨11, .guard⟩ (by simp) rfl _ _ rfl rfl : a.tmps.getD 40 undef = .bool true); rw [if_neg (by simp [Region.wanted, yielded, eg])]; exact rfl
      · have eg := tmp_bool (hd ⟨11, .guard⟩ (by simp) rfl _ _ rfl rfl : a.tmps.getD 40 undef = .bool true); rw [if_neg (by simp [Region.wanted, yielded, eg])]; exact rfl
      · have eg := tmp_bool (hd ⟨11, .guard⟩ (by simp) rfl _ _ rfl rfl : a.tmps.getD 40 undef = .bool true); rw [if_neg (by simp [Region.wanted, yielded, eg])]; exact rfl
      · have eg := tmp_bool (hd ⟨11, .guard⟩ (by simp) rfl _ _ rfl rfl : a.tmps.getD 40 undef = .bool true); rw [if_neg (by simp [Region.wanted, yielded, eg])]; exact rfl
      · have eg := tmp_bool (hd ⟨11, .guard⟩ (by simp) rfl _ _ rfl rfl : a.tmps.getD 40 undef = .bool true); rw [if_neg (by simp [Region.wanted, yielded, eg])]; exact rfl
      · have eg := tmp_bool (hd ⟨11, .guard⟩ (by simp) rfl _ _ rfl rfl : a.tmps.getD 40 undef = .bool true); rw [if_neg (by simp [Region.wanted, yielded, eg])]; exact rfl
      · have eg := tmp_bool (hd ⟨11, .guard⟩ (by simp) rfl _ _ rfl rfl : a.tmps.getD 40 undef = .bool true); rw [if_neg (by simp [Region.wanted, yielded, eg])]; exact rfl
      · have eg := tmp_bool (hd ⟨11, .guard⟩ (by simp) rfl _ _ rfl rfl : a.tmps.getD 40 undef = .bool true); rw [if_neg (by simp [Region.wanted, yielded, eg])]; exact rfl
      · have eg := tmp_bool (hd ⟨11, .guard⟩ (by simp) rfl _ _ rfl rfl : a.tmps.getD 40 undef = .bool true); rw [if_neg (by simp [Region.wanted, yielded, eg])]; exact rfl
      · have eg := tmp_bool (hd ⟨11, .guard⟩ (by simp) rfl _ _ rfl rfl : a.tmps.getD 40 undef = .bool true); rw [if_neg (by simp [Region.wanted, yielded, eg])]; exact rfl
    intro vs' w4 hb4 hZ
    have v11 : vs' 11 = .bool true := hZ 11 _ _ (by omega) rfl rfl
    have v22 : vs' 22 = undef := hZ 22 _ _ (by omega) rfl rfl
    clear hZ w0 w1 t1 f1 f2 q0 q1 q2 q3 q4 q5
    simp only [List.drop_succ_cons, List.drop_zero, List.take_succ_cons, List.take_zero, putAll, v11, v22]
    have HB5 := Lib.hid (HBW.out.trans (hb4.mono HBW.out.size))
    clear hb4
    go_wp2_with fail
    go_ret
    exact ⟨by rw [HXX.out]; rfl, HB5.out⟩
   case pos =>
    have hq2 : ((la.length : Int) != (ss.length : Int)) = false := by simp; omega
    have HIS := Lib.hid (show ∀ W, Below wr.heap.size wr W → Calls Tryz.prog 103 #[.agg #[.slice A1 z.length c1, .slice A2 f.length c2], .agg #[.int .i64 r0, .bool r1, .int .i64 r2, .int .i64 r3, .int .i64 r4], .int .i64 res] W fun e w' => e = .returned (.bool (isR z ⟨r0, r1, ⟨r2, r3⟩, r4⟩ res)) ∧ Below W.heap.size W w' from
     fun W hb => HIS.out W (HBW.out.trans (hb.mono HBW.out.size)) r0 r1 r2 r3 r4 res)
    have HRR := Lib.hid (show rowR z res ss ⟨la, ⟨r0, r1, ⟨r2, r3⟩, r4⟩⟩ = (isR z ⟨r0, r1, ⟨r2, r3⟩, r4⟩ res && listB (isR z) la ss) by unfold rowR; simp only [decide_eq_true hll, Bool.true_and])
    generalize hans : isR z ⟨r0, r1, ⟨r2, r3⟩, r4⟩ res = ans at *
    go_wp2_with fail
    refine wp_region_flow3 23 (by kernel_rfl) (by kernel_rfl) ?_ (fun iz _ v => (ZT6B tb fb i bb oo res (.slice (some ad) rows.length c4) (.slice A5 la.length c5) la.length (.slice za ss.length zc) ss.length (.agg #[.slice A1 z.length c1, .slice A2 f.length c2]) (.agg #[.int .i64 r0, .bool r1, .int .i64 r2, .int .i64 r3, .int .i64 r4]) ans) iz v) (fun w' => Below wr.heap.size wr w') (Below.drew (Below.refl _ wr)) ?_ ?_
    · intro i o' d hi ho hd
      have : i = 0 ∨ i = 1 ∨ i = 2 ∨ i = 3 ∨ i = 4 ∨ i = 5 ∨ i = 6 ∨ i = 7 ∨ i = 8 ∨ i = 9 ∨ i = 10 ∨ i = 11 ∨ i = 12 ∨ i = 13 ∨ i = 14 ∨ i = 15 ∨ i = 16 ∨ i = 17 ∨ i = 18 ∨ i = 19 ∨ i = 20 ∨ i = 21 ∨ i = 22 := by omega
      rcases this with rfl | rfl | rfl | rfl | rfl | rfl | rfl | rfl | rfl | rfl | rfl | rfl | rfl | rfl | rfl | rfl | rfl | rfl | rfl | rfl | rfl | rfl | rfl <;> (simp at ho; subst ho; simp at hd; subst hd; simp)
    · intro i o' hi ho
      have : i = 0 ∨ i = 1 ∨ i = 2 ∨ i = 3 ∨ i = 4 ∨ i = 5 ∨ i = 6 ∨ i = 7 ∨ i = 8 ∨ i = 9 ∨ i = 10 ∨ i = 11 ∨ i = 12 ∨ i = 13 ∨ i = 14 ∨ i = 15 ∨ i = 16 ∨ i = 17 ∨ i = 18 ∨ i = 19 ∨ i = 20 ∨ i = 21 ∨ i = 22 := by omega
      rcases this with rfl | rfl | rfl | rfl | rfl | rfl | rfl | rfl | rfl | rfl | rfl | rfl | rfl | rfl | rfl | rfl | rfl | rfl | rfl | rfl | rfl | rfl | rfl <;> (simp at ho; subst ho; intro a w' hC hd hr)
      · rw [if_pos (by rfl)]; have e4 : a.tmps[4]?.getD undef = .pointer (some ⟨tb, 0, none⟩) := gd (hr 4 (free_of (by rfl))); exact flow_val (by go_simp; try rfl) ⟨rfl, hC, fun _ _ _ h => h⟩
      · rw [if_pos (by rfl)]; have e29 : a.tmps[29]?.getD undef = .pointer (some ⟨tb, 1, none⟩) := gd (hd ⟨0, .data⟩ (by simp) rfl _ _ rfl rfl); have g0 := bget hC t1 htl; exact flow_val (by go_simp; try rfl) ⟨rfl, hC, fun _ _ _ h => h⟩
      · rw [if_pos (by rfl)]; have e7 : a.tmps[7]?.getD undef = .int .i64 i := gd (hr 7 (free_of (by rfl))); exact flow_val (by go_simp; try rfl) ⟨rfl, hC, fun _ _ _ h => h⟩
      · rw [if_pos (by rfl)]; have e30 : a.tmps[30]?.getD undef = .slice (some ad) rows.length c4 := gd (hd ⟨1, .data⟩ (by simp) rfl _ _ rfl rfl); have e31 : a.tmps[31]?.getD undef = .int .i64 i := gd (hd ⟨2, .data⟩ (by simp) rfl _ _ rfl rfl); have hx := hadd; exact flow_val (by go_simp; try rfl) ⟨rfl, hC, fun _ _ _ h => h⟩
      · rw [if_pos (by rfl)]; have e32 : a.tmps[32]?.getD undef = .pointer (some ⟨bb, oo, none⟩) := gd (hd ⟨3, .data⟩ (by simp) rfl _ _ rfl rfl); exact flow_val (by go_simp; try rfl) ⟨rfl, hC, fun _ _ _ h => h⟩
      · rw [if_pos (by rfl)]; have e33 : a.tmps[33]?.getD undef = .pointer (some ⟨bb, oo, none⟩) := gd (hd ⟨4, .data⟩ (by simp) rfl _ _ rfl rfl); have g0 := bget hC q0 hbr; exact flow_val (by go_simp; try rfl) ⟨rfl, hC, fun _ _ _ h => h⟩
      · rw [if_pos (by rfl)]; have e34 : a.tmps[34]?.getD undef = .slice A5 la.length c5 := gd (hd ⟨5, .data⟩ (by simp) rfl _ _ rfl rfl); exact flow_val (by go_simp; try rfl) ⟨rfl, hC, fun _ _ _ h => h⟩
      · rw [if_pos (by rfl)]; have e5 : a.tmps[5]?.getD undef = .pointer (some ⟨fb, 0, none⟩) := gd (hr 5 (free_of (by rfl))); exact flow_val (by go_simp; try rfl) ⟨rfl, hC, fun _ _ _ h => h⟩
      · rw [if_pos (by rfl)]; have e36 : a.tmps[36]?.getD undef = .pointer (some ⟨fb, 1, none⟩) := gd (hd ⟨7, .data⟩ (by simp) rfl _ _ rfl rfl); have g0 := bget hC f1 hfl; exact flow_val (by go_simp; try rfl) ⟨rfl, hC, fun _ _ _ h => h⟩
      · rw [if_pos (by rfl)]; have e37 : a.tmps[37]?.getD undef = .slice za ss.length zc := gd (hd ⟨8, .data⟩ (by simp) rfl _ _ rfl rfl); exact flow_val (by go_simp; try rfl) ⟨rfl, hC, fun _ _ _ h => h⟩
      · rw [if_pos (by rfl)]; have e35 : a.tmps[35]?.getD undef = .int .i64 (la.length : Int) := gd (hd ⟨6, .data⟩ (by simp) rfl _ _ rfl rfl); have e38 : a.tmps[38]?.getD undef = .int .i64 (ss.length : Int) := gd (hd ⟨9, .data⟩ (by simp) rfl _ _ rfl rfl); exact flow_val (by first | (go_simp; done) | (go_simp; rfl) | (go_simp; simp [*]; done)) ⟨rfl, hC, fun _ _ _ h => h⟩
      · rw [if_pos (by rfl)]; have e39 : a.tmps[39]?.getD undef = .bool false := gd (hd ⟨10, .data⟩ (by simp) rfl _ _ rfl rfl); exact flow_val (by go_simp; try rfl) ⟨rfl, hC, fun _ _ _ h => h⟩
      · have eg := tmp_bool (hd ⟨11, .guard⟩ (by simp) rfl _ _ rfl rfl : a.tmps.getD 40 undef = .bool false); rw [if_pos (by simp [Region.wanted, yielded, eg])]; clear eg; have e3 : a.tmps[3]?.getD undef = .pointer (some ⟨wb, 0, none⟩) := gd (hr 3 (free_of (by rfl))); have g0 := bget hC w0 hwl; have g1 := bget hC w1 hwl; exact flow_val (by go_simp; try rfl) ⟨rfl, hC, fun _ _ _ h => h⟩
      · have eg := tmp_bool (hd ⟨11, .guard⟩ (by simp) rfl _ _ rfl rfl : a.tmps.getD 40 undef = .bool false); rw [if_pos (by simp [Region.wanted, yielded, eg])]; clear eg; have e4 : a.tmps[4]?.getD undef = .pointer (some ⟨tb, 0, none⟩) := gd (hr 4 (free_of (by rfl))); exact flow_val (by go_simp; try rfl) ⟨rfl, hC, fun _ _ _ h => h⟩
      · have eg := tmp_bool (hd ⟨11, .guard⟩ (by simp) rfl _ _ rfl rfl : a.tmps.getD 40 undef = .bool false); rw [if_pos (by simp [Region.wanted, yielded, eg])]; clear eg; have e42 : a.tmps[42]?.getD undef = .pointer (some ⟨tb, 1, none⟩) := gd (hd ⟨13, .data⟩ (by simp) rfl _ _ rfl rfl); have g0 := bget hC t1 htl; exact flow_val (by go_simp; try rfl) ⟨rfl, hC, fun _ _ _ h => h⟩
      · have eg := tmp_bool (hd ⟨11, .guard⟩ (by simp) rfl _ _ rfl rfl : a.tmps.getD 40 undef = .bool false); rw [if_pos (by simp [Region.wanted, yielded, eg])]; clear eg; have e7 : a.tmps[7]?.getD undef = .int .i64 i := gd (hr 7 (free_of (by rfl))); exact flow_val (by go_simp; try rfl) ⟨rfl, hC, fun _ _ _ h => h⟩
      · have eg := tmp_bool (hd ⟨11, .guard⟩ (by simp) rfl _ _ rfl rfl : a.tmps.getD 40 undef = .bool false); rw [if_pos (by simp [Region.wanted, yielded, eg])]; clear eg; have e43 : a.tmps[43]?.getD undef = .slice (some ad) rows.length c4 := gd (hd ⟨14, .data⟩ (by simp) rfl _ _ rfl rfl); have e44 : a.tmps[44]?.getD undef = .int .i64 i := gd (hd ⟨15, .data⟩ (by simp) rfl _ _ rfl rfl); have hx := hadd; exact flow_val (by go_simp; try rfl) ⟨rfl, hC, fun _ _ _ h => h⟩
      · have eg := tmp_bool (hd ⟨11, .guard⟩ (by simp) rfl _ _ rfl rfl : a.tmps.getD 40 undef = .bool false); rw [if_pos (by simp [Region.wanted, yielded, eg])]; clear eg; have e45 : a.tmps[45]?.getD undef = .pointer (some ⟨bb, oo, none⟩) := gd (hd ⟨16, .data⟩ (by simp) rfl _ _ rfl rfl); exact flow_val (by go_simp; try rfl) ⟨rfl, hC, fun _ _ _ h => h⟩
      · have eg := tmp_bool (hd ⟨11, .guard⟩ (by simp) rfl _ _ rfl rfl : a.tmps.getD 40 undef = .bool false); rw [if_pos (by simp [Region.wanted, yielded, eg])]; clear eg; have e46 : a.tmps[46]?.getD undef = .pointer (some ⟨bb, oo + 1, none⟩) := gd (hd ⟨17, .data⟩ (by simp) rfl _ _ rfl rfl); have g1 := bget hC q1 hbr; have g2 := bget hC q2 hbr; have g3 := bget hC q3 hbr; have g4 := bget hC q4 hbr; have g5 := bget hC q5 hbr; exact flow_val (by go_simp; try rfl) ⟨rfl, hC, fun _ _ _ h => h⟩
      · have eg := tmp_bool (hd ⟨11, .guard⟩ (by simp) rfl _ _ rfl rfl : a.tmps.getD 40 undef = .bool false); rw [if_pos (by simp [Region.wanted, yielded, eg])]; clear eg; have e5 : a.tmps[5]?.getD undef = .pointer (some ⟨fb, 0, none⟩) := gd (hr 5 (free_of (by rfl))); exact flow_val (by go_simp; try rfl) ⟨rfl, hC, fun _ _ _ h => h⟩
      · have eg := tmp_bool (hd ⟨11, .guard⟩ (by simp) rfl _ _ rfl rfl : a.tmps.getD 40 undef = .bool false); rw [if_pos (by simp [Region.wanted, yielded, eg])]; clear eg; have e48 : a.tmps[48]?.getD undef = .pointer (some ⟨fb, 2, none⟩) := gd (hd ⟨19, .data⟩ (by simp) rfl _ _ rfl rfl); have g0 := bget hC f2 hfl; exact flow_val (by go_simp; try rfl) ⟨rfl, hC, fun _ _ _ h => h⟩
      · have eg := tmp_bool (hd ⟨11, .guard⟩ (by simp) rfl _ _ rfl rfl : a.tmps.getD 40 undef = .bool false); rw [if_pos (by simp [Region.wanted, yielded, eg])]; clear eg; have e41 : a.tmps[41]?.getD undef = .agg #[.slice A1 z.length c1, .slice A2 f.length c2] := gd (hd ⟨12, .data⟩ (by simp) rfl _ _ rfl rfl); have e47 : a.tmps[47]?.getD undef = .agg #[.int .i64 r0, .bool r1, .int .i64 r2, .int .i64 r3, .int .i64 r4] := gd (hd ⟨18, .data⟩ (by simp) rfl _ _ rfl rfl); have e49 : a.tmps[49]?.getD undef = .int .i64 res := gd (hd ⟨20, .data⟩ (by simp) rfl _ _ rfl rfl); exact flow_call (by go_simp) ((HIS.out w' hC).mono fun e w'' ⟨he, hb⟩ => ⟨_, he, rfl, hC.trans (hb.mono hC.size), fun _ _ _ h => h⟩)
      · have eg := tmp_bool (hd ⟨11, .guard⟩ (by simp) rfl _ _ rfl rfl : a.tmps.getD 40 undef = .bool false); rw [if_pos (by simp [Region.wanted, yielded, eg])]; clear eg; have e50 : a.tmps[50]?.getD undef = .bool ans := gd (hd ⟨21, .data⟩ (by simp) rfl _ _ rfl rfl); exact flow_val (by go_simp; try rfl) ⟨rfl, hC, fun _ _ _ h => h⟩
    intro vs' w4 hb4 hZ
    have v11 : vs' 11 = .bool false := hZ 11 _ _ (by omega) rfl rfl
    have v22 : vs' 22 = .bool (!ans) := hZ 22 _ _ (by omega) rfl rfl
    clear hZ w0 w1 t1 f1 f2 q0 q1 q2 q3 q4 q5
    simp only [List.drop_succ_cons, List.drop_zero, List.take_succ_cons, List.take_zero, putAll, v11, v22]
    have HB5 := Lib.hid (HB9.out.trans (hb4.mono HB9.out.size))
    have HBW5 := Lib.hid (HBW.out.trans (hb4.mono HBW.out.size))
    clear hb4 hans hwl htl hfl hbr HB9 HBW
    cases ans
    case false =>
     have HXX := Lib.hid (show tabR z ⟨fn, rows, ⟨e0, e1, ⟨e2, e3⟩, e4⟩⟩ res ss = false by rw [HX.out, HE.out, HRR.out]; rfl)
     go_wp2_with fail
     go_ret
     exact ⟨by rw [HXX.out]; rfl, HBW5.out⟩
    case true =>
    have HE2 := Lib.hid (show rows.all (rowR z res ss) = (listB (isR z) la ss && (rows.drop (i + 1)).all (rowR z res ss)) by rw [HE.out, HRR.out]; rfl)
    clear HE HRR HIS
    go_wp2_with fail
    go_loopw [8] (fun vj wr => ∃ j : Nat, vj = .int .i64 j ∧ j ≤ ss.length ∧ Hid (Below w9.heap.size w9 wr ∧ Below w.heap.size w wr ∧ listB (isR z) la ss = listB (isR z) (la.drop j) (ss.drop j))) (fun vj _ => ss.length - (intOf vj).toNat)
    case atStart => exact ⟨0, rfl, by omega, Lib.hid ⟨HB5.out, HBW5.out, rfl⟩⟩
    case round =>
     obtain ⟨j, rfl, hj, hh⟩ := hrel
     have HB9 := Lib.hid hh.out.1
     have HBW := Lib.hid hh.out.2.1
     have HQ2 := Lib.hid hh.out.2.2
     have hr1 := HR1.out.kept (S := fun _ => False) (Ch.ofBelow hh.out.1) (fun e => e)
     have hr2 := HR2.out.kept (S := fun _ => False) (Ch.ofBelow hh.out.1) (fun e => e)
     have hr3 := HR3.out.kept (S := fun _ => False) (Ch.ofBelow hh.out.1) (fun e => e)
     have w0 : wr.cell? ⟨wb, 0, none⟩ = some (.slice A1 z.length c1) := hr1.cell 0
     have w1 : wr.cell? ⟨wb, 1, none⟩ = some (.slice A2 f.length c2) := hr1.cell 1
     have hwl : wb < wr.heap.size := hr1.lt
     have t1 : wr.cell? ⟨tb, 1, none⟩ = some (.slice (some ad) rows.length c4) := hr2.cell 1
     have htl : tb < wr.heap.size := hr2.lt
     have f1 : wr.cell? ⟨fb, 1, none⟩ = some (.slice za ss.length zc) := hr3.cell 1
     have hfl : fb < wr.heap.size := hr3.lt
     obtain ⟨q0, hbr⟩ := HQQ.out wr hh.out.2.1
     clear hh hr1 hr2 hr3
     by_cases hjl : j < ss.length
     case neg =>
      have hjl' : ¬ (j : Int) < ss.length := by omega
      have HXX := Lib.hid (show rows.all (rowR z res ss) = (rows.drop (i + 1)).all (rowR z res ss) by rw [HE2.out, HQ2.out, List.drop_of_length_le (by omega), List.drop_of_length_le (by omega)]; rfl)
      go_wp2_with fail
      go_roundw
      case rel => exact ⟨i + 1, by go_num, by omega, Lib.hid ⟨HB9.out, HXX.out⟩⟩
      case measure => simp [intOf]; omega
     case pos =>
     have hjl' : (j : Int) < ss.length := by omega
     have hja : j < la.length := by omega
     have hjl2 : (j : Int) < la.length := by omega
     obtain ⟨ad5, b5, o5, cs5, hA5, hadd5, hK5, hc5, hbl5⟩ := cells_at z47 HA5.out j hja (by decide)
     subst hA5
     obtain rfl := k47_open hK5
     replace hadd5 : ad5.add (j * 5) = ⟨b5, o5, none⟩ := hadd5
     obtain ⟨ad6, b6, o6, cs6, hA6, hadd6, hK6, hc6, hbl6⟩ := cells_at (0 : Int) HSS.out j hjl (by decide)
     subst hA6
     obtain rfl : cs6 = [.int .i64 (ss.getD j 0)] := hK6
     replace hadd6 : ad6.add j = ⟨b6, o6, none⟩ := by have : ad6.add (j * 1) = ⟨b6, o6, none⟩ := hadd6; rwa [Nat.mul_one] at this
     have HL := Lib.hid (show listB (isR z) la ss = (isR z (la.getD j z47) (ss.getD j 0) && listB (isR z) (la.drop (j + 1)) (ss.drop (j + 1))) by rw [HQ2.out]; exact listB_step (isR z) la ss z47 0 j hja hjl)
     generalize la.getD j z47 = rv at *
     obtain ⟨r0, r1, ⟨r2, r3⟩, r4⟩ := rv
     generalize ss.getD j 0 = s at *
     simp only at hc5
     have p0 : wr.cell? ⟨b5, o5, none⟩ = some (.int .i64 r0) := ((bcell HBW.out).1 b5 _ hbl5).trans (by have := hc5 0 _ rfl; simpa using this)
     have p1 : wr.cell? ⟨b5, o5 + 1, none⟩ = some (.bool r1) := ((bcell HBW.out).1 b5 _ hbl5).trans (hc5 1 _ rfl)
     have p2 : wr.cell? ⟨b5, o5 + 2, none⟩ = some (.int .i64 r2) := ((bcell HBW.out).1 b5 _ hbl5).trans (hc5 2 _ rfl)
     have p3 : wr.cell? ⟨b5, o5 + 3, none⟩ = some (.int .i64 r3) := ((bcell HBW.out).1 b5 _ hbl5).trans (hc5 3 _ rfl)
     have p4 : wr.cell? ⟨b5, o5 + 4, none⟩ = some (.int .i64 r4) := ((bcell HBW.out).1 b5 _ hbl5).trans (hc5 4 _ rfl)
     have s0 : wr.cell? ⟨b6, o6, none⟩ = some (.int .i64 s) := ((bcell HBW.out).1 b6 _ hbl6).trans (by have := hc6 0 _ rfl; simpa using this)
     have hbr5 : b5 < wr.heap.size := Nat.lt_of_lt_of_le hbl5 HBW.out.size
     have hbr6 : b6 < wr.heap.size := Nat.lt_of_lt_of_le hbl6 HBW.out.size
     have HIS := Lib.hid (show ∀ W, Below wr.heap.size wr W → Calls Tryz.prog 103 #[.agg #[.slice A1 z.length c1, .slice A2 f.length c2], .agg #[.int .i64 r0, .bool r1, .int .i64 r2, .int .i64 r3, .int .i64 r4], .int .i64 s] W fun e w' => e = .returned (.bool (isR z ⟨r0, r1, ⟨r2, r3⟩, r4⟩ s)) ∧ Below W.heap.size W w' from
      fun W hb => HIS2.out W (HBW.out.trans (hb.mono HBW.out.size)) r0 r1 r2 r3 r4 s)
     clear hK5 hc5 hc6 hbl5 hbl6
     generalize hans : isR z ⟨r0, r1, ⟨r2, r3⟩, r4⟩ s = ans at *
     go_wp2_with fail
     refine wp_region_flow3 16 (by kernel_rfl) (by kernel_rfl) ?_ (fun iz _ v => (ZT11 tb fb i bb oo j b5 o5 b6 o6 s (.slice (some ad) rows.length c4) (.slice (some ad5) la.length c5) (.slice (some ad6) ss.length zc) (.agg #[.slice A1 z.length c1, .slice A2 f.length c2]) (.agg #[.int .i64 r0, .bool r1, .int .i64 r2, .int .i64 r3, .int .i64 r4]) ans) iz v) (fun w' => Below wr.heap.size wr w') (Below.drew (Below.refl _ wr)) ?_ ?_
     · intro i o' d hi ho hd
       have : i = 0 ∨ i = 1 ∨ i = 2 ∨ i = 3 ∨ i = 4 ∨ i = 5 ∨ i = 6 ∨ i = 7 ∨ i = 8 ∨ i = 9 ∨ i = 10 ∨ i = 11 ∨ i = 12 ∨ i = 13 ∨ i = 14 ∨ i = 15 := by omega
       rcases this with rfl | rfl | rfl | rfl | rfl | rfl | rfl | rfl | rfl | rfl | rfl | rfl | rfl | rfl | rfl | rfl <;> (simp at ho; subst ho; simp at hd; subst hd; simp)
     · intro i o' hi ho
       have : i = 0 ∨ i = 1 ∨ i = 2 ∨ i = 3 ∨ i = 4 ∨ i = 5 ∨ i = 6 ∨ i = 7 ∨ i = 8 ∨ i = 9 ∨ i = 10 ∨ i = 11 ∨ i = 12 ∨ i = 13 ∨ i = 14 ∨ i = 15 := by omega
       rcases this with rfl | rfl | rfl | rfl | rfl | rfl | rfl | rfl | rfl | rfl | rfl | rfl | rfl | rfl | rfl | rfl <;> (simp at ho; subst ho; intro a w' hC hd hr)
       · rw [if_pos (by rfl)]; have e3 : a.tmps[3]?.getD undef = .pointer (some ⟨wb, 0, none⟩) := gd (hr 3 (free_of (by rfl))); have g0 := bget hC w0 hwl; have g1 := bget hC w1 hwl; exact flow_val (by go_simp; try rfl) ⟨rfl, hC, fun _ _ _ h => h⟩
       · rw [if_pos (by rfl)]; have e4 : a.tmps[4]?.getD undef = .pointer (some ⟨tb, 0, none⟩) := gd (hr 4 (free_of (by rfl))); exact flow_val (by go_simp; try rfl) ⟨rfl, hC, fun _ _ _ h => h⟩
       · rw [if_pos (by rfl)]; have e61 : a.tmps[61]?.getD undef = .pointer (some ⟨tb, 1, none⟩) := gd (hd ⟨1, .data⟩ (by simp) rfl _ _ rfl rfl); have g0 := bget hC t1 htl; exact flow_val (by go_simp; try rfl) ⟨rfl, hC, fun _ _ _ h => h⟩
       · rw [if_pos (by rfl)]; have e7 : a.tmps[7]?.getD undef = .int .i64 i := gd (hr 7 (free_of (by rfl))); exact flow_val (by go_simp; try rfl) ⟨rfl, hC, fun _ _ _ h => h⟩
       · rw [if_pos (by rfl)]; have e62 : a.tmps[62]?.getD undef = .slice (some ad) rows.length c4 := gd (hd ⟨2, .data⟩ (by simp) rfl _ _ rfl rfl); have e63 : a.tmps[63]?.getD undef = .int .i64 i := gd (hd ⟨3, .data⟩ (by simp) rfl _ _ rfl rfl); have hx := hadd; exact flow_val (by go_simp; try rfl) ⟨rfl, hC, fun _ _ _ h => h⟩
       · rw [if_pos (by rfl)]; have e64 : a.tmps[64]?.getD undef = .pointer (some ⟨bb, oo, none⟩) := gd (hd ⟨4, .data⟩ (by simp) rfl _ _ rfl rfl); exact flow_val (by go_simp; try rfl) ⟨rfl, hC, fun _ _ _ h => h⟩
       · rw [if_pos (by rfl)]; have e65 : a.tmps[65]?.getD undef = .pointer (some ⟨bb, oo, none⟩) := gd (hd ⟨5, .data⟩ (by simp) rfl _ _ rfl rfl); have g0 := bget hC q0 hbr; exact flow_val (by go_simp; try rfl) ⟨rfl, hC, fun _ _ _ h => h⟩
       · rw [if_pos (by rfl)]; have e8 : a.tmps[8]?.getD undef = .int .i64 j := gd (hr 8 (free_of (by rfl))); exact flow_val (by go_simp; try rfl) ⟨rfl, hC, fun _ _ _ h => h⟩
       · rw [if_pos (by rfl)]; have e66 : a.tmps[66]?.getD undef = .slice (some ad5) la.length c5 := gd (hd ⟨6, .data⟩ (by simp) rfl _ _ rfl rfl); have e67 : a.tmps[67]?.getD undef = .int .i64 j := gd (hd ⟨7, .data⟩ (by simp) rfl _ _ rfl rfl); have hx := hadd5; exact flow_val (by go_simp; try rfl) ⟨rfl, hC, fun _ _ _ h => h⟩
       · rw [if_pos (by rfl)]; have e68 : a.tmps[68]?.getD undef = .pointer (some ⟨b5, o5, none⟩) := gd (hd ⟨8, .data⟩ (by simp) rfl _ _ rfl rfl); have g0 := bget hC p0 hbr5; have g1 := bget hC p1 hbr5; have g2 := bget hC p2 hbr5; have g3 := bget hC p3 hbr5; have g4 := bget hC p4 hbr5; exact flow_val (by go_simp; try rfl) ⟨rfl, hC, fun _ _ _ h => h⟩
       · rw [if_pos (by rfl)]; have e5 : a.tmps[5]?.getD undef = .pointer (some ⟨fb, 0, none⟩) := gd (hr 5 (free_of (by rfl))); exact flow_val (by go_simp; try rfl) ⟨rfl, hC, fun _ _ _ h => h⟩
       · rw [if_pos (by rfl)]; have e70 : a.tmps[70]?.getD undef = .pointer (some ⟨fb, 1, none⟩) := gd (hd ⟨10, .data⟩ (by simp) rfl _ _ rfl rfl); have g0 := bget hC f1 hfl; exact flow_val (by go_simp; try rfl) ⟨rfl, hC, fun _ _ _ h => h⟩
       · rw [if_pos (by rfl)]; have e8 : a.tmps[8]?.getD undef = .int .i64 j := gd (hr 8 (free_of (by rfl))); exact flow_val (by go_simp; try rfl) ⟨rfl, hC, fun _ _ _ h => h⟩
       · rw [if_pos (by rfl)]; have e71 : a.tmps[71]?.getD undef = .slice (some ad6) ss.length zc := gd (hd ⟨11, .data⟩ (by simp) rfl _ _ rfl rfl); have e72 : a.tmps[72]?.getD undef = .int .i64 j := gd (hd ⟨12, .data⟩ (by simp) rfl _ _ rfl rfl); have hx := hadd6; exact flow_val (by go_simp; try rfl) ⟨rfl, hC, fun _ _ _ h => h⟩
       · rw [if_pos (by rfl)]; have e73 : a.tmps[73]?.getD undef = .pointer (some ⟨b6, o6, none⟩) := gd (hd ⟨13, .data⟩ (by simp) rfl _ _ rfl rfl); have g0 := bget hC s0 hbr6; exact flow_val (by go_simp; try rfl) ⟨rfl, hC, fun _ _ _ h => h⟩
       · rw [if_pos (by rfl)]; have e60 : a.tmps[60]?.getD undef = .agg #[.slice A1 z.length c1, .slice A2 f.length c2] := gd (hd ⟨0, .data⟩ (by simp) rfl _ _ rfl rfl); have e69 : a.tmps[69]?.getD undef = .agg #[.int .i64 r0, .bool r1, .int .i64 r2, .int .i64 r3, .int .i64 r4] := gd (hd ⟨9, .data⟩ (by simp) rfl _ _ rfl rfl); have e74 : a.tmps[74]?.getD undef = .int .i64 s := gd (hd ⟨14, .data⟩ (by simp) rfl _ _ rfl rfl); exact flow_call (by go_simp) ((HIS.out w' hC).mono fun e w'' ⟨he, hb⟩ => ⟨_, he, rfl, hC.trans (hb.mono hC.size), fun _ _ _ h => h⟩)
     intro vs' w4 hb4 hZ
     have v15 : vs' 15 = .bool ans := hZ 15 _ _ (by omega) rfl rfl
     clear hZ w0 w1 t1 f1 q0 p0 p1 p2 p3 p4 s0
     simp only [List.drop_succ_cons, List.drop_zero, List.take_succ_cons, List.take_zero, putAll, v15]
     have HB5 := Lib.hid (HB9.out.trans (hb4.mono HB9.out.size))
     have HBW5 := Lib.hid (HBW.out.trans (hb4.mono HBW.out.size))
     clear hb4 hans hwl htl hfl hbr hbr5 hbr6 HB9 HBW
     cases ans
     case false =>
      have HXX := Lib.hid (show tabR z ⟨fn, rows, ⟨e0, e1, ⟨e2, e3⟩, e4⟩⟩ res ss = false by rw [HX.out, HE2.out, HL.out]; rfl)
      go_wp2_with fail
      go_ret
      exact ⟨by rw [HXX.out]; rfl, HBW5.out⟩
     case true =>
      have HXX := Lib.hid (show listB (isR z) la ss = listB (isR z) (la.drop (j + 1)) (ss.drop (j + 1)) by rw [HL.out]; rfl)
      go_wp2_with fail
      go_roundw
      case rel => exact ⟨j + 1, by go_num, by omega, Lib.hid ⟨HB5.out, HBW5.out, HXX.out⟩⟩
      case measure => simp [intOf]; omega
end Go.Proofs.YtendekbckfpmgaaGreat
namespace Go.Proofs.YtendekbckfpmgaaGreat
open Go Go.ChangeShapes Go.RowKit Go.Proofs.YtendekbckfpmgaaGreatW.PrintWords
set_option linter.unusedVariables false
set_option linter.unusedSimpArgs false
theorem bulk_pos {H : Type} (d : DataW H) : 1 ≤ Rows.uptoBulk d := by
 cases d with
 | lit l => cases l <;> simp [Rows.uptoBulk]
 | _ => simp [Rows.uptoBulk]
theorem bulk_len {H : Type} : ∀ l : List (DataW H), l.length ≤ Rows.uptoBulkAll l
 | [] => by simp
 | d :: r => by
  have := bulk_len r
  have := bulk_pos d
  simp [Rows.uptoBulkAll]; omega
theorem bulk_mem {H : Type} : ∀ (l : List (DataW H)) (d : DataW H), d ∈ l → Rows.uptoBulk d ≤ Rows.uptoBulkAll l
 | x :: r, d, h => by
  rcases List.mem_cons.1 h with rfl | h
  · simp [Rows.uptoBulkAll]
  · have := bulk_mem r d h
    simp [Rows.uptoBulkAll]; omega
def OpensU (P : Program) (N : Nat) {α : Type} (d : Kd α) (Pr : α → Prop) (t : TypeId) : Prop :=
 ∀ (H : Type) (enc : TypeId × Value → H) (w : World) (base : Nat) (spare : Nat → Bool) (held : Bool) (fuel : Nat) (cs : List Value) (x : DataW H × List MemPlace),
  DataW.trod enc P w base spare held fuel t cs = some x → Rows.uptoBulk x.1 ≤ N → ∃ y, d.K w y cs ∧ Pr y
theorem Opens.u {P : Program} {N : Nat} {α : Type} {d : Kd α} {Pr : α → Prop} {t : TypeId} (h : Opens P d Pr t) : OpensU P N d Pr t :=
 fun _ _ _ _ _ _ _ _ _ hx _ => h _ _ _ _ _ _ _ _ _ hx
theorem opensU_string {P : Program} {N : Nat} {t : TypeId} (ht : P.underlying t = some .string) : OpensU P N Kd.string (fun s => s.size ≤ N) t := by
 intro H enc w base spare held fuel cs x h hN
 cases fuel with
 | zero => simp [DataW.trod] at h
 | succ m =>
  unfold DataW.trod at h
  rw [ht] at h
  split at h <;> simp_all
  obtain ⟨h1, rfl⟩ := h
  refine ⟨_, rfl, ?_⟩
  simp [Rows.uptoBulk] at hN
  omega
theorem opensU_slice {P : Program} {N : Nat} {t e : TypeId} {α : Type} {d : Kd α} {Pr : α → Prop} (q : Nat) (ht : P.underlying t = some (.slice e)) (hc : P.cellsOf e = d.sz) (hd : OpensU P N d Pr e) :
 OpensU P N (Kd.slice q d) (fun xs => xs.length ≤ N ∧ ∀ x ∈ xs, Pr x) t := by
 intro H enc w base spare held fuel cs x h hN
 rcases Deep.open_slice ht h with ⟨rfl, _⟩ | ⟨a, len, cap, m, n, D, Pl, rfl, hb, hl, hm, hmm, hxe, hx⟩
 · exact ⟨[], ⟨none, 0, rfl, Nat.le_refl _, rfl, Nat.zero_le _, fun h => by cases h⟩, Nat.zero_le _, fun _ h => by cases h⟩
 · have hlm : len ≤ m := by rw [hmm]; split <;> omega
   have hNN : Rows.uptoBulkAll ((List.range len).map D) ≤ N := by
    rw [hxe] at hN
    simp only [Rows.uptoBulk] at hN
    omega
   have hlen0 := bulk_len ((List.range len).map D)
   have hy : ∀ i : Fin len, ∃ y, (∃ c, w.cells? base (a.add (i.val * P.cellsOf e)) (P.cellsOf e) = some c ∧ d.K w y c) ∧ Pr y := fun i => by
    obtain ⟨c, h1, h2⟩ := hx i.val (Nat.lt_of_lt_of_le i.isLt hlm)
    have hb := bulk_mem ((List.range len).map D) (D i.val) (List.mem_map.2 ⟨i.val, List.mem_range.2 i.isLt, rfl⟩)
    obtain ⟨y, hk, hp⟩ := hd _ _ _ _ _ _ _ _ _ h2 (Nat.le_trans hb hNN)
    exact ⟨y, ⟨c, h1, hk⟩, hp⟩
   let Y : Fin len → α := fun i => Classical.choose (hy i)
   have hY := fun i => Classical.choose_spec (hy i)
   have hlen : (List.ofFn Y).length = len := by simp
   refine ⟨List.ofFn Y, ⟨some a, cap, by rw [hlen], by rw [hlen]; exact hl, rfl, ?_, ?_⟩, ?_, ?_⟩
   · rw [hlen]; exact Nat.le_trans hl (Nat.le_trans hm (by decide))
   · intro _
     refine ⟨a, rfl, fun j p hj => ?_⟩
     have hjl : j < len := by
      have := (List.getElem?_eq_some_iff.1 hj).1
      omega
     have hp : p = Y ⟨j, hjl⟩ := by
      have := (List.getElem?_eq_some_iff.1 hj).2
      rw [List.getElem_ofFn] at this
      exact this.symm
     obtain ⟨⟨c, h1, hk⟩, _⟩ := hY ⟨j, hjl⟩
     refine ⟨c, d.K_len hk, hp ▸ hk, fun i u hu => ?_⟩
     obtain ⟨_, hcl, hcell⟩ := World.cells?_some h1
     have hi : i < P.cellsOf e := by
      have := (List.getElem?_eq_some_iff.1 hu).1
      omega
     have := hcell i hi
     rw [hu] at this
     rw [← this, ← hc, ← add_twice]
   · simp at hlen0; rw [hlen]; omega
   · intro y hy'
     obtain ⟨i, rfl⟩ := List.mem_ofFn.1 hy'
     exact (hY i).2
def OpensUL (P : Program) (N : Nat) {α : Type} (fs : List Field) (off len : Nat) (d : Kd α) (Pr : α → Prop) : Prop :=
 ∀ (H : Type) (enc : TypeId × Value → H) (w : World) (base : Nat) (spare : Nat → Bool) (held : Bool) (cs : List Value),
  cs.length = len → (∀ f ∈ fs, ∃ y n, DataW.trod enc P w base spare held n f.type ((cs.drop f.offset).take (P.cellsOf f.type)) = some y ∧ Rows.uptoBulk y.1 ≤ N) → ∃ y, d.K w y (cs.drop off) ∧ Pr y
theorem opensUL_one {P : Program} {N : Nat} {α : Type} {f : Field} {off len : Nat} {d : Kd α} {Pr : α → Prop} (ho : f.offset = off) (hl : len = off + P.cellsOf f.type) (hd : OpensU P N d Pr f.type) : OpensUL P N [f] off len d Pr := by
 intro H enc w base spare held cs hcs hf
 obtain ⟨y, n, h, hb⟩ := hf f (by simp)
 rw [ho, List.take_of_length_le (by simp; omega)] at h
 exact hd _ _ _ _ _ _ _ _ _ h hb
theorem opensUL_cons {P : Program} {N : Nat} {α β : Type} {f : Field} {fs : List Field} {off len : Nat} {d : Kd α} {d' : Kd β} {Pr : α → Prop} {Pr' : β → Prop} (ho : f.offset = off) (hd : OpensU P N d Pr f.type)
 (hs : OpensUL P N fs (off + P.cellsOf f.type) len d' Pr') : OpensUL P N (f :: fs) off len (Kd.pair d d') (fun x => Pr x.1 ∧ Pr' x.2) := by
 intro H enc w base spare held cs hcs hf
 obtain ⟨y, n, h, hb⟩ := hf f (by simp)
 rw [ho] at h
 obtain ⟨y1, k1, p1⟩ := hd _ _ _ _ _ _ _ _ _ h hb
 obtain ⟨y2, k2, p2⟩ := hs _ enc w base spare held cs hcs (fun g hg => hf g (by simp [hg]))
 refine ⟨(y1, y2), ⟨_, _, ?_, k1, k2⟩, p1, p2⟩
 rw [← List.drop_drop, List.take_append_drop]
theorem opensU_struct {P : Program} {N : Nat} {t : TypeId} {fs : Array Field} {l : List Field} {α : Type} {d : Kd α} {Pr : α → Prop} (ht : P.underlying t = some (.struct fs)) (hfs : fs.toList = l) (hd : OpensUL P N l 0 (P.cellsOf t) d Pr) : OpensU P N d Pr t := by
 intro H enc w base spare held fuel cs x h hN
 obtain ⟨xs, n, _, rfl, hl, hlen, hf⟩ := DataW.trod_struct ht h
 subst hfs
 have hNN : Rows.uptoBulkAll (xs.map (·.1)) ≤ N := by
  simp only [Rows.uptoBulk] at hN
  omega
 have := hd H enc w base spare held cs hl (fun f hm => by
  obtain ⟨i, hi, rfl⟩ := List.mem_iff_getElem.1 hm
  have hi' : i < fs.size := by simpa using hi
  have := hf i fs[i] (by simp [hi'])
  rw [List.getElem?_eq_getElem (by omega)] at this
  exact ⟨_, n, by simpa using this, Nat.le_trans (bulk_mem _ _ (List.mem_map.2 ⟨_, List.getElem_mem _, rfl⟩)) hNN⟩)
 simpa using this
theorem opensU_iso {P : Program} {N : Nat} {t : TypeId} {α β : Type} {d : Kd α} {Pr : α → Prop} (f : β → α) (g : α → β) (hfg : ∀ x, f (g x) = x) (h : OpensU P N d Pr t) : OpensU P N (Kd.iso d f) (fun y => Pr (f y)) t := by
 intro H enc w base spare held fuel cs x hx hN
 obtain ⟨y, hk, hp⟩ := h _ _ _ _ _ _ _ _ _ hx hN
 exact ⟨g y, by show d.K w (f (g y)) cs; rw [hfg]; exact hk, by show Pr (f (g y)); rw [hfg]; exact hp⟩
theorem opensU_imp {P : Program} {N : Nat} {t : TypeId} {α : Type} {d : Kd α} {Pr Pr' : α → Prop} (h : OpensU P N d Pr t) (hi : ∀ x, Pr x → Pr' x) : OpensU P N d Pr' t := by
 intro H enc w base spare held fuel cs x hx hN
 obtain ⟨y, hk, hp⟩ := h _ _ _ _ _ _ _ _ _ hx hN
 exact ⟨y, hk, hi _ hp⟩
end Go.Proofs.YtendekbckfpmgaaGreat
namespace Go.Proofs.YtendekbckfpmgaaGreat
open Go Go.RowKit Go.Proofs.YtendekbckfpmgaaGreatW.PrintWords Go.Proofs.YtendekbckfpmgaaGreat.PWorldMay
theorem listB_self {α : Type} (p : α → α → Bool) (l : List α) (h : ∀ x ∈ l, p x x = true) : listB p l l = true := by
 induction l with
 | nil => rfl
 | cons a r ih =>
  show (p a a && listB p r r) = true
  rw [h a (by simp), ih (fun x hx => h x (by simp [hx]))]; rfl
theorem eqSize_self (a : S78) : eqSize a a = true := by simp [eqSize]
theorem eqVal_self (a : S47) : eqVal a a = true := by simp [eqVal]
theorem eqRow_self (a : S84) : eqRow a a = true := by unfold eqRow; rw [eqVal_self, listB_self _ _ (fun x _ => eqVal_self x)]; rfl
theorem eqTab_self (a : S81) : eqTab a a = true := by unfold eqTab; rw [eqVal_self, listB_self _ _ (fun x _ => eqRow_self x)]; simp
theorem eqWorld_self (z : List S78) (f : List S81) : eqWorld z z f f = true := by
 unfold eqWorld; rw [listB_self _ _ (fun x _ => eqSize_self x), listB_self _ _ (fun x _ => eqTab_self x)]; rfl
def SmallT (n : Nat) (f : List S81) : Prop := f.length ≤ n ∧ ∀ x ∈ f, x.f1.length ≤ n ∧ ∀ r ∈ x.f1, r.f0.length ≤ n
section
variable (z : List S78) (f : List S81) (cz : List S78)
theorem copy_l1 (cf : List S81) (hf : SmallT 1048576 f) (hcf : cf.length ≤ 1048576) (i : Nat) (hi : i < f.length) (R : List S78 × List S81)
 (hn : ∃ K, ∀ k, K ≤ k → juristref09_Copy.l0 k ((i + 1 : Nat) : Int) z f cz (cf ++ [f.getD i z81]) = some R) :
 ∀ (n m : Nat), (f.getD i z81).f1.length - m ≤ n → m ≤ (f.getD i z81).f1.length →
  ∃ K, ∀ k, K ≤ k → juristref09_Copy.l1 k (i : Int) (m : Int) z f cz cf (f.getD i z81).f0 ((f.getD i z81).f1.take m) (f.getD i z81).f2.f0 (f.getD i z81).f2.f1 (f.getD i z81).f2.f2.f0 (f.getD i z81).f2.f2.f1 (f.getD i z81).f2.f3 = some R := by
 have hsi : wrap64 ((i : Int) + 1) = ((i + 1 : Nat) : Int) := by have := hf.1; unfold wrap64; omega
 have er : rd_T81 f (i : Int) = f.getD i z81 := rfl
 have hs := hf.2 (f.getD i z81) (by rw [show f.getD i z81 = f[i] by simp [hi]]; exact List.getElem_mem hi)
 obtain ⟨K0, hK0⟩ := hn
 have last : ∀ k m, K0 + 1 ≤ k → ¬ m < (f.getD i z81).f1.length → juristref09_Copy.l1 k (i : Int) (m : Int) z f cz cf (f.getD i z81).f0 ((f.getD i z81).f1.take m) (f.getD i z81).f2.f0 (f.getD i z81).f2.f1 (f.getD i z81).f2.f2.f0 (f.getD i z81).f2.f2.f1 (f.getD i z81).f2.f3 = some R := by
  intro k m hk hm
  obtain ⟨k, rfl⟩ : ∃ j, k = j + 1 := ⟨k - 1, by omega⟩
  rw [juristref09_Copy.l1, if_pos (by omega), if_pos (by omega), er, if_neg (by omega), if_pos (by omega), hsi, List.take_of_length_le (by omega)]
  exact hK0 k (by omega)
 intro n
 induction n with
 | zero => intro m h1 h2; exact ⟨K0 + 1, fun k hk => last k m hk (by omega)⟩
 | succ n ih =>
  intro m h1 h2
  by_cases h : m < (f.getD i z81).f1.length
  · obtain ⟨K1, hK1⟩ := ih (m + 1) (by omega) (by omega)
    have hsm : wrap64 ((m : Int) + 1) = ((m + 1 : Nat) : Int) := by have := hs.1; unfold wrap64; omega
    have ew : rd_T84 (f.getD i z81).f1 (m : Int) = (f.getD i z81).f1.getD m z84 := rfl
    have hr := hs.2 ((f.getD i z81).f1.getD m z84) (by rw [show (f.getD i z81).f1.getD m z84 = (f.getD i z81).f1[m] from List.getElem_eq_getD z84 |>.symm]; exact List.getElem_mem h)
    refine ⟨K1 + 1, fun k hk => ?_⟩
    obtain ⟨k, rfl⟩ : ∃ j, k = j + 1 := ⟨k - 1, by omega⟩
    rw [juristref09_Copy.l1, if_pos (by omega), if_pos (by omega), er, if_pos (by omega), if_pos (by omega), Option.bind_some, ew, if_pos (by simp only [List.length_nil]; omega), if_pos (by rw [List.length_take]; have := hs.1; omega), hsm]
    have ht : (f.getD i z81).f1.take (m + 1) = (f.getD i z81).f1.take m ++ [(f.getD i z81).f1.getD m z84] := by
     rw [List.take_add_one, List.getElem?_eq_getElem h, show (f.getD i z81).f1.getD m z84 = (f.getD i z81).f1[m] from List.getElem_eq_getD z84 |>.symm]; rfl
    have := hK1 k (by omega)
    rw [ht] at this
    exact this
  · exact ⟨K0 + 1, fun k hk => last k m hk h⟩
theorem copy_l0 (hf : SmallT 1048576 f) : ∀ (n i : Nat), f.length - i ≤ n → i ≤ f.length → ∃ K, ∀ k, K ≤ k → juristref09_Copy.l0 k (i : Int) z f cz (f.take i) = some (cz, f) := by
 have last : ∀ k i, 1 ≤ k → ¬ i < f.length → juristref09_Copy.l0 k (i : Int) z f cz (f.take i) = some (cz, f) := by
  intro k i hk hi
  obtain ⟨k, rfl⟩ : ∃ j, k = j + 1 := ⟨k - 1, by omega⟩
  rw [juristref09_Copy.l0, if_neg (by omega), List.take_of_length_le (by omega)]
 intro n
 induction n with
 | zero => intro i h1 h2; exact ⟨1, fun k hk => last k i hk (by omega)⟩
 | succ n ih =>
  intro i h1 h2
  by_cases h : i < f.length
  · have hN := ih (i + 1) (by omega) (by omega)
    have er : rd_T81 f (i : Int) = f.getD i z81 := rfl
    have ht : f.take (i + 1) = f.take i ++ [f.getD i z81] := by
     rw [List.take_add_one, List.getElem?_eq_getElem h, show f.getD i z81 = f[i] from List.getElem_eq_getD z81 |>.symm]; rfl
    rw [ht] at hN
    obtain ⟨K1, hK1⟩ := copy_l1 z f cz (f.take i) hf (by rw [List.length_take]; have := hf.1; omega) i h _ hN _ 0 (Nat.le_refl _) (by omega)
    refine ⟨K1 + 1, fun k hk => ?_⟩
    obtain ⟨k, rfl⟩ : ∃ j, k = j + 1 := ⟨k - 1, by omega⟩
    rw [juristref09_Copy.l0, if_pos (by omega), if_pos (by omega), er]
    exact hK1 k (by omega)
  · exact ⟨1, fun k hk => last k i hk h⟩
theorem copy_f (hz : z.length ≤ 1048576) (hf : SmallT 1048576 f) : ∃ k, juristref09_Copy.f k z f = some (z, f) := by
 obtain ⟨K, hK⟩ := copy_l0 z f z hf f.length 0 (by omega) (by omega)
 refine ⟨K, ?_⟩
 unfold juristref09_Copy.f
 rw [Option.bind_some, if_pos (by simp only [List.length_nil]; omega)]
 exact hK K (Nat.le_refl _)
end
end Go.Proofs.YtendekbckfpmgaaGreat
namespace Go.Proofs.YtendekbckfpmgaaGreat
open Go Go.RowKit Go.Proofs.YtendekbckfpmgaaGreatW.PrintWords Go.Proofs.YtendekbckfpmgaaGreat.PWorldMay
structure WorldC (w : World) (A1 : Option Addr) (c1 : Nat) (z : List S78) (A2 : Option Addr) (c2 : Nat) (f : List S81) : Prop where
 hz : k78.C w A1 z.length z
 hzc : z.length ≤ c1
 hf : k81.C w A2 f.length f
 hfc : f.length ≤ c2
theorem WorldC.below {w w' : World} {A1 : Option Addr} {c1 : Nat} {z : List S78} {A2 : Option Addr} {c2 : Nat} {f : List S81} (h : WorldC w A1 c1 z A2 c2 f) (hb : Below w.heap.size w w') : WorldC w' A1 c1 z A2 c2 f :=
 ⟨Kd.C_below h.hz hb, h.hzc, Kd.C_below h.hf hb, h.hfc⟩
theorem copy_any {w : World} {A1 : Option Addr} {c1 : Nat} {z : List S78} {A2 : Option Addr} {c2 : Nat} {f : List S81} (h : WorldC w A1 c1 z A2 c2 f) (hz : z.length ≤ 1048576) (hf : SmallT 1048576 f) :
 Calls Tryz.prog 17 #[.agg #[.slice A1 z.length c1, .slice A2 f.length c2]] w fun e w' => ∃ (B1 : Option Addr) (d1 : Nat) (B2 : Option Addr) (d2 : Nat),
  e = .returned (.agg #[.slice B1 z.length d1, .slice B2 f.length d2]) ∧ WorldC w' B1 d1 z B2 d2 f ∧ Below w.heap.size w w' := by
 obtain ⟨k, hk⟩ := copy_f z f hz hf
 refine (juristref09_Copy.calls k A1 c1 z A2 c2 f z f w h.hz h.hzc h.hf h.hfc hk).mono ?_
 rintro e w' ⟨v0, v1, rfl, h0, h1, hb⟩
 obtain ⟨B1, d1, rfl, hd1, hC1⟩ := Kd.R_reads h0
 obtain ⟨B2, d2, rfl, hd2, hC2⟩ := Kd.R_reads h1
 exact ⟨B1, d1, B2, d2, rfl, ⟨hC1, hd1, hC2, hd2⟩, hb⟩
end Go.Proofs.YtendekbckfpmgaaGreat
namespace Go.Proofs.YtendekbckfpmgaaGreat
open Go Go.RowKit Go.ChangeShapes Go.Proofs.YtendekbckfpmgaaGreatW.PrintWords Go.Proofs.YtendekbckfpmgaaGreat.PWorldMay
theorem I64.of_wf {n : Int} (h : (Lit.int .i64 n).wf = true) : I64 n := by
 have l1 : IntKind.i64.min = -9223372036854775808 := by decide
 have l2 : IntKind.i64.max = 9223372036854775807 := by decide
 simp only [Lit.wf, Bool.and_eq_true, decide_eq_true_eq] at h
 constructor <;> omega
theorem opensU_i64 {P : Program} {N : Nat} {t : TypeId} (ht : P.underlying t = some (.int .i64)) : OpensU P N (Kd.int .i64) I64 t :=
 opensU_imp (opens_int ht).u (fun _ h => I64.of_wf h)
def bN : Nat := 1048576
theorem opensU_Int : OpensU Tryz.prog bN k45 (fun x => I64 x.f0 ∧ I64 x.f1) 45 :=
 opensU_iso _ (fun x : Int × Int => S45.mk x.1 x.2) (fun _ => rfl) (opensU_struct Tryz.underlying45 rfl
  (opensUL_cons rfl (opensU_i64 Tryz.underlying2) (opensUL_one (by kernel_rfl) (by kernel_rfl) (opensU_i64 Tryz.underlying2))))
theorem opensU_Val : OpensU Tryz.prog bN k47 WideV 47 :=
 opensU_imp (opensU_iso _ (fun x : Int × Bool × S45 × Int => S47.mk x.1 x.2.1 x.2.2.1 x.2.2.2) (fun _ => rfl) (opensU_struct Tryz.underlying47 rfl
  (opensUL_cons rfl (opensU_i64 Tryz.underlying43) (opensUL_cons (by kernel_rfl) (opens_bool Tryz.underlying4).u (opensUL_cons (by kernel_rfl) opensU_Int (opensUL_one (by kernel_rfl) (by kernel_rfl) (opensU_i64 Tryz.underlying2))))))) (fun _ h => ⟨h.1, h.2.2.1.1, h.2.2.1.2, h.2.2.2⟩)
theorem opensU_Row : OpensU Tryz.prog bN k84 (fun x => (x.f0.length ≤ bN ∧ WideL x.f0) ∧ WideV x.f1) 84 :=
 opensU_iso _ (fun x : List S47 × S47 => S84.mk x.1 x.2) (fun _ => rfl) (opensU_struct Tryz.underlying84 rfl
  (opensUL_cons rfl (opensU_slice 47 Tryz.underlying82 (by kernel_rfl) opensU_Val) (opensUL_one (by kernel_rfl) (by kernel_rfl) opensU_Val)))
theorem opensU_Table : OpensU Tryz.prog bN k81 (fun x => I64 x.f0 ∧ (x.f1.length ≤ bN ∧ ∀ r ∈ x.f1, (r.f0.length ≤ bN ∧ WideL r.f0) ∧ WideV r.f1) ∧ WideV x.f2) 81 :=
 opensU_iso _ (fun x : Int × List S84 × S47 => S81.mk x.1 x.2.1 x.2.2) (fun _ => rfl) (opensU_struct Tryz.underlying81 rfl
  (opensUL_cons rfl (opensU_i64 Tryz.underlying3) (opensUL_cons (by kernel_rfl) (opensU_slice 84 Tryz.underlying79 (by kernel_rfl) opensU_Row) (opensUL_one (by kernel_rfl) (by kernel_rfl) opensU_Val))))
theorem opensU_Size : OpensU Tryz.prog bN k78 (fun x => I64 x.f0 ∧ I64 x.f1) 78 :=
 opensU_iso _ (fun x : Int × Int => S78.mk x.1 x.2) (fun _ => rfl) (opensU_struct Tryz.underlying78 rfl
  (opensUL_cons rfl (opensU_i64 Tryz.underlying43) (opensUL_one (by kernel_rfl) (by kernel_rfl) (opensU_i64 Tryz.underlying2))))
def WorldIn (z : List S78) (f : List S81) : Prop :=
 (z.length ≤ bN ∧ ∀ x ∈ z, I64 x.f0 ∧ I64 x.f1) ∧ (f.length ≤ bN ∧ ∀ y ∈ f, I64 y.f0 ∧ (y.f1.length ≤ bN ∧ ∀ r ∈ y.f1, (r.f0.length ≤ bN ∧ WideL r.f0) ∧ WideV r.f1) ∧ WideV y.f2)
theorem WorldIn.small {z : List S78} {f : List S81} (h : WorldIn z f) : SmallT 1048576 f := ⟨h.2.1, fun y hy => ⟨(h.2.2 y hy).2.1.1, fun r hr => ((h.2.2 y hy).2.1.2 r hr).1.1⟩⟩
set_option maxRecDepth 100000 in
theorem opensU_World : OpensU Tryz.prog bN (Kd.pair (Kd.slice 78 k78) (Kd.slice 81 k81)) (fun x => WorldIn x.1 x.2) 37 :=
 opensU_struct Tryz.underlying37 rfl
  (opensUL_cons rfl (opensU_slice 78 Tryz.underlying34 (by kernel_rfl) opensU_Size) (opensUL_one (by kernel_rfl) (by kernel_rfl) (opensU_slice 81 Tryz.underlying35 (by kernel_rfl) opensU_Table)))
set_option maxRecDepth 100000 in
theorem opensU_Fun : OpensU Tryz.prog bN k72 (fun x => x.f0.size ≤ bN ∧ (x.f1.length ≤ bN ∧ ∀ s ∈ x.f1, I64 s) ∧ I64 x.f2) 72 :=
 opensU_imp (opensU_iso _ (fun x : ByteArray × List Int × Int × Bool => S72.mk x.1 x.2.1 x.2.2.1 x.2.2.2) (fun _ => rfl) (opensU_struct Tryz.underlying72 rfl
  (opensUL_cons rfl (opensU_string Tryz.underlying9) (opensUL_cons (by kernel_rfl) (opensU_slice _ Tryz.underlying70 (by kernel_rfl) (opensU_i64 Tryz.underlying43)) (opensUL_cons (by kernel_rfl) (opensU_i64 Tryz.underlying43) (opensUL_one (by kernel_rfl) (by kernel_rfl) (opens_bool Tryz.underlying4).u)))))) (fun _ h => ⟨h.1, h.2.1, h.2.2.1⟩)
set_option maxRecDepth 100000 in
theorem opensU_Def : OpensU Tryz.prog bN k119 (fun x => x.f0.size ≤ bN ∧ x.f2.f0.size ≤ bN ∧ (x.f2.f1.length ≤ bN ∧ ∀ s ∈ x.f2.f1, I64 s) ∧ I64 x.f2.f2) 119 :=
 opensU_imp (opensU_iso _ (fun x : ByteArray × Bool × S72 => S119.mk x.1 x.2.1 x.2.2) (fun _ => rfl) (opensU_struct Tryz.underlying119 rfl
  (opensUL_cons rfl (opensU_string Tryz.underlying9) (opensUL_cons (by kernel_rfl) (opens_bool Tryz.underlying4).u (opensUL_one (by kernel_rfl) (by kernel_rfl) opensU_Fun))))) (fun _ h => ⟨h.1, h.2.2⟩)
end Go.Proofs.YtendekbckfpmgaaGreat
namespace Go.Proofs.YtendekbckfpmgaaGreat
open Go Go.RowKit Go.Proofs.YtendekbckfpmgaaGreatW.PrintWords Go.Proofs.YtendekbckfpmgaaGreat.PWorldMay
def rangeI (a : Int) (n : Nat) : List Int := (List.range n).map (fun i : Nat => (i : Int) + a)
theorem rangeI_len (a : Int) (n : Nat) : (rangeI a n).length = n := by simp [rangeI]
theorem rangeI_succ (a : Int) (n : Nat) : rangeI a (n + 1) = rangeI a n ++ [(n : Int) + a] := by simp [rangeI, List.range_succ]
def NumMadeR (w : World) (t : TypeId) (l : List Int) (e : Ending) (w' : World) : Prop :=
 ∃ v, e = .returned v ∧ w'.ownsRow w.heap.size t 1 v l.length (l.map (Value.int .i64)) ∧ Below w.heap.size w w'
set_option maxRecDepth 100000 in
theorem rsorts_any {B : Nat} {w : World} {g : Nat} {r : Rt} (h : RTab B w g r) (hst : ∀ e ∈ r.l0, e.st = true) : Calls Tryz.prog 35 #[.pointer (some ⟨g, 0, none⟩)] w (NumMadeR w 43 (rangeI 2 r.l0.length)) := by
 obtain ⟨i0, hi, hz0, hz1, hz2⟩ := info_parts infoI
 have HT := Lib.hid h
 have HS := Lib.hid hst
 have hs0 := h.s0
 clear h hst
 go_enter Tryz.func35, Tryz.ntmps35
 go_wp2_with fail
 go_loopw [3, 4] (fun vl vi wr => ∃ k : Nat, vi = .int .i64 k ∧ k ≤ r.l0.length ∧ Hid (wr.ownsRow w.heap.size 43 1 vl k ((rangeI 2 k).map (Value.int .i64)) ∧ Below w.heap.size w wr)) (fun _ vi _ => r.l0.length - (intOf vi).toNat)
 case atStart => exact ⟨0, rfl, by omega, Lib.hid ⟨World.ownsRow_nil _ _ _ _, Below.refl _ _⟩⟩
 case round =>
  obtain ⟨k, rfl, hk, hh⟩ := hrel
  have HT2 := Lib.hid (HT.out.below hh.out.2)
  have c0 := HT2.out.c0
  have hgl := HT2.out.lt
  obtain ⟨ao, cap, hAe, _⟩ := own_slice HT2.out.o0
  rw [hAe] at c0
  by_cases hkl : k < r.l0.length
  case neg =>
   have hkl' : ¬ (k : Int) < r.l0.length := by omega
   go_wp2_with fail
   go_ret
   have e : k = r.l0.length := by omega
   subst e
   exact ⟨_, rfl, by rw [rangeI_len]; exact hh.out.1, hh.out.2⟩
  case pos =>
   have hkl' : (k : Int) < r.l0.length := by omega
   obtain ⟨g', rfl⟩ : ∃ g', ao = some ⟨g', 0, none⟩ := by
    have ho := HT2.out.o0
    rw [hAe] at ho
    rcases ho.2 with ⟨_, h⟩ | ⟨g', cap', cur, h1, _⟩
    · omega
    · simp at h1; exact ⟨g', h1.1⟩
   obtain ⟨x, hx⟩ : ∃ x, r.l0[k]? = some x := ⟨_, List.getElem?_eq_getElem hkl⟩
   have k5 : wr.cell? ⟨g', k * 6 + 5, none⟩ = some (.bool true) := by
    have ho := HT2.out.o0
    rw [hAe] at ho
    rw [ho.cellAt (k * 6 + 5) (by omega), flatE_get r.l0 k x 5 hx (by omega)]
    have := HS.out x (List.mem_of_getElem? hx)
    simp [En.cells, this]
   obtain ⟨p1, p2⟩ := hh.out
   obtain ⟨av, cv, rfl, _⟩ := own_slice p1
   have hzw : IntKind.i64.wrap ((k : Int) + 2) = (k : Int) + 2 := IntWalk.i64_in _ (by constructor <;> omega)
   have hn0 : ∀ j u, ([.int .i64 ((k : Int) + 2)] : List Value)[j]? = some u → (wr.alloc (.cells #[.int .i64 ((k : Int) + 2)] 43)).cell? ((⟨wr.heap.size, 0, none⟩ : Addr).add j) = some u := by
    intro j u h
    have := (CellsW.new wr ([.int .i64 ((k : Int) + 2)] : List Value) 43 j u h).1
    rw [show ((⟨wr.heap.size, 0, none⟩ : Addr).add j) = ⟨wr.heap.size, j, none⟩ by cases j <;> simp [Addr.add]]
    exact this
   have H1 := Lib.hid p1
   have H2 := Lib.hid p2
   have HN0 := Lib.hid hn0
   have hbw : w.heap.size ≤ wr.heap.size := p2.size
   clear p1 p2 hh hn0 hx
   go_wp2_with (first | (at_builtin; refine wpList_append_own_at _ rfl _ _ 70 rfl w.heap.size 43 i0 (.int .i64 0) 1 8 Tryz.underlying70 hi hz0 hz1 hz2 rfl (by decide) (.slice av k cv) k _ rfl (H1.out.alloc _) ⟨wr.heap.size, 0, none⟩ 1 1 [.int .i64 ((k : Int) + 2)] rfl rfl HN0.out (by simp [Value.oneCell']) (by unfold maxLen; omega) (by omega) (by simp; omega) ?_; intro v' w5 hown hgrow hnil hat) | fail)
   have hb5 : Below w.heap.size w w5 := (H2.out.alloc (by omega) (.cells #[.int .i64 ((k : Int) + 2)] 43)).grown hgrow (by simp; omega) (fun q e => (H1.out.lt q e).1)
   have hown' : w5.ownsRow w.heap.size 43 1 v' (k + 1) ((rangeI 2 (k + 1)).map (Value.int .i64)) := by
    rw [rangeI_succ, List.map_append]; exact hown
   have HX := Lib.hid (And.intro hown' hb5)
   clear hown hgrow hnil hat hown' hb5 k5 c0
   go_wp2_with fail
   go_roundw
   case rel => exact ⟨k + 1, by go_num, by omega, HX⟩
   case measure => simp [intOf]; omega
set_option maxRecDepth 100000 in
theorem rfuns_any {B : Nat} {w : World} {g : Nat} {r : Rt} (h : RTab B w g r) (hst : ∀ e ∈ r.l1, e.st = true) : Calls Tryz.prog 36 #[.pointer (some ⟨g, 0, none⟩)] w (NumMadeR w 3 (rangeI 0 r.l1.length)) := by
 obtain ⟨i0, hi, hz0, hz1, hz2⟩ := info_parts infoN
 have HT := Lib.hid h
 have HS := Lib.hid hst
 have hs0 := h.s1
 clear h hst
 go_enter Tryz.func36, Tryz.ntmps36
 go_wp2_with fail
 go_loopw [3, 4] (fun vl vi wr => ∃ k : Nat, vi = .int .i64 k ∧ k ≤ r.l1.length ∧ Hid (wr.ownsRow w.heap.size 3 1 vl k ((rangeI 0 k).map (Value.int .i64)) ∧ Below w.heap.size w wr)) (fun _ vi _ => r.l1.length - (intOf vi).toNat)
 case atStart => exact ⟨0, rfl, by omega, Lib.hid ⟨World.ownsRow_nil _ _ _ _, Below.refl _ _⟩⟩
 case round =>
  obtain ⟨k, rfl, hk, hh⟩ := hrel
  have HT2 := Lib.hid (HT.out.below hh.out.2)
  have c1 := HT2.out.c1
  have hgl := HT2.out.lt
  obtain ⟨ao, cap, hAe, _⟩ := own_slice HT2.out.o1
  rw [hAe] at c1
  by_cases hkl : k < r.l1.length
  case neg =>
   have hkl' : ¬ (k : Int) < r.l1.length := by omega
   go_wp2_with fail
   go_ret
   have e : k = r.l1.length := by omega
   subst e
   exact ⟨_, rfl, by rw [rangeI_len]; exact hh.out.1, hh.out.2⟩
  case pos =>
   have hkl' : (k : Int) < r.l1.length := by omega
   obtain ⟨g', rfl⟩ : ∃ g', ao = some ⟨g', 0, none⟩ := by
    have ho := HT2.out.o1
    rw [hAe] at ho
    rcases ho.2 with ⟨_, h⟩ | ⟨g', cap', cur, h1, _⟩
    · omega
    · simp at h1; exact ⟨g', h1.1⟩
   obtain ⟨x, hx⟩ : ∃ x, r.l1[k]? = some x := ⟨_, List.getElem?_eq_getElem hkl⟩
   have k5 : wr.cell? ⟨g', k * 6 + 5, none⟩ = some (.bool true) := by
    have ho := HT2.out.o1
    rw [hAe] at ho
    rw [ho.cellAt (k * 6 + 5) (by omega), flatE_get r.l1 k x 5 hx (by omega)]
    have := HS.out x (List.mem_of_getElem? hx)
    simp [En.cells, this]
   obtain ⟨p1, p2⟩ := hh.out
   obtain ⟨av, cv, rfl, _⟩ := own_slice p1
   have hn0 : ∀ j u, ([.int .i64 (k : Int)] : List Value)[j]? = some u → (wr.alloc (.cells #[.int .i64 (k : Int)] 3)).cell? ((⟨wr.heap.size, 0, none⟩ : Addr).add j) = some u := by
    intro j u h
    have := (CellsW.new wr ([.int .i64 (k : Int)] : List Value) 3 j u h).1
    rw [show ((⟨wr.heap.size, 0, none⟩ : Addr).add j) = ⟨wr.heap.size, j, none⟩ by cases j <;> simp [Addr.add]]
    exact this
   have H1 := Lib.hid p1
   have H2 := Lib.hid p2
   have HN0 := Lib.hid hn0
   have hbw : w.heap.size ≤ wr.heap.size := p2.size
   clear p1 p2 hh hn0 hx
   go_wp2_with (first | (at_builtin; refine wpList_append_own_at _ rfl _ _ 24 rfl w.heap.size 3 i0 (.int .i64 0) 1 8 Tryz.underlying24 hi hz0 hz1 hz2 rfl (by decide) (.slice av k cv) k _ rfl (H1.out.alloc _) ⟨wr.heap.size, 0, none⟩ 1 1 [.int .i64 (k : Int)] rfl rfl HN0.out (by simp [Value.oneCell']) (by unfold maxLen; omega) (by omega) (by simp; omega) ?_; intro v' w5 hown hgrow hnil hat) | fail)
   have hb5 : Below w.heap.size w w5 := (H2.out.alloc (by omega) (.cells #[.int .i64 (k : Int)] 3)).grown hgrow (by simp; omega) (fun q e => (H1.out.lt q e).1)
   have hown' : w5.ownsRow w.heap.size 3 1 v' (k + 1) ((rangeI 0 (k + 1)).map (Value.int .i64)) := by
    rw [rangeI_succ, List.map_append, Int.add_zero]; exact hown
   have HX := Lib.hid (And.intro hown' hb5)
   clear hown hgrow hnil hat hown' hb5 k5 c1
   go_wp2_with fail
   go_roundw
   case rel => exact ⟨k + 1, by go_num, by omega, HX⟩
   case measure => simp [intOf]; omega
theorem args_C {w : World} {la : List Int} {ar : Value} (h : ArOk w la ar) : ∃ A3 c3, ar = .slice A3 la.length c3 ∧ la.length ≤ c3 ∧ (Kd.int .i64).C w A3 la.length la := by
 obtain ⟨a3, p3, he3, hp3, hC2⟩ := Kd.R_reads (Kd.R_of_own (enc := Value.int .i64) (h1 := fun _ => rfl) (ok := fun _ => True) h (fun _ _ => trivial))
 exact ⟨a3, p3, he3, hp3, hC2⟩
theorem copied_row (w' : World) (nm : ByteArray) (A3 : Option Addr) (c3 : Nat) (la : List Int) (rs : Int) (df : Bool) (hl : la.length ≤ 500) (hle : la.length ≤ c3) (hC : (Kd.int .i64).C w' A3 la.length la) :
 Calls Tryz.prog 24 #[.agg #[.string nm, .slice A3 la.length c3, .int .i64 rs, .bool df]] w' fun e w'' =>
  ∃ (za : Option Addr) (zb : Nat × Nat), e = .returned (.agg #[.string nm, .slice za zb.1 zb.2, .int .i64 rs, .bool df]) ∧ Below w'.heap.size w' w'' ∧ ArOk w'' la (.slice za zb.1 zb.2) := by
 refine (juristref05_Copied.calls nm A3 c3 la rs df nm la rs df w' hC hle (copied_says nm la rs df hl)).mono ?_
 rintro e w'' ⟨v1, rfl, hR, hb⟩
 have ho := Kd.own_of_R hR
 rw [encs_map] at ho
 obtain ⟨za, zc, rfl, _⟩ := own_slice ho
 exact ⟨za, (la.length, zc), rfl, hb, own_lower ho (Nat.zero_le _)⟩
set_option maxRecDepth 100000 in
theorem rinfo_any {B : Nat} {w : World} {g : Nat} {r : Rt} (h : RTab B w g r) (n : Nat) (x : En) (hx : r.l1[n]? = some x) (la : List Int) (hl : la.length ≤ 500) (har : ArOk w la x.ar) :
 Calls Tryz.prog 37 #[.pointer (some ⟨g, 0, none⟩), .int .i64 n] w fun e w' =>
  ∃ (za : Option Addr) (zb : Nat × Nat), e = .returned (.tuple #[.agg #[.string x.nm, .slice za zb.1 zb.2, .int .i64 x.res, .bool x.df], .int .i64 0]) ∧ Below w.heap.size w w' ∧ ArOk w' la (.slice za zb.1 zb.2) := by
 have hin : n < r.l1.length := (List.getElem?_eq_some_iff.1 hx).1
 have hs1 := h.s1
 have c1 := h.c1
 have hgl := h.lt
 obtain ⟨ao, cap, hAe, _⟩ := own_slice h.o1
 rw [hAe] at c1
 obtain ⟨g', rfl⟩ : ∃ g', ao = some ⟨g', 0, none⟩ := by
  have ho := h.o1
  rw [hAe] at ho
  rcases ho.2 with ⟨_, h⟩ | ⟨g', cap', cur, h1, _⟩
  · omega
  · simp at h1; exact ⟨g', h1.1⟩
 have hc : ∀ j, j < 6 → w.cell? ⟨g', n * 6 + j, none⟩ = x.cells[j]? := fun j hj => by
  have ho := h.o1
  rw [hAe] at ho
  rw [ho.cellAt (n * 6 + j) (by omega), flatE_get r.l1 n x j hx hj]
 have k0 := hc 0 (by omega); have k1 := hc 1 (by omega); have k2 := hc 2 (by omega); have k3 := hc 3 (by omega)
 simp only [En.cells, List.getElem?_cons_zero, List.getElem?_cons_succ, Nat.add_zero] at k0 k1 k2 k3
 obtain ⟨A3, c3, hae, hle, hC⟩ := args_C har
 rw [hae] at k1
 have hgl' : g' < w.heap.size := (h.o1.lt g' (by rw [hAe]; rfl)).2
 have hin' : (n : Int) < r.l1.length := by omega
 have hnw : IntKind.i64.wrap (n : Int) = n := IntWalk.i64_in _ (by constructor <;> omega)
 have HC := Lib.hid (show ∀ w', Below w.heap.size w w' → Calls Tryz.prog 24 #[.agg #[.string x.nm, .slice A3 la.length c3, .int .i64 x.res, .bool x.df]] w' fun e w'' =>
  ∃ (za : Option Addr) (zb : Nat × Nat), e = .returned (.agg #[.string x.nm, .slice za zb.1 zb.2, .int .i64 x.res, .bool x.df]) ∧ Below w'.heap.size w' w'' ∧ ArOk w'' la (.slice za zb.1 zb.2) from
  fun w' hb => copied_row w' x.nm A3 c3 la x.res x.df hl hle (Kd.C_below hC hb))
 clear h hx hc har hC hAe hae
 go_enter Tryz.func37, Tryz.ntmps37
 go_wp2_with fail
 refine (HC.out _ (by (repeat (first | (with_reducible exact Below.refl _ _) | ((with_reducible refine Below.alloc ?_ ?_ _); rotate_left; focus (first | (simp; done) | (simp; omega))) | ((with_reducible refine Below.setCell ?_ ?_ _); rotate_left; focus (first | (simp; done) | (simp; omega))) | (with_reducible refine Below.drew ?_) | (with_reducible refine Below.drewN' ?_ _))))).mono ?_; rintro e w1 ⟨za, zb, rfl, hb1, har1⟩
 have HB1 := Lib.hid (show Below w.heap.size w w1 by (repeat (first | (with_reducible exact Below.refl _ _) | ((with_reducible refine Below.alloc ?_ ?_ _); rotate_left; focus (first | (simp; done) | (simp; omega) | (have q0 := hb1.size; (try simp at q0); (try simp); omega))) | ((with_reducible refine Below.setCell ?_ ?_ _); rotate_left; focus (first | (simp; done) | (simp; omega) | (have q0 := hb1.size; (try simp at q0); (try simp); omega))) | (with_reducible refine Below.drew ?_) | (with_reducible refine Below.drewN' ?_ _) | (with_reducible refine Below.trans ?_ (hb1.mono ?_); rotate_left; focus (first | (simp; done) | (simp; omega) | (have q0 := hb1.size; (try simp at q0); (try simp); omega))))))
 obtain ⟨hc1, hf1⟩ := bcell hb1
 have z0 := hc1 w.heap.size 0 (by simp); have z1 := hc1 w.heap.size 1 (by simp); have z2 := hc1 w.heap.size 2 (by simp); have z3 := hc1 w.heap.size 3 (by simp)
 have y0 := hf1 w.heap.size 0 (by simp); have y1 := hf1 w.heap.size 1 (by simp); have y2 := hf1 w.heap.size 2 (by simp); have y3 := hf1 w.heap.size 3 (by simp)
 simp at z0 z1 z2 z3 y0 y1 y2 y3
 have hsz := hb1.size
 simp at hsz
 have HA1 := Lib.hid har1
 have HBX := Lib.hid (show RowB w1 w.heap.size 72 [.string ByteArray.empty, .slice none 0 0, .int .i64 0, .bool false] from
  RowB.kept (S := fun _ => False) (RowB.new w _ _) (Ch.ofBelow hb1) (fun e => e))
 clear hc1 hf1 hb1 har1 HC k0 k1 k2 k3 c1
 generalize hN : w.heap.size = N at *
 have HN := Lib.hid hN
 clear hN
 go_wp2
 have n0 : (Value.slice za zb.1 zb.2).ownBlock ≠ some N := own_ne_row HA1.out HBX.out (by decide)
 refine bodyPost_ret (v := .tuple #[.agg #[.string x.nm, .slice za zb.1 zb.2, .int .i64 x.res, .bool x.df], .int .i64 0]) (by simp [results, Tryz.results37, go_sem, z0, z1, z2, z3]) rfl ⟨za, zb, rfl, ?_, ?_⟩
 · rw [HN.out]
   exact (((HB1.out.setCell (p := ⟨N, 0, none⟩) (by simp) _).setCell (p := ⟨N, 1, none⟩) (by simp) _).setCell (p := ⟨N, 2, none⟩) (by simp) _).setCell (p := ⟨N, 3, none⟩) (by simp) _
 · exact ownsRow_setCell_other (ownsRow_setCell_other (ownsRow_setCell_other (ownsRow_setCell_other HA1.out (a := ⟨N, 0, none⟩) n0 _) (a := ⟨N, 1, none⟩) n0 _) (a := ⟨N, 2, none⟩) n0 _) (a := ⟨N, 3, none⟩) n0 _
end Go.Proofs.YtendekbckfpmgaaGreat
