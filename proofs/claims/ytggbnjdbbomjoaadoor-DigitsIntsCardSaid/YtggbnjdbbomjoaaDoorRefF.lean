/- Walks of the reference of layer 1: Less. -/
import Derived.Test.YtggbnjdbbomjoaaDoorRefD
import Derived.Test.YtggbnjdbbomjoaaDoorFlow
namespace Go.Proofs.YtggbnjdbbomjoaaDoor
open Go.RowKit

def ZL (x y : Lg) (B : Nat) : Nat → World → Value → Prop
  | 0, _, v => v = lgV x
  | 1, _, v => v = lgV y
  | 2, _, v => v = lgV (negL y)
  | 3, _, v => v = lgV (addL x (negL y))
  | 4, w, v => ∃ b, v = .pointer (some ⟨b, 0, none⟩) ∧ B ≤ b ∧ b < w.heap.size ∧ CellsW w b (lgL lg0)
  | _, _, _ => True
theorem ZL.on {x y : Lg} {B : Nat} {w w' : World} (hb : Below w.heap.size w w') : ∀ j u, ZL x y B j w u → ZL x y B j w' u
  | 0, _, h => h
  | 1, _, h => h
  | 2, _, h => h
  | 3, _, h => h
  | 4, _, ⟨b, h1, h2, h3, h4⟩ => ⟨b, h1, h2, Nat.lt_of_lt_of_le h3 hb.size, h4.below hb h3⟩
  | _ + 5, _, _ => trivial

set_option maxRecDepth 100000 in
set_option maxHeartbeats 1000000 in
theorem lessl_any (x y : Lg) (hx : Dig x.d) (hy : Dig y.d) (w : World) :
    Calls Tryd.prog 27 #[lgV x, lgV y] w fun e w' => e = .returned (.bool (addL x (negL y)).m) ∧ Below w.heap.size w w' := by
  go_enter Tryd.func27, Tryd.ntmps27
  go_wp2
  have z0 : CellsW ((w.alloc (.cells (lgC x) 30)).alloc (.cells (lgC y) 30)) w.heap.size (lgL x) := (CellsW.new w (lgL x) 30).alloc (by simp) _
  have z1 : CellsW ((w.alloc (.cells (lgC x) 30)).alloc (.cells (lgC y) 30)) (w.heap.size + 1) (lgL y) := by
    have := CellsW.new (w.alloc (.cells (lgC x) 30)) (lgL y) 30
    simpa using this
  have hby : Below w.heap.size w ((w.alloc (.cells (lgC x) 30)).alloc (.cells (lgC y) 30)) := by (repeat (first | (with_reducible exact Below.refl _ _) | ((with_reducible refine Below.alloc ?_ ?_ _); rotate_left; focus (first | (simp; done) | (simp; omega))) | ((with_reducible refine Below.setCell ?_ ?_ _); rotate_left; focus (first | (simp; done) | (simp; omega))) | (with_reducible refine Below.drew ?_) | (with_reducible refine Below.drewN' ?_ _)))
  have hsz : w.heap.size + 1 < ((w.alloc (.cells (lgC x) 30)).alloc (.cells (lgC y) 30)).heap.size := by simp
  generalize (w.alloc (.cells (lgC x) 30)).alloc (.cells (lgC y) 30) = W at *
  refine wp_region_flow 5 (by kernel_rfl) (by kernel_rfl) ?_ (ZL x y W.heap.size) (fun w' => Below W.heap.size W w') ⟨rfl, rfl, rfl, Nat.le_refl _, fun _ _ => rfl⟩ ?_ ?_
  · intro i o d hi ho hd
    have : i = 0 ∨ i = 1 ∨ i = 2 ∨ i = 3 ∨ i = 4 := by omega
    rcases this with rfl | rfl | rfl | rfl | rfl <;> (simp at ho; subst ho; simp at hd; subst hd; simp)
  · intro i o hi ho
    have : i = 0 ∨ i = 1 ∨ i = 2 ∨ i = 3 ∨ i = 4 := by omega
    rcases this with rfl | rfl | rfl | rfl | rfl <;> (simp at ho; subst ho; intro a w' hC hd hr; rw [if_pos (by rfl)])
    · exact flow_val (run_load_cells 30 (.tmp 2) rfl w.heap.size 0 (hr 2 (free_of (by rfl))) (lgL x) _ Tryd.underlying30 rfl (by kernel_rfl) (z0.below hC (by omega)).cellsAt) ⟨rfl, hC, fun _ _ h => h⟩
    · exact flow_val (run_load_cells 30 (.tmp 3) rfl (w.heap.size + 1) 0 (hr 3 (free_of (by rfl))) (lgL y) _ Tryd.underlying30 rfl (by kernel_rfl) (z1.below hC (by omega)).cellsAt) ⟨rfl, hC, fun _ _ h => h⟩
    · have e : a.tmps.getD 7 undef = lgV y := hd ⟨1, .data⟩ (by simp) rfl _ _ rfl rfl
      have e' : a.tmps[7]?.getD undef = lgV y := by simpa using e
      refine flow_call (f := 19) (args := #[lgV y]) (by go_simp) ?_
      exact (neg_any y w').mono fun e w'' ⟨h1, h2⟩ => ⟨_, h1, rfl, hC.trans (h2.mono hC.size), ZL.on h2⟩
    · have e : a.tmps.getD 6 undef = lgV x := hd ⟨0, .data⟩ (by simp) rfl _ _ rfl rfl
      have e' : a.tmps[6]?.getD undef = lgV x := by simpa using e
      have e8 : a.tmps.getD 8 undef = lgV (negL y) := hd ⟨2, .data⟩ (by simp) rfl _ _ rfl rfl
      have e8' : a.tmps[8]?.getD undef = lgV (negL y) := by simpa using e8
      refine flow_call (f := 18) (args := #[lgV x, lgV (negL y)]) (by go_simp) ?_
      exact (addl_any x (negL y) hx (neg_dig hy) w').mono fun e w'' ⟨h1, h2⟩ => ⟨_, h1, rfl, hC.trans (h2.mono hC.size), ZL.on h2⟩
    · refine flow_new (v := .pointer (some ⟨w'.heap.size, 0, none⟩)) (w' := w'.alloc (.cells (lgC lg0) 30)) (by go_simp; rfl) ?_
      have hb : Below w'.heap.size w' (w'.alloc (.cells (lgC lg0) 30)) := by (repeat (first | (with_reducible exact Below.refl _ _) | ((with_reducible refine Below.alloc ?_ ?_ _); rotate_left; focus (first | (simp; done) | (simp; omega))) | ((with_reducible refine Below.setCell ?_ ?_ _); rotate_left; focus (first | (simp; done) | (simp; omega))) | (with_reducible refine Below.drew ?_) | (with_reducible refine Below.drewN' ?_ _)))
      exact ⟨⟨_, rfl, hC.size, by simp, CellsW.new w' (lgL lg0) 30⟩, hC.trans (hb.mono hC.size), ZL.on hb⟩
  · intro vs w1 hb1 hZ
    have v3 : vs 3 = lgV (addL x (negL y)) := hZ 3 _ _ (by omega) rfl rfl
    obtain ⟨b, v4, h1, h2, h3⟩ : ∃ b, vs 4 = .pointer (some ⟨b, 0, none⟩) ∧ W.heap.size ≤ b ∧ b < w1.heap.size ∧ CellsW w1 b (lgL lg0) := hZ 4 _ _ (by omega) rfl rfl
    simp only [List.drop_succ_cons, List.drop_zero, List.take_succ_cons, List.take_zero, putAll, v3, v4]
    refine wpList_store_cells rfl 30 (.tmp 5) (.tmp 9) rfl b 0 rfl (lgL (addL x (negL y))) rfl (by kernel_rfl) (by simp [Value.oneCell']) h3.some h3.thaw ?_
    have hrow := (h3.put (lgL (addL x (negL y))) rfl) 0 _ rfl
    have hbe := (hby.trans (hb1.mono hby.size)).trans (setCells_below (B := w.heap.size) b (by have := hby.size; omega) (lgL (addL x (negL y))) 0 w1)
    generalize w1.setCells b 0 (lgL (addL x (negL y))) = w2 at *
    generalize hzz : addL x (negL y) = z at *
    have HZ := Lib.hid hzz; clear hzz hZ v3 v4
    obtain ⟨g1, g2⟩ := hrow
    refine wpList_nil ?_
    go_wp2
    go_ret
    exact ⟨by rw [HZ.out]; rfl, hbe⟩
end Go.Proofs.YtggbnjdbbomjoaaDoor
