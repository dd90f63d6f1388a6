/- The walk of do, kind by kind. -/
import Derived.Test.YtggbnjdbbomjoaaSorY
import Derived.Test.YtggbnjdbbomjoaaSorVv
namespace Go.Proofs.Ytggbnjdbbomjoaa
open Go Go.RowKit Go.Proofs.YtggbnjdbbomjoaaW.PrintWords Go.Proofs.Ytggbnjdbbomjoaa.PSortsScopes
theorem rpop_sum {B : Nat} {w : World} {b g : Nat} {x y : Nm} {r : Rt} (h : STab B w b x y) (k : RTab B w g r) (n : Int) : Calls Try.prog 36 #[.pointer (some ⟨g, 0, none⟩), .int .i64 n] w fun e w' =>
    ∃ (er : Int) (r' : Rt), e = .returned (.int .i64 er) ∧ STab B w' b x y ∧ RTab B w' g r' ∧ Ch (ROwn g r) w w' := by
  refine (rpop_any k n).mono ?_
  rintro e w' ⟨⟨er, rfl⟩, r', ht, _, _, hc⟩
  exact ⟨er, r', rfl, h.rch k hc, ht, hc⟩
theorem own_ge {B : Nat} {w : World} {b : Nat} {x y : Nm} (h : STab0 B w b x y) {k : Nat} (hk : Own b x k ∨ Own b y k) : B ≤ k := by
  rcases hk with (e | e | e | e) | (e | e | e | e)
  · rw [e]; exact h.gb
  · exact (h.okx.oA.lt _ e).1
  · rw [e]; exact h.okx.gm
  · exact (h.okx.oM.lt _ e).1
  · rw [e]; exact h.gb
  · exact (h.oky.oA.lt _ e).1
  · rw [e]; exact h.oky.gm
  · exact (h.oky.oM.lt _ e).1
theorem row_apart {B : Nat} {w : World} {g : Nat} {r : Rt} (k : RTab B w g r) {q : Nat} {t : TypeId} {vs : List Value} (h : RowB w q t vs) (h1 : 49 ≠ t) (h2 : 84 ≠ t) : ¬ ROwn g r q := by
  rintro (e | e | e)
  · subst e; exact row_ne_row k.row h h1 rfl
  · exact own_ne_row k.o0 h h2 e
  · exact own_ne_row k.o1 h h2 e
theorem Ch.store_new {S : Nat → Prop} {w w' : World} (h : Ch S w w') {g : Nat} (hg : w.heap.size ≤ g) (j : Nat) (u : Value) : Ch S w (w'.setCell ⟨g, j, none⟩ u) :=
  ⟨h.os, h.tape, h.output, Nat.le_trans h.size (by simp [World.setCell]), fun k hk hs => (Below.heap_setCell _ _ _ _ (fun (e : k = g) => by omega)).trans (h.block k hk hs)⟩
theorem OpMem.later {B : Nat} {w w' : World} {A3 : Option Addr} {c3 : Nat} {la : List Int} (h : OpMem B w A3 c3 la) (hb : Below B w w') : OpMem B w' A3 c3 la := ⟨h.le, fun w2 h2 => h.args w2 (hb.trans h2)⟩
theorem NewM.wk {M M' : Value} {w w' : World} (h : NewM M M' w') (hs : w.heap.size ≤ w'.heap.size) : NewM M M' w := h.back hs
theorem stepW {kd nn : Int} {w w' : World} {x y x' y' : Nm} (h : StepR kd nn w' x y x' y') (hs : w.heap.size ≤ w'.heap.size) : StepR kd nn w x y x' y' := by
  cases h with
  | same => exact .same
  | addx f A' h h1 h2 => exact .addx f A' h h1 h2
  | addy f A' h => exact .addy f A' h
  | push M1 M2 h1 h2 => exact .push M1 M2 (h1.back hs) (h2.back hs)
  | pop q f1 f2 M1 M2 hk hn hq h1 h2 b1 b2 => exact .pop q f1 f2 M1 M2 hk hn hq h1 h2 b1 b2
set_option maxRecDepth 100000 in
set_option maxHeartbeats 1000000 in
theorem do_zero {B : Nat} {w : World} {b g : Nat} {x y : Nm} {r : Rt} (h : STab B w b x y) (k : RTab B w g r) (nn : Int) (nm : ByteArray) (A3 : Option Addr) (c3 : Nat) (la : List Int) (rs : Int) (df : Bool) (hs : nm.size ≤ maxLen) :
    Calls Try.prog 18 #[.pointer (some ⟨b, 0, none⟩), .pointer (some ⟨g, 0, none⟩), .agg (opCells 0 nn nm (.slice A3 la.length c3) rs df).toArray] w (DoR B w b g x y r 0 nn) := by
  have hb0 := (Below.refl w.heap.size w).alloc (Nat.le_refl _) (.cells (opCells 0 nn nm (.slice A3 la.length c3) rs df).toArray 32)
  have HBX := Lib.hid (RowB.new w (opCells 0 nn nm (.slice A3 la.length c3) rs df) 32)
  have HT := Lib.hid (h.below hb0)
  have HK := Lib.hid (k.below hb0)
  have HNO := Lib.hid (And.intro (h.toSTab0.no (Nat.le_refl w.heap.size)) (fun e : ROwn g r w.heap.size => Nat.lt_irrefl _ (k.own_lt e).2))
  have q0 : (w.alloc (.cells (opCells 0 nn nm (.slice A3 la.length c3) rs df).toArray 32)).cell? ⟨w.heap.size, 0, none⟩ = some (.int .i64 0) := HBX.out.cell 0
  have q1 : (w.alloc (.cells (opCells 0 nn nm (.slice A3 la.length c3) rs df).toArray 32)).cell? ⟨w.heap.size, 1, none⟩ = some (.int .i64 nn) := HBX.out.cell 1
  have q2 : (w.alloc (.cells (opCells 0 nn nm (.slice A3 la.length c3) rs df).toArray 32)).cell? ⟨w.heap.size, 2, none⟩ = some (.string nm) := HBX.out.cell 2
  have q3 : (w.alloc (.cells (opCells 0 nn nm (.slice A3 la.length c3) rs df).toArray 32)).cell? ⟨w.heap.size, 3, none⟩ = some (.slice A3 la.length c3) := HBX.out.cell 3
  have q4 : (w.alloc (.cells (opCells 0 nn nm (.slice A3 la.length c3) rs df).toArray 32)).cell? ⟨w.heap.size, 4, none⟩ = some (.int .i64 rs) := HBX.out.cell 4
  have q5 : (w.alloc (.cells (opCells 0 nn nm (.slice A3 la.length c3) rs df).toArray 32)).cell? ⟨w.heap.size, 5, none⟩ = some (.bool df) := HBX.out.cell 5
  have HBW := Lib.hid (show B ≤ w.heap.size from Nat.le_trans h.gb (Nat.le_of_lt h.lt))
  clear h k
  go_enter Try.func18, Try.ntmps18
  go_wp2_with fail
  refine (declS_sum HT.out HK.out 0 nn nm hs).mono ?_
  rintro e w1 ⟨v1, er1, x', rfl, ht1, hk1, hst, hc1⟩
  have hbx1 := HBX.out.kept hc1 HNO.out.1
  clear q0 q1 q2 q3 q4 q5
  have q2 : w1.cell? ⟨w.heap.size, 2, none⟩ = some (.string nm) := hbx1.cell 2
  have H1 := Lib.hid (And.intro ht1 (And.intro hk1 (And.intro hst hc1)))
  clear ht1 hk1 hst hc1 hbx1
  go_wp2_with fail
  refine (rdeclS_sum H1.out.1 H1.out.2.1 nm).mono ?_
  rintro e w2 ⟨v2, er2, r', rfl, ht2, hk2, hc2⟩
  have HD := Lib.hid (show ∃ x' y' r', STab B w2 b x' y' ∧ RTab B w2 g r' ∧ StepR 0 nn w x y x' y' ∧ Ch (fun k => Own b x k ∨ Own b y k ∨ ROwn g r k) w w2 from
    ⟨x', y, r', ht2, hk2, stepW H1.out.2.2.1 (by simp), Ch.trans (Ch.ofBelow ((Below.refl w.heap.size w).alloc (Nat.le_refl _) _)) ((Ch.inl H1.out.2.2.2).trans (Ch.inr hc2))⟩)
  clear H1 ht2 hk2 hc2 q2
  by_cases hv : v1 = v2
  · by_cases he : er1 = er2
    · subst hv; subst he
      skip
      go_wp2_with fail
      go_ret
      exact ⟨⟨_, rfl⟩, HD.out⟩
    · subst hv; have hne : (er1 == er2) = false := by simpa using he
      clear he
      go_wp2_with fail
      go_ret
      exact ⟨⟨_, rfl⟩, HD.out⟩
  · have hnv : (v1 == v2) = false := by simpa using hv
    clear hv
    go_wp2_with fail
    go_ret
    exact ⟨⟨_, rfl⟩, HD.out⟩
set_option maxRecDepth 100000 in
theorem do_else (kd : Int) (e0 : kd ≠ 0) (e1 : kd ≠ 1) (e2 : kd ≠ 2) (e3 : kd ≠ 3) {B : Nat} {w : World} {b g : Nat} {x y : Nm} {r : Rt} (h : STab B w b x y) (k : RTab B w g r) (nn : Int) (nm : ByteArray) (A3 : Option Addr) (c3 : Nat) (la : List Int) (rs : Int) (df : Bool) :
    Calls Try.prog 18 #[.pointer (some ⟨b, 0, none⟩), .pointer (some ⟨g, 0, none⟩), .agg (opCells kd nn nm (.slice A3 la.length c3) rs df).toArray] w (DoR B w b g x y r kd nn) := by
  have hb0 := (Below.refl w.heap.size w).alloc (Nat.le_refl _) (.cells (opCells kd nn nm (.slice A3 la.length c3) rs df).toArray 32)
  have HD := Lib.hid (show ∃ x' y' r', STab B (w.alloc (.cells (opCells kd nn nm (.slice A3 la.length c3) rs df).toArray 32)) b x' y' ∧ RTab B (w.alloc (.cells (opCells kd nn nm (.slice A3 la.length c3) rs df).toArray 32)) g r' ∧ StepR kd nn w x y x' y' ∧ Ch (fun k => Own b x k ∨ Own b y k ∨ ROwn g r k) w (w.alloc (.cells (opCells kd nn nm (.slice A3 la.length c3) rs df).toArray 32)) from
    ⟨x, y, r, h.below hb0, k.below hb0, .same, Ch.ofBelow hb0⟩)
  have HBX := Lib.hid (RowB.new w (opCells kd nn nm (.slice A3 la.length c3) rs df) 32)
  have q0 : (w.alloc (.cells (opCells kd nn nm (.slice A3 la.length c3) rs df).toArray 32)).cell? ⟨w.heap.size, 0, none⟩ = some (.int .i64 kd) := HBX.out.cell 0
  have e0' : (kd == 0) = false := by simpa using e0
  have e1' : (kd == 1) = false := by simpa using e1
  have e2' : (kd == 2) = false := by simpa using e2
  have e3' : (kd == 3) = false := by simpa using e3
  clear h k hb0 e0 e1 e2 e3
  go_enter Try.func18, Try.ntmps18
  go_wp2
  go_ret
  exact ⟨⟨_, rfl⟩, HD.out⟩
set_option maxRecDepth 100000 in
set_option maxHeartbeats 1000000 in
theorem do_two {B : Nat} {w : World} {b g : Nat} {x y : Nm} {r : Rt} (h : STab B w b x y) (k : RTab B w g r) (nn : Int) (nm : ByteArray) (A3 : Option Addr) (c3 : Nat) (la : List Int) (rs : Int) (df : Bool) :
    Calls Try.prog 18 #[.pointer (some ⟨b, 0, none⟩), .pointer (some ⟨g, 0, none⟩), .agg (opCells 2 nn nm (.slice A3 la.length c3) rs df).toArray] w (DoR B w b g x y r 2 nn) := by
  have hb0 := (Below.refl w.heap.size w).alloc (Nat.le_refl _) (.cells (opCells 2 nn nm (.slice A3 la.length c3) rs df).toArray 32)
  have HBX := Lib.hid (RowB.new w (opCells 2 nn nm (.slice A3 la.length c3) rs df) 32)
  have HT := Lib.hid (h.below hb0)
  have HK := Lib.hid (k.below hb0)
  have HNO := Lib.hid (And.intro (h.toSTab0.no (Nat.le_refl w.heap.size)) (fun e : ROwn g r w.heap.size => Nat.lt_irrefl _ (k.own_lt e).2))
  have q0 : (w.alloc (.cells (opCells 2 nn nm (.slice A3 la.length c3) rs df).toArray 32)).cell? ⟨w.heap.size, 0, none⟩ = some (.int .i64 2) := HBX.out.cell 0
  have q1 : (w.alloc (.cells (opCells 2 nn nm (.slice A3 la.length c3) rs df).toArray 32)).cell? ⟨w.heap.size, 1, none⟩ = some (.int .i64 nn) := HBX.out.cell 1
  have q2 : (w.alloc (.cells (opCells 2 nn nm (.slice A3 la.length c3) rs df).toArray 32)).cell? ⟨w.heap.size, 2, none⟩ = some (.string nm) := HBX.out.cell 2
  have q3 : (w.alloc (.cells (opCells 2 nn nm (.slice A3 la.length c3) rs df).toArray 32)).cell? ⟨w.heap.size, 3, none⟩ = some (.slice A3 la.length c3) := HBX.out.cell 3
  have q4 : (w.alloc (.cells (opCells 2 nn nm (.slice A3 la.length c3) rs df).toArray 32)).cell? ⟨w.heap.size, 4, none⟩ = some (.int .i64 rs) := HBX.out.cell 4
  have q5 : (w.alloc (.cells (opCells 2 nn nm (.slice A3 la.length c3) rs df).toArray 32)).cell? ⟨w.heap.size, 5, none⟩ = some (.bool df) := HBX.out.cell 5
  have HBW := Lib.hid (show B ≤ w.heap.size from Nat.le_trans h.gb (Nat.le_of_lt h.lt))
  clear h k
  go_enter Try.func18, Try.ntmps18
  go_wp2_with fail
  refine (push_sum HT.out HK.out 2 nn).mono ?_
  rintro e w1 ⟨v1, x', y', rfl, ht1, hk1, hst, hc1⟩
  have H1 := Lib.hid (And.intro ht1 (And.intro hk1 (And.intro hst hc1)))
  clear ht1 hk1 hst hc1
  go_wp2_with fail
  refine (rpush_sum H1.out.1 H1.out.2.1).mono ?_
  rintro e w2 ⟨v2, r', rfl, ht2, hk2, hc2⟩
  have HD := Lib.hid (show ∃ x' y' r', STab B w2 b x' y' ∧ RTab B w2 g r' ∧ StepR 2 nn w x y x' y' ∧ Ch (fun k => Own b x k ∨ Own b y k ∨ ROwn g r k) w w2 from
    ⟨x', y', r', ht2, hk2, stepW H1.out.2.2.1 (by simp), Ch.trans (Ch.ofBelow ((Below.refl w.heap.size w).alloc (Nat.le_refl _) _)) ((Ch.inl H1.out.2.2.2).trans (Ch.inr hc2))⟩)
  clear H1 ht2 hk2 hc2
  go_wp2_with fail
  go_ret
  exact ⟨⟨_, rfl⟩, HD.out⟩
/-- what is known of the world while the calls of both pops are pending, or behind them -/
structure CP (B : Nat) (w0 : World) (b g fb : Nat) (x y : Nm) (r : Rt) (nn : Int) (cs : List Value) (s : Array Bool) (w' : World) : Prop where
  bx : RowB w' fb 32 cs
  nx : ¬ (Own b x fb ∨ Own b y fb)
  nr : ¬ ROwn g r fb
  st : ∃ x' y' r', STab B w' b x' y' ∧ RTab B w' g r' ∧ (s.getD 3 true = false → x' = x ∧ y' = y) ∧ (s.getD 7 true = false → r' = r) ∧ StepR 3 nn w0 x y x' y'
  ch : Ch (fun k => Own b x k ∨ Own b y k ∨ ROwn g r k) w0 w'
theorem CP.set {B : Nat} {w0 : World} {b g fb : Nat} {x y : Nm} {r : Rt} {nn : Int} {cs : List Value} {s : Array Bool} {w' : World} (h : CP B w0 b g fb x y r nn cs s w') {i : Nat} (h3 : i ≠ 3) (h7 : i ≠ 7) : CP B w0 b g fb x y r nn cs (s.setIfInBounds i true) w' := by
  obtain ⟨x', y', r', p1, p2, p3, p4, p5⟩ := h.st
  exact ⟨h.bx, h.nx, h.nr, ⟨x', y', r', p1, p2, fun e => p3 (by rwa [getD_set_ne true h3] at e), fun e => p4 (by rwa [getD_set_ne true h7] at e), p5⟩, h.ch⟩
theorem CP.call3 {B : Nat} {w0 : World} {b g fb : Nat} {x y : Nm} {r : Rt} {nn : Int} {cs : List Value} {s : Array Bool} {w' : World} (h : CP B w0 b g fb x y r nn cs s w') (hun : s.getD 3 true = false) :
    Calls Try.prog 17 #[.pointer (some ⟨b, 0, none⟩), .int .i64 nn] w' fun e w'' => ∃ er : Int, e = .returned (.int .i64 er) ∧ CP B w0 b g fb x y r nn cs (s.setIfInBounds 3 true) w'' := by
  obtain ⟨x', y', r', p1, p2, p3, p4, p5⟩ := h.st
  obtain ⟨rfl, rfl⟩ := p3 hun
  refine (pop_sum p1 p2 nn).mono ?_
  rintro e w'' ⟨er, x2, y2, rfl, q1, q2, q3, q4⟩
  refine ⟨er, rfl, h.bx.kept q4 h.nx, h.nx, h.nr, ⟨x2, y2, r', q1, q2, fun e => ?_, fun e => p4 (by rwa [getD_set_ne true (by decide)] at e), stepW q3 h.ch.size⟩, h.ch.trans (Ch.inl q4)⟩
  rw [getD_set_true' hun] at e; cases e
theorem CP.call7 {B : Nat} {w0 : World} {b g fb : Nat} {x y : Nm} {r : Rt} {nn : Int} {cs : List Value} {s : Array Bool} {w' : World} (h : CP B w0 b g fb x y r nn cs s w') (hun : s.getD 7 true = false) :
    Calls Try.prog 36 #[.pointer (some ⟨g, 0, none⟩), .int .i64 nn] w' fun e w'' => ∃ er : Int, e = .returned (.int .i64 er) ∧ CP B w0 b g fb x y r nn cs (s.setIfInBounds 7 true) w'' := by
  obtain ⟨x', y', r', p1, p2, p3, p4, p5⟩ := h.st
  obtain rfl := p4 hun
  refine (rpop_sum p1 p2 nn).mono ?_
  rintro e w'' ⟨er, r2, rfl, q1, q2, q4⟩
  refine ⟨er, rfl, h.bx.kept q4 h.nr, h.nx, h.nr, ⟨x', y', r2, q1, q2, fun e => p3 (by rwa [getD_set_ne true (by decide)] at e), fun e => ?_, p5⟩, h.ch.trans (Ch.inr q4)⟩
  rw [getD_set_true' hun] at e; cases e
/-- the values of the operations of 't.Pop(n) == w.Pop(n)' -/
def ZD (b g fb : Nat) (nn : Int) : Nat → Value → Prop
  | 0, v => v = .pointer (some ⟨b, 0, none⟩)
  | 1, v => v = .pointer (some ⟨fb, 1, none⟩)
  | 2, v => v = .int .i64 nn
  | 4, v => v = .pointer (some ⟨g, 0, none⟩)
  | 5, v => v = .pointer (some ⟨fb, 1, none⟩)
  | 6, v => v = .int .i64 nn
  | _, v => ∃ er : Int, v = .int .i64 er
set_option maxRecDepth 100000 in
set_option maxHeartbeats 1000000 in
theorem do_three {B : Nat} {w : World} {b g : Nat} {x y : Nm} {r : Rt} (h : STab B w b x y) (k : RTab B w g r) (nn : Int) (nm : ByteArray) (A3 : Option Addr) (c3 : Nat) (la : List Int) (rs : Int) (df : Bool) :
    Calls Try.prog 18 #[.pointer (some ⟨b, 0, none⟩), .pointer (some ⟨g, 0, none⟩), .agg (opCells 3 nn nm (.slice A3 la.length c3) rs df).toArray] w (DoR B w b g x y r 3 nn) := by
  have hb0 := (Below.refl w.heap.size w).alloc (Nat.le_refl _) (.cells (opCells 3 nn nm (.slice A3 la.length c3) rs df).toArray 32)
  have HBX := Lib.hid (RowB.new w (opCells 3 nn nm (.slice A3 la.length c3) rs df) 32)
  have HT := Lib.hid (h.below hb0)
  have HK := Lib.hid (k.below hb0)
  have HNO := Lib.hid (And.intro (h.toSTab0.no (Nat.le_refl w.heap.size)) (fun e : ROwn g r w.heap.size => Nat.lt_irrefl _ (k.own_lt e).2))
  have q0 : (w.alloc (.cells (opCells 3 nn nm (.slice A3 la.length c3) rs df).toArray 32)).cell? ⟨w.heap.size, 0, none⟩ = some (.int .i64 3) := HBX.out.cell 0
  have q1 : (w.alloc (.cells (opCells 3 nn nm (.slice A3 la.length c3) rs df).toArray 32)).cell? ⟨w.heap.size, 1, none⟩ = some (.int .i64 nn) := HBX.out.cell 1
  have q2 : (w.alloc (.cells (opCells 3 nn nm (.slice A3 la.length c3) rs df).toArray 32)).cell? ⟨w.heap.size, 2, none⟩ = some (.string nm) := HBX.out.cell 2
  have q3 : (w.alloc (.cells (opCells 3 nn nm (.slice A3 la.length c3) rs df).toArray 32)).cell? ⟨w.heap.size, 3, none⟩ = some (.slice A3 la.length c3) := HBX.out.cell 3
  have q4 : (w.alloc (.cells (opCells 3 nn nm (.slice A3 la.length c3) rs df).toArray 32)).cell? ⟨w.heap.size, 4, none⟩ = some (.int .i64 rs) := HBX.out.cell 4
  have q5 : (w.alloc (.cells (opCells 3 nn nm (.slice A3 la.length c3) rs df).toArray 32)).cell? ⟨w.heap.size, 5, none⟩ = some (.bool df) := HBX.out.cell 5
  have HBW := Lib.hid (show B ≤ w.heap.size from Nat.le_trans h.gb (Nat.le_of_lt h.lt))
  clear h k
  obtain ⟨fb, hfb⟩ : ∃ fb, fb = w.heap.size := ⟨_, rfl⟩
  have HC0 := Lib.hid (show CP B w b g fb x y r nn (opCells 3 nn nm (.slice A3 la.length c3) rs df) (Array.replicate 10 false) { (w.alloc (.cells (opCells 3 nn nm (.slice A3 la.length c3) rs df).toArray 32)) with drawn := (w.alloc (.cells (opCells 3 nn nm (.slice A3 la.length c3) rs df).toArray 32)).drawn + 1 } from by
    subst hfb
    exact ⟨HBX.out, HNO.out.1, HNO.out.2, ⟨x, y, r, HT.out.below ⟨rfl, rfl, rfl, Nat.le_refl _, fun _ _ => rfl⟩, HK.out.below ⟨rfl, rfl, rfl, Nat.le_refl _, fun _ _ => rfl⟩, fun _ => ⟨rfl, rfl⟩, fun _ => rfl, .same⟩, Ch.drawn (Ch.ofBelow hb0)⟩)
  skip
  clear hb0 q1 q2 q3 q4 q5
  go_enter Try.func18, Try.ntmps18
  go_wp2_with fail
  rw [← hfb]
  replace hfb := Lib.hid hfb
  refine wp_region_flow4 8 (by kernel_rfl) (by kernel_rfl) ?_ (fun j _ v => ZD b g fb nn j v) (CP B w b g fb x y r nn (opCells 3 nn nm (.slice A3 la.length c3) rs df)) HC0.out ?_ ?_
  · intro i o' d hi ho hd
    have : i = 0 ∨ i = 1 ∨ i = 2 ∨ i = 3 ∨ i = 4 ∨ i = 5 ∨ i = 6 ∨ i = 7 := by omega
    rcases this with rfl | rfl | rfl | rfl | rfl | rfl | rfl | rfl <;> (simp at ho; subst ho; simp at hd; subst hd; simp)
  · intro i o' hi ho
    have : i = 0 ∨ i = 1 ∨ i = 2 ∨ i = 3 ∨ i = 4 ∨ i = 5 ∨ i = 6 ∨ i = 7 := by omega
    rcases this with rfl | rfl | rfl | rfl | rfl | rfl | rfl | rfl <;> (simp at ho; subst ho; intro s a w' hun hC hd hr; rw [if_pos (by rfl)])
    · have e0 : a.tmps.getD 0 undef = .pointer (some ⟨b, 0, none⟩) := hr 0 (free_of (by rfl))
      have e0' : a.tmps[0]?.getD undef = .pointer (some ⟨b, 0, none⟩) := by simpa using e0
      exact flow_val (v := .pointer (some ⟨b, 0, none⟩)) (by go_simp) ⟨rfl, hC.set (by decide) (by decide), fun _ _ _ h => h⟩
    · have e5 : a.tmps.getD 5 undef = .pointer (some ⟨fb, 0, none⟩) := hr 5 (free_of (by rfl))
      have e5' : a.tmps[5]?.getD undef = .pointer (some ⟨fb, 0, none⟩) := by simpa using e5
      exact flow_val (v := .pointer (some ⟨fb, 1, none⟩)) (by go_simp) ⟨rfl, hC.set (by decide) (by decide), fun _ _ _ h => h⟩
    · have e92 : a.tmps.getD 92 undef = .pointer (some ⟨fb, 1, none⟩) := hd ⟨1, .data⟩ (by simp) rfl _ _ rfl rfl
      have e92' : a.tmps[92]?.getD undef = .pointer (some ⟨fb, 1, none⟩) := by simpa using e92
      have c1 : w'.cell? ⟨fb, 1, none⟩ = some (.int .i64 nn) := hC.bx.cell 1
      exact flow_val (v := .int .i64 nn) (by go_simp) ⟨rfl, hC.set (by decide) (by decide), fun _ _ _ h => h⟩
    · have e91 : a.tmps.getD 91 undef = .pointer (some ⟨b, 0, none⟩) := hd ⟨0, .data⟩ (by simp) rfl _ _ rfl rfl
      have e91' : a.tmps[91]?.getD undef = .pointer (some ⟨b, 0, none⟩) := by simpa using e91
      have e93 : a.tmps.getD 93 undef = .int .i64 nn := hd ⟨2, .data⟩ (by simp) rfl _ _ rfl rfl
      have e93' : a.tmps[93]?.getD undef = .int .i64 nn := by simpa using e93
      refine flow_call (f := 17) (args := #[.pointer (some ⟨b, 0, none⟩), .int .i64 nn]) (by go_simp) ?_
      exact (hC.call3 hun).mono fun e w'' ⟨er, he, hq⟩ => ⟨_, he, ⟨er, rfl⟩, hq, fun _ _ _ h => h⟩
    · have e1 : a.tmps.getD 1 undef = .pointer (some ⟨g, 0, none⟩) := hr 1 (free_of (by rfl))
      have e1' : a.tmps[1]?.getD undef = .pointer (some ⟨g, 0, none⟩) := by simpa using e1
      exact flow_val (v := .pointer (some ⟨g, 0, none⟩)) (by go_simp) ⟨rfl, hC.set (by decide) (by decide), fun _ _ _ h => h⟩
    · have e5 : a.tmps.getD 5 undef = .pointer (some ⟨fb, 0, none⟩) := hr 5 (free_of (by rfl))
      have e5' : a.tmps[5]?.getD undef = .pointer (some ⟨fb, 0, none⟩) := by simpa using e5
      exact flow_val (v := .pointer (some ⟨fb, 1, none⟩)) (by go_simp) ⟨rfl, hC.set (by decide) (by decide), fun _ _ _ h => h⟩
    · have e96 : a.tmps.getD 96 undef = .pointer (some ⟨fb, 1, none⟩) := hd ⟨5, .data⟩ (by simp) rfl _ _ rfl rfl
      have e96' : a.tmps[96]?.getD undef = .pointer (some ⟨fb, 1, none⟩) := by simpa using e96
      have c1 : w'.cell? ⟨fb, 1, none⟩ = some (.int .i64 nn) := hC.bx.cell 1
      exact flow_val (v := .int .i64 nn) (by go_simp) ⟨rfl, hC.set (by decide) (by decide), fun _ _ _ h => h⟩
    · have e95 : a.tmps.getD 95 undef = .pointer (some ⟨g, 0, none⟩) := hd ⟨4, .data⟩ (by simp) rfl _ _ rfl rfl
      have e95' : a.tmps[95]?.getD undef = .pointer (some ⟨g, 0, none⟩) := by simpa using e95
      have e97 : a.tmps.getD 97 undef = .int .i64 nn := hd ⟨6, .data⟩ (by simp) rfl _ _ rfl rfl
      have e97' : a.tmps[97]?.getD undef = .int .i64 nn := by simpa using e97
      refine flow_call (f := 36) (args := #[.pointer (some ⟨g, 0, none⟩), .int .i64 nn]) (by go_simp) ?_
      exact (hC.call7 hun).mono fun e w'' ⟨er, he, hq⟩ => ⟨_, he, ⟨er, rfl⟩, hq, fun _ _ _ h => h⟩
  · intro vs' w7 hC7 hZ
    obtain ⟨v1, v3⟩ : ∃ er : Int, vs' 3 = .int .i64 er := hZ 3 _ _ (by omega) rfl rfl
    obtain ⟨v2, v7⟩ : ∃ er : Int, vs' 7 = .int .i64 er := hZ 7 _ _ (by omega) rfl rfl
    have HD := Lib.hid (show ∃ x' y' r', STab B w7 b x' y' ∧ RTab B w7 g r' ∧ StepR 3 nn w x y x' y' ∧ Ch (fun k => Own b x k ∨ Own b y k ∨ ROwn g r k) w w7 from by
      obtain ⟨x', y', r', p1, p2, _, _, p5⟩ := hC7.st
      exact ⟨x', y', r', p1, p2, p5, hC7.ch⟩)
    clear hZ hC7 HC0
    simp only [List.drop_succ_cons, List.drop_zero, List.take_succ_cons, List.take_zero, putAll, v3, v7]
    clear v3 v7
    go_wp2
    go_ret
    exact ⟨⟨_, rfl⟩, HD.out⟩
set_option maxRecDepth 100000 in
set_option maxHeartbeats 2000000 in
theorem do_one {B : Nat} {w : World} {b g : Nat} {x y : Nm} {r : Rt} (h : STab B w b x y) (k : RTab B w g r) (nn : Int) (nm : ByteArray) (A3 : Option Addr) (c3 : Nat) (la : List Int) (rs : Int) (df : Bool) (hs : nm.size ≤ maxLen) (hl : la.length ≤ 40) (hI : ∀ z ∈ la, I64 z) (hrs : I64 rs) (hm : OpMem B w A3 c3 la) (hmb : ∀ ad k, A3 = some ad → k < la.length → (ad.add k).block < B) :
    Calls Try.prog 18 #[.pointer (some ⟨b, 0, none⟩), .pointer (some ⟨g, 0, none⟩), .agg (opCells 1 nn nm (.slice A3 la.length c3) rs df).toArray] w (DoR B w b g x y r 1 nn) := by
  have hb0 := (Below.refl w.heap.size w).alloc (Nat.le_refl _) (.cells (opCells 1 nn nm (.slice A3 la.length c3) rs df).toArray 32)
  have HBX := Lib.hid (RowB.new w (opCells 1 nn nm (.slice A3 la.length c3) rs df) 32)
  have HT := Lib.hid (h.below hb0)
  have HK := Lib.hid (k.below hb0)
  have HNO := Lib.hid (And.intro (h.toSTab0.no (Nat.le_refl w.heap.size)) (fun e : ROwn g r w.heap.size => Nat.lt_irrefl _ (k.own_lt e).2))
  have q0 : (w.alloc (.cells (opCells 1 nn nm (.slice A3 la.length c3) rs df).toArray 32)).cell? ⟨w.heap.size, 0, none⟩ = some (.int .i64 1) := HBX.out.cell 0
  have q1 : (w.alloc (.cells (opCells 1 nn nm (.slice A3 la.length c3) rs df).toArray 32)).cell? ⟨w.heap.size, 1, none⟩ = some (.int .i64 nn) := HBX.out.cell 1
  have q2 : (w.alloc (.cells (opCells 1 nn nm (.slice A3 la.length c3) rs df).toArray 32)).cell? ⟨w.heap.size, 2, none⟩ = some (.string nm) := HBX.out.cell 2
  have q3 : (w.alloc (.cells (opCells 1 nn nm (.slice A3 la.length c3) rs df).toArray 32)).cell? ⟨w.heap.size, 3, none⟩ = some (.slice A3 la.length c3) := HBX.out.cell 3
  have q4 : (w.alloc (.cells (opCells 1 nn nm (.slice A3 la.length c3) rs df).toArray 32)).cell? ⟨w.heap.size, 4, none⟩ = some (.int .i64 rs) := HBX.out.cell 4
  have q5 : (w.alloc (.cells (opCells 1 nn nm (.slice A3 la.length c3) rs df).toArray 32)).cell? ⟨w.heap.size, 5, none⟩ = some (.bool df) := HBX.out.cell 5
  have HBW := Lib.hid (show B ≤ w.heap.size from Nat.le_trans h.gb (Nat.le_of_lt h.lt))
  clear h k
  have HC := Lib.hid (show ∀ w', Below B w w' → Calls Try.prog 31 #[.agg #[.string nm, .slice A3 la.length c3, .int .i64 rs, .bool df]] w' fun e w'' =>
      ∃ (za : Option Addr) (zb : Nat × Nat), e = .returned (.agg #[.string nm, .slice za zb.1 zb.2, .int .i64 rs, .bool df]) ∧ Below w'.heap.size w' w'' ∧ w''.ownsRow w'.heap.size 27 1 (.slice za zb.1 zb.2) la.length (la.map (Value.int .i64)) from
    fun w' hb => copied_any w' nm A3 c3 la rs df hl hm.le (hm.args w' hb))
  have HM := Lib.hid (And.intro hm hmb)
  have HI := Lib.hid hI
  clear hm hmb hI
  go_enter Try.func18, Try.ntmps18
  go_wp2_with fail
  refine (HC.out _ (hb0.mono HBW.out)).mono ?_
  rintro e w1 ⟨za, zb, rfl, hb1, ho1⟩
  have hlen : zb.1 = la.length := by
    rcases ho1.2 with ⟨h, h0⟩ | ⟨g1, c1, cu, h, _⟩
    · simp at h; omega
    · simp at h; exact h.2.1
  obtain ⟨zn, zc⟩ := zb
  simp only at hlen ho1
  subst hlen
  have hbw1 : Below w.heap.size w w1 := hb0.trans (hb1.mono (by simp))
  have hbx1 := HBX.out.kept (S := fun _ => False) (Ch.ofBelow hb1) (fun e => e)
  have hx2 := RowB.new w1 (Fd.cells ⟨nm, .slice za la.length zc, rs, df⟩) 30
  have hb12 : Below w1.heap.size w1 (w1.alloc (.cells (Fd.cells ⟨nm, .slice za la.length zc, rs, df⟩).toArray 30)) := (Below.refl _ w1).alloc (Nat.le_refl _) _
  have hno1 : ¬ (Own b x w1.heap.size ∨ Own b y w1.heap.size) := (HT.out.below hb1).toSTab0.no (Nat.le_refl _)
  have hnoz : ∀ q, (Value.slice za la.length zc).ownBlock = some q → ¬ (Own b x q ∨ Own b y q) ∧ w.heap.size ≤ q := fun q hq => ⟨HT.out.toSTab0.no (ho1.lt q hq).1, by have := (ho1.lt q hq).1; simp at this; omega⟩
  have H1 := Lib.hid (And.intro ((HT.out.below hb1).below hb12) (And.intro ((HK.out.below hb1).below hb12) (And.intro (ownsRow_ch (S := fun _ => False) ho1 (Ch.ofBelow hb12) (fun _ _ e => e)) (And.intro (hbw1.trans (hb12.mono hbw1.size)) (hbx1.kept (S := fun _ => False) (Ch.ofBelow hb12) (fun e => e))))))
  have HX2 := Lib.hid (And.intro hx2 (And.intro hno1 hnoz))
  clear q0 q1 q2 q3 q4 q5 hb1 ho1 hbw1 hbx1 hb0 hx2 hb12 hno1 hnoz
  go_wp2_with fail
  refine (declF_sum H1.out.1 H1.out.2.1 1 nn ⟨nm, .slice za la.length zc, rs, df⟩ hs hrs la hl HI.out H1.out.2.2.1).mono ?_
  rintro e w3 ⟨v1, er1, y', rfl, ht3, hk3, hst, hc3⟩
  have hbox3 := H1.out.2.2.2.2.kept hc3 HNO.out.1
  have hin3 := HX2.out.1.kept hc3 HX2.out.2.1
  have hz3 := ownsRow_ch H1.out.2.2.1 hc3 (fun q hq => (HX2.out.2.2 q hq).1)
  have hlow3 : Below B w w3 := (H1.out.2.2.2.1.mono HBW.out).trans (hc3.below (Nat.le_trans HBW.out H1.out.2.2.2.1.size) (fun k hk => own_ge H1.out.1.toSTab0 hk))
  have hch3 : Ch (fun q => Own b x q ∨ Own b y q) w w3 := Ch.trans (Ch.ofBelow H1.out.2.2.2.1) hc3
  have hst3 := stepW hst H1.out.2.2.2.1.size
  have hnoz3 : ∀ q, (Value.slice za la.length zc).ownBlock = some q → w.heap.size ≤ q := fun q hq => (HX2.out.2.2 q hq).2
  have hib : w.heap.size ≤ w1.heap.size := by have := H1.out.2.2.2.1.size; simp at this; have h2 := H1.out.2.2.2.2.lt; simp at h2; omega
  generalize hib' : w1.heap.size = ib at *
  have H3 := Lib.hid (And.intro ht3 (And.intro hk3 (And.intro hin3 (And.intro hz3 (And.intro hlow3 (And.intro hch3 (And.intro hst3 hnoz3)))))))
  have c2 : w3.cell? ⟨w.heap.size, 2, none⟩ = some (.string nm) := hbox3.cell 2
  have c3' : w3.cell? ⟨w.heap.size, 3, none⟩ = some (.slice A3 la.length c3) := hbox3.cell 3
  have c4 : w3.cell? ⟨w.heap.size, 4, none⟩ = some (.int .i64 rs) := hbox3.cell 4
  have c5 : w3.cell? ⟨w.heap.size, 5, none⟩ = some (.bool df) := hbox3.cell 5
  clear H1 HX2 hib' HT HK HBX hbox3 hin3 hz3 hlow3 hch3 hst3 hnoz3 ht3 hk3 hst hc3
  go_wp2_with fail
  refine (rdeclF_sum H3.out.1 H3.out.2.1 nm A3 c3 la rs df hl HI.out hrs ((HM.out.1.later H3.out.2.2.2.2.1).rd HM.out.2)
    (fun w' hb => (HC.out w' (H3.out.2.2.2.2.1.trans hb)).mono fun e w'' ⟨za, zb, h1, h2, _⟩ => ⟨za, zb, h1, h2⟩)).mono ?_
  rintro e w4 ⟨v2, er2, r', rfl, ht4, hk4, hc4⟩
  have hin4 := H3.out.2.2.1.kept hc4 (row_apart H3.out.2.1 H3.out.2.2.1 (by decide) (by decide))
  have hz4 := ownsRow_ch H3.out.2.2.2.1 hc4 (fun q hq => args_apart H3.out.2.1 H3.out.2.2.2.1 q hq)
  have hch4 : Ch (fun k => Own b x k ∨ Own b y k ∨ ROwn g r k) w w4 := (Ch.inl H3.out.2.2.2.2.2.1).trans (Ch.inr hc4)
  have HL0 := Lib.hid (show STab B w4 b x y' ∧ RTab B w4 g r' ∧ RowB w4 ib 30 (Fd.cells ⟨nm, .slice za la.length zc, rs, df⟩) ∧ (∃ l2 : List Int, l2.length = la.length ∧ w4.ownsRow B 27 1 (.slice za la.length zc) l2.length (l2.map (Value.int .i64))) ∧ Ch (fun k => Own b x k ∨ Own b y k ∨ ROwn g r k) w w4 from
    ⟨ht4, hk4, hin4, ⟨la, rfl, own_lower hz4 (by have := HBW.out; simp; omega)⟩, hch4⟩)
  have HST := Lib.hid (And.intro H3.out.2.2.2.2.2.2.1 H3.out.2.2.2.2.2.2.2)
  clear H3 ht4 hk4 hc4 hin4 hz4 hch4 c2 c3' c4 c5 HC HM HI
  go_wp2_with fail
  go_loopw [16] (fun vi wr => ∃ k : Nat, vi = .int .i64 k ∧ k ≤ la.length ∧ Hid (STab B wr b x y' ∧ RTab B wr g r' ∧ RowB wr ib 30 (Fd.cells ⟨nm, .slice za la.length zc, rs, df⟩) ∧ (∃ l2 : List Int, l2.length = la.length ∧ wr.ownsRow B 27 1 (.slice za la.length zc) l2.length (l2.map (Value.int .i64))) ∧ Ch (fun k => Own b x k ∨ Own b y k ∨ ROwn g r k) w wr)) (fun vi _ => la.length - (intOf vi).toNat)
  case atStart => exact ⟨0, rfl, by omega, HL0⟩
  case round =>
    obtain ⟨k, rfl, hk, hh⟩ := hrel
    obtain ⟨p1, p2, p3, ⟨l2, hl2, p4⟩, p5⟩ := hh.out
    have c1 : wr.cell? ⟨ib, 1, none⟩ = some (.slice za la.length zc) := p3.cell 1
    have hibl := p3.lt
    by_cases hkl : k < la.length
    case pos =>
      have hkl' : (k : Int) < la.length := by omega
      obtain ⟨gz, rfl⟩ : ∃ gz, za = some ⟨gz, 0, none⟩ := by
        rcases p4.2 with ⟨_, h⟩ | ⟨gz, cap', cur, h1, _⟩
        · omega
        · simp at h1; exact ⟨gz, h1.1⟩
      have cz : wr.cell? ⟨gz, k, none⟩ = some (.int .i64 (l2.getD k 0)) := by
        have p4' := p4
        rw [hl2] at p4'
        rw [p4'.cellAt k (by omega)]
        simp [show k < l2.length by omega]
      have p4' := p4
      rw [hl2] at p4'
      have fz : wr.frozen? ⟨gz, k, none⟩ = false := p4'.frozenAt k
      have hgz := (p4.lt gz rfl).2
      have hgw : w.heap.size ≤ gz := HST.out.2 gz rfl
      have hne : ib ≠ gz := fun e => own_ne_row p4 p3 (by decide) (by rw [e]; rfl)
      have HX := Lib.hid (show STab B (wr.setCell ⟨gz, k, none⟩ (.int .i64 55)) b x y' ∧ RTab B (wr.setCell ⟨gz, k, none⟩ (.int .i64 55)) g r' ∧ RowB (wr.setCell ⟨gz, k, none⟩ (.int .i64 55)) ib 30 (Fd.cells ⟨nm, .slice (some ⟨gz, 0, none⟩) la.length zc, rs, df⟩) ∧
          (∃ l2 : List Int, l2.length = la.length ∧ (wr.setCell ⟨gz, k, none⟩ (.int .i64 55)).ownsRow B 27 1 (.slice (some ⟨gz, 0, none⟩) la.length zc) l2.length (l2.map (Value.int .i64))) ∧ Ch (fun k => Own b x k ∨ Own b y k ∨ ROwn g r k) w (wr.setCell ⟨gz, k, none⟩ (.int .i64 55)) from
        ⟨p1.store p4 rfl k 55, p2.store p4 rfl k _, p3.kept ((Ch.refl (fun q => q = gz) wr).setC gz k rfl _) hne, by
          obtain ⟨l3, q1, q2⟩ := own_storeI p4 p4 rfl k 55
          exact ⟨l3, by omega, q2⟩, p5.store_new hgw k _⟩)
      clear p1 p2 p3 p4 p4' p5 hh HL0
      go_wp2_with fail
      go_roundw
      case rel => exact ⟨k + 1, by go_num, by omega, HX⟩
      case measure => simp [intOf]; omega
    case neg =>
    have hkl' : ¬ (k : Int) < la.length := by omega
    have HD := Lib.hid (show ∃ x' y' r', STab B wr b x' y' ∧ RTab B wr g r' ∧ StepR 1 nn w x y x' y' ∧ Ch (fun k => Own b x k ∨ Own b y k ∨ ROwn g r k) w wr from ⟨x, y', r', p1, p2, HST.out.1, p5⟩)
    clear p1 p2 p3 p4 p5 hh HL0 HST
    by_cases hv : v1 = v2
    · by_cases he : er1 = er2
      · subst hv; subst he
        skip
        go_wp2_with fail
        go_ret
        exact ⟨⟨_, rfl⟩, HD.out⟩
      · subst hv; have hne : (er1 == er2) = false := by simpa using he
        clear he
        go_wp2_with fail
        go_ret
        exact ⟨⟨_, rfl⟩, HD.out⟩
    · have hnv : (v1 == v2) = false := by simpa using hv
      clear hv
      go_wp2_with fail
      go_ret
      exact ⟨⟨_, rfl⟩, HD.out⟩
end Go.Proofs.Ytggbnjdbbomjoaa
