/- DigitsInts: the walk. -/
import Derived.Test.YtggbnjdbbomjoaaDoorLawA
import Derived.Test.YtggbnjdbbomjoaaDoorLawB
import Derived.Test.YtggbnjdbbomjoaaDoorFlow2
namespace Go.Proofs.YtggbnjdbbomjoaaDoor
open Go.RowKit
theorem ofE {n h l : Int} (i : I64 n) (e1 : normHi n = h) (e2 : normLo n = l) (w : World) : Calls Tryd.prog 21 #[.int .i64 n] w fun e w' => e = .returned (two h l) ∧ Below w.heap.size w w' := by
  subst e1 e2; exact of_any n i w
theorem normalE {a b v h l : Int} (ia : I64 a) (ib : I64 b) (e : val a b = v) (e1 : normHi v = h) (e2 : normLo v = l) (w : World) : Calls Tryd.prog 23 #[two a b] w fun e w' => e = .returned (two h l) ∧ Below w.heap.size w w' := by
  subst e e1 e2; exact normal_any a b ia ib w
theorem plusE {a b c d u v h l : Int} (ia : I64 a) (ib : I64 b) (ic : I64 c) (id : I64 d) (e : val a b = u) (e' : val c d = v) (e1 : normHi (u + v) = h) (e2 : normLo (u + v) = l) (w : World) : Calls Tryd.prog 24 #[two a b, two c d] w fun e w' => e = .returned (two h l) ∧ Below w.heap.size w w' := by
  subst e e' e1 e2; exact plus_any a b c d ia ib ic id w
theorem minusE {a b c d u v h l : Int} (ia : I64 a) (ib : I64 b) (ic : I64 c) (id : I64 d) (e : val a b = u) (e' : val c d = v) (e1 : normHi (u - v) = h) (e2 : normLo (u - v) = l) (w : World) : Calls Tryd.prog 25 #[two a b, two c d] w fun e w' => e = .returned (two h l) ∧ Below w.heap.size w w' := by
  subst e e' e1 e2; exact minus_any a b c d ia ib ic id w
theorem writeE {a b v : Int} {s : ByteArray} (ia : I64 a) (ib : I64 b) (e : val a b = v) (e1 : (⟨(Lib.itoa v).toArray⟩ : ByteArray) = s) (w : World) : Calls Tryd.prog 28 #[two a b] w fun e w' => e = .returned (.string s) ∧ Below w.heap.size w w' := by
  subst e e1; exact write_any a b ia ib w
theorem bd_val {a b v : Int} (ia : I64 a) (ib : I64 b) (e : val a b = v) : -42535295865117307942145297865825812480 ≤ v ∧ v ≤ 42535295865117307942145297865825812480 := by
  obtain ⟨_, _⟩ := ia; obtain ⟨_, _⟩ := ib; subst e; unfold val M62; omega
def ZP (a0 a1 b0 b1 : Int) (x y : Lg) (B : Nat) : Nat → World → Value → Prop
  | 0, _, v => v = two a0 a1
  | 1, _, v => v = lgV x
  | 2, _, v => v = two b0 b1
  | 3, _, v => v = lgV y
  | 4, w, v => ∃ b, v = .pointer (some ⟨b, 0, none⟩) ∧ B ≤ b ∧ b < w.heap.size ∧ CellsW w b (lgL lg0)
  | 5, w, v => ∃ b, v = .pointer (some ⟨b, 0, none⟩) ∧ B ≤ b ∧ b < w.heap.size ∧ CellsW w b (lgL lg0)
  | _, _, _ => False
def DP (_ _ : Nat) (v u : Value) : Prop := ∀ b c, v = .pointer (some ⟨b, 0, none⟩) → u = .pointer (some ⟨c, 0, none⟩) → b ≠ c
theorem ZP.on {a0 a1 b0 b1 : Int} {x y : Lg} {B : Nat} {w w' : World} (hb : Below w.heap.size w w') : ∀ j u, ZP a0 a1 b0 b1 x y B j w u → ZP a0 a1 b0 b1 x y B j w' u
  | 0, _, h => h
  | 1, _, h => h
  | 2, _, h => h
  | 3, _, h => h
  | 4, _, ⟨b, h1, h2, h3, h4⟩ => ⟨b, h1, h2, Nat.lt_of_lt_of_le h3 hb.size, h4.below hb h3⟩
  | 5, _, ⟨b, h1, h2, h3, h4⟩ => ⟨b, h1, h2, Nat.lt_of_lt_of_le h3 hb.size, h4.below hb h3⟩
  | _ + 6, _, h => h
theorem ZP.ptr {a0 a1 b0 b1 : Int} {x y : Lg} {B : Nat} {w : World} {c : Nat} : ∀ j, ZP a0 a1 b0 b1 x y B j w (.pointer (some ⟨c, 0, none⟩)) → c < w.heap.size
  | 0, h => by cases h
  | 1, h => by cases h
  | 2, h => by cases h
  | 3, h => by cases h
  | 4, ⟨b, h1, h2, h3, h4⟩ => by cases h1; exact h3
  | 5, ⟨b, h1, h2, h3, h4⟩ => by cases h1; exact h3
  | _ + 6, h => h.elim
theorem dp_agg {i j : Nat} {l : Array Value} {u : Value} : DP i j (.agg l) u := fun _ _ h => by cases h
set_option maxRecDepth 100000 in
set_option maxHeartbeats 2000000 in
theorem digitsInts_any (a0 a1 b0 b1 n : Int) (ha0 : I64 a0) (ha1 : I64 a1) (hb0 : I64 b0) (hb1 : I64 b1) (hn : I64 n) (w : World) (V : Vars w) :
    Calls Tryd.prog 6 #[two a0 a1, two b0 b1, .int .i64 n] w fun e w' => e = .returned (.bool true) ∧ Below w.heap.size w w' := by
  obtain ⟨A, hA⟩ : ∃ v, val a0 a1 = v := ⟨_, rfl⟩
  obtain ⟨B, hB⟩ : ∃ v, val b0 b1 = v := ⟨_, rfl⟩
  obtain ⟨x, hx⟩ : ∃ v, numL a0 a1 = v := ⟨_, rfl⟩
  obtain ⟨y, hy⟩ : ∃ v, numL b0 b1 = v := ⟨_, rfl⟩
  obtain ⟨z, hz⟩ : ∃ v, ofL n 0 = v := ⟨_, rfl⟩
  obtain ⟨ny, hny⟩ : ∃ v, negL y = v := ⟨_, rfl⟩
  obtain ⟨p, hp⟩ : ∃ v, addL x y = v := ⟨_, rfl⟩
  obtain ⟨q, hq⟩ : ∃ v, addL x ny = v := ⟨_, rfl⟩
  obtain ⟨b1', b2'⟩ := bd_val ha0 ha1 hA
  obtain ⟨b3', b4'⟩ := bd_val hb0 hb1 hB
  have bA : Bd A := by unfold Bd; omega
  have bB : Bd B := by unfold Bd; omega
  have bS : Bd (A + B) := by unfold Bd; omega
  have bD : Bd (A - B) := by unfold Bd; omega
  have LX : Lw A x := by rw [← hx]; exact lw_num a0 a1 ha0 ha1 hA
  have LY : Lw B y := by rw [← hy]; exact lw_num b0 b1 hb0 hb1 hB
  have LZ : Lw n z := by rw [← hz]; exact lw_of n hn
  have LN : Lw (-B) ny := by rw [← hny]; exact LY.neg
  have LS : Lw (A + B) p := by rw [← hp]; exact LX.add LY bA bB rfl
  have LD : Lw (A - B) q := by rw [← hq]; exact LX.add LN bA bB.neg (by omega)
  have RA : Rv A a0 a1 := ⟨ha0, ha1, hA⟩
  have RB : Rv B b0 b1 := ⟨hb0, hb1, hB⟩
  have HA0 := Lib.hid ha0; have HA1 := Lib.hid ha1; have HB0 := Lib.hid hb0; have HB1 := Lib.hid hb1; have HN := Lib.hid hn
  have HVA := Lib.hid hA; have HVB := Lib.hid hB; have HX := Lib.hid hx; have HY := Lib.hid hy; have HZ := Lib.hid hz; have HNY := Lib.hid hny; have HS := Lib.hid hp; have HD := Lib.hid hq
  obtain ⟨n1, N1⟩ : ∃ v, Hid (normHi n = v) := ⟨_, Lib.hid rfl⟩
  obtain ⟨n2, N2⟩ : ∃ v, Hid (normLo n = v) := ⟨_, Lib.hid rfl⟩
  obtain ⟨a1', A1⟩ : ∃ v, Hid (normHi A = v) := ⟨_, Lib.hid rfl⟩
  obtain ⟨a2', A2⟩ : ∃ v, Hid (normLo A = v) := ⟨_, Lib.hid rfl⟩
  obtain ⟨s1, S1⟩ : ∃ v, Hid (normHi (A + B) = v) := ⟨_, Lib.hid rfl⟩
  obtain ⟨s2, S2⟩ : ∃ v, Hid (normLo (A + B) = v) := ⟨_, Lib.hid rfl⟩
  obtain ⟨d1, D1⟩ : ∃ v, Hid (normHi (A - B) = v) := ⟨_, Lib.hid rfl⟩
  obtain ⟨d2, D2⟩ : ∃ v, Hid (normLo (A - B) = v) := ⟨_, Lib.hid rfl⟩
  obtain ⟨t, HT⟩ : ∃ v, Hid (decide (A < B) = v) := ⟨_, Lib.hid rfl⟩
  obtain ⟨ta, HTA⟩ : ∃ v : ByteArray, Hid (⟨(Lib.itoa A).toArray⟩ = v) := ⟨_, Lib.hid rfl⟩
  clear ha0 ha1 hb0 hb1 hn hA hB hx hy hz hny hp hq b1' b2' b3' b4'
  go_enter Tryd.func6, Tryd.ntmps6
  go_wp2
  obtain ⟨X, hX⟩ : ∃ X, X = (w.alloc (Obj.cells #[Value.int IntKind.i64 a0, Value.int IntKind.i64 a1] 41)).alloc (Obj.cells #[Value.int IntKind.i64 b0, Value.int IntKind.i64 b1] 41) := ⟨_, rfl⟩
  have hbX : Below w.heap.size w X := by rw [hX]; (repeat (first | (with_reducible exact Below.refl _ _) | ((with_reducible refine Below.alloc ?_ ?_ _); rotate_left; focus (first | (simp; done) | (simp; omega))) | ((with_reducible refine Below.setCell ?_ ?_ _); rotate_left; focus (first | (simp; done) | (simp; omega))) | (with_reducible refine Below.drew ?_) | (with_reducible refine Below.drewN' ?_ _)))
  have VX := V.on hbX (Nat.le_refl _)
  have ya : CellsW X w.heap.size [.int .i64 a0, .int .i64 a1] := by rw [hX]; exact (CellsW.new w [.int .i64 a0, .int .i64 a1] 41).alloc (by simp) _
  have yb : CellsW X (w.heap.size + 1) [.int .i64 b0, .int .i64 b1] := by
    rw [hX]
    have := CellsW.new (w.alloc (Obj.cells #[Value.int IntKind.i64 a0, Value.int IntKind.i64 a1] 41)) [.int .i64 b0, .int .i64 b1] 41
    simpa using this
  have zX : w.heap.size + 1 < X.heap.size := by rw [hX]; simp
  rw [← hX]
  clear hX
  refine wp_region_flow2 6 (by kernel_rfl) (by kernel_rfl) ?_ (ZP a0 a1 b0 b1 x y X.heap.size) DP (fun w' => Below X.heap.size X w') ⟨rfl, rfl, rfl, Nat.le_refl _, fun _ _ => rfl⟩ ?_ ?_
  · intro i o d hi ho hd
    have : i = 0 ∨ i = 1 ∨ i = 2 ∨ i = 3 ∨ i = 4 ∨ i = 5 := by omega
    rcases this with rfl | rfl | rfl | rfl | rfl | rfl <;> (simp at ho; subst ho; simp at hd; subst hd; simp)
  · intro i o hi ho
    have : i = 0 ∨ i = 1 ∨ i = 2 ∨ i = 3 ∨ i = 4 ∨ i = 5 := by omega
    rcases this with rfl | rfl | rfl | rfl | rfl | rfl <;> (simp at ho; subst ho; intro a w' hC hd hr; rw [if_pos (by rfl)])
    · exact flow_val (run_load_cells 41 (.tmp 3) rfl w.heap.size 0 (hr 3 (free_of (by rfl))) [.int .i64 a0, .int .i64 a1] _ Tryd.underlying41 rfl (by kernel_rfl) (ya.below hC (by omega)).cellsAt) ⟨rfl, hC, fun _ _ h => ⟨h, dp_agg⟩⟩
    · have e : a.tmps.getD 9 undef = two a0 a1 := hd ⟨0, .data⟩ (by simp) rfl _ _ rfl rfl
      have e' : a.tmps[9]?.getD undef = two a0 a1 := by simpa using e
      refine flow_call (f := 20) (args := #[two a0 a1]) (by go_simp) ?_
      exact (numV HA0.out HA1.out HX.out w').mono fun e w'' ⟨h1, h2⟩ => ⟨_, h1, rfl, hC.trans (h2.mono hC.size), fun j u h => ⟨ZP.on h2 j u h, dp_agg⟩⟩
    · exact flow_val (run_load_cells 41 (.tmp 4) rfl (w.heap.size + 1) 0 (hr 4 (free_of (by rfl))) [.int .i64 b0, .int .i64 b1] _ Tryd.underlying41 rfl (by kernel_rfl) (yb.below hC (by omega)).cellsAt) ⟨rfl, hC, fun _ _ h => ⟨h, dp_agg⟩⟩
    · have e : a.tmps.getD 11 undef = two b0 b1 := hd ⟨2, .data⟩ (by simp) rfl _ _ rfl rfl
      have e' : a.tmps[11]?.getD undef = two b0 b1 := by simpa using e
      refine flow_call (f := 20) (args := #[two b0 b1]) (by go_simp) ?_
      exact (numV HB0.out HB1.out HY.out w').mono fun e w'' ⟨h1, h2⟩ => ⟨_, h1, rfl, hC.trans (h2.mono hC.size), fun j u h => ⟨ZP.on h2 j u h, dp_agg⟩⟩
    all_goals
      refine flow_new (v := .pointer (some ⟨w'.heap.size, 0, none⟩)) (w' := w'.alloc (.cells (lgC lg0) 30)) (by go_simp; rfl) ?_
      have hb : Below w'.heap.size w' (w'.alloc (.cells (lgC lg0) 30)) := by (repeat (first | (with_reducible exact Below.refl _ _) | ((with_reducible refine Below.alloc ?_ ?_ _); rotate_left; focus (first | (simp; done) | (simp; omega))) | ((with_reducible refine Below.setCell ?_ ?_ _); rotate_left; focus (first | (simp; done) | (simp; omega))) | (with_reducible refine Below.drew ?_) | (with_reducible refine Below.drewN' ?_ _)))
      refine ⟨⟨_, rfl, hC.size, by simp, CellsW.new w' (lgL lg0) 30⟩, hC.trans (hb.mono hC.size), fun j u h => ⟨ZP.on hb j u h, ?_⟩⟩
      intro b c h1 h2
      cases h1
      subst h2
      exact Nat.ne_of_gt (ZP.ptr j h)
  · intro vs w3 hb3 hZ hD
    have v1 : vs 1 = lgV x := hZ 1 _ _ (by omega) rfl rfl
    have v3 : vs 3 = lgV y := hZ 3 _ _ (by omega) rfl rfl
    obtain ⟨c, v4, h1, h2, h3⟩ : ∃ c, vs 4 = .pointer (some ⟨c, 0, none⟩) ∧ X.heap.size ≤ c ∧ c < w3.heap.size ∧ CellsW w3 c (lgL lg0) := hZ 4 _ _ (by omega) rfl rfl
    obtain ⟨d, v5, g1, g2, g3⟩ : ∃ c, vs 5 = .pointer (some ⟨c, 0, none⟩) ∧ X.heap.size ≤ c ∧ c < w3.heap.size ∧ CellsW w3 c (lgL lg0) := hZ 5 _ _ (by omega) rfl rfl
    have hcd : c ≠ d := by
      rcases hD 4 5 _ _ _ _ (by omega) (by omega) (by omega) rfl rfl rfl rfl with h | h
      · exact h c d v4 v5
      · exact fun e => h d c v5 v4 e.symm
    simp only [List.drop_succ_cons, List.drop_zero, List.take_succ_cons, List.take_zero, putAll, v1, v3, v4, v5]
    clear hZ hD v1 v3 v4 v5
    refine wpList_store_cells rfl 30 (.tmp 7) (.tmp 10) rfl c 0 (by go_simp) (lgL x) (by go_simp) (by kernel_rfl) (by simp [Value.oneCell']) h3.some h3.thaw ?_
    have h4 := h3.put (lgL x) rfl
    have g4 := g3.other (b := c) (by omega) 0 (lgL x)
    refine wpList_store_cells rfl 30 (.tmp 8) (.tmp 12) rfl d 0 (by go_simp) (lgL y) (by go_simp) (by kernel_rfl) (by simp [Value.oneCell']) g4.some g4.thaw ?_
    have h5 := h4.other (b := d) (by omega) 0 (lgL y)
    have g5 := g4.put (lgL y) rfl
    have q1 : Below X.heap.size X ((w3.setCells c 0 (lgL x)).setCells d 0 (lgL y)) := (hb3.trans (setCells_below c h1 (lgL x) 0 w3)).trans (setCells_below d g1 (lgL y) 0 _)
    have zc : c < ((w3.setCells c 0 (lgL x)).setCells d 0 (lgL y)).heap.size := by
      have := (setCells_below (B := 0) c (by omega) (lgL x) 0 w3).size; have := (setCells_below (B := 0) d (by omega) (lgL y) 0 (w3.setCells c 0 (lgL x))).size; omega
    have zd : d < ((w3.setCells c 0 (lgL x)).setCells d 0 (lgL y)).heap.size := by
      have := (setCells_below (B := 0) c (by omega) (lgL x) 0 w3).size; have := (setCells_below (B := 0) d (by omega) (lgL y) 0 (w3.setCells c 0 (lgL x))).size; omega
    refine wpList_nil ?_
    generalize (w3.setCells c 0 (lgL x)).setCells d 0 (lgL y) = W at *
    replace ya := ya.below q1 (by omega); replace yb := yb.below q1 zX; replace VX := VX.on q1 (Nat.le_refl _); replace hbX := hbX.trans (q1.mono hbX.size)
    have z1 : w.heap.size < W.heap.size := by have := q1.size; omega
    have z2 : w.heap.size + 1 < W.heap.size := by have := q1.size; omega
    clear h3 h4 g3 g4 h1 g1 h2 g2 hb3 q1 zX hcd V
    have yx := h5; have yy := g5
    clear h5 g5
    have k1 := (ya 0 _ rfl).1
    have k2 := (ya 1 _ rfl).1
    have k3 := (yb 0 _ rfl).1
    have k4 := (yb 1 _ rfl).1
    clear ya yb
    go_wp2
    refine wp_region_below (by kernel_rfl) (by kernel_rfl) ?_
    (refine wq_val (by rfl) (fun w' hw' => by obtain ⟨hc, hf⟩ := bcell hw'; go_simp; try rfl) ?_; (intro K hK; go_simp; refine hK _ ?_; clear hK K))
    (refine wq_call (by rfl) (fun w' hw' => by go_simp; try rfl) (fun w' hw' => call_below hw' (ofE HN.out N1.out N2.out w')) ?_; (intro K hK; go_simp; refine hK _ ?_; clear hK K))
    (refine wq_val (by rfl) (fun w' hw' => by obtain ⟨hc, hf⟩ := bcell hw'; go_simp; try rfl) ?_; (intro K hK; go_simp; refine hK _ ?_; clear hK K))
    (refine wq_call (by rfl) (fun w' hw' => by go_simp; try rfl) (fun w' hw' => call_below hw' (refOfN n HN.out HZ.out w')) ?_; (intro K hK; go_simp; refine hK _ ?_; clear hK K))
    (refine wq_call (by rfl) (fun w' hw' => by go_simp; try rfl) (fun w' hw' => call_below hw' (intV LZ (bd_i64 HN.out) N1.out N2.out w')) ?_; (intro K hK; go_simp; refine hK _ ?_; clear hK K))
    (refine wq_val (by rfl) (fun w' hw' => by obtain ⟨hc, hf⟩ := bcell hw'; go_simp; try rfl) ?_; (intro K hK; go_simp; refine hK _ ?_; clear hK K))
    (refine wq_val (by rfl) (fun w' hw' => by obtain ⟨hc, hf⟩ := bcell hw'; go_simp; try rfl) ?_; (intro K hK; go_simp; refine hK _ ?_; clear hK K))
    (refine wq_val (by rfl) (fun w' hw' => by obtain ⟨hc, hf⟩ := bcell hw'; go_simp; try rfl) ?_; (intro K hK; go_simp; refine hK _ ?_; clear hK K))
    (refine wq_call (by rfl) (fun w' hw' => by go_simp; try rfl) (fun w' hw' => call_below hw' (normalE HA0.out HA1.out HVA.out A1.out A2.out w')) ?_; (intro K hK; go_simp; refine hK _ ?_; clear hK K))
    (refine wq_val (by rfl) (fun w' hw' => run_load_cells 30 (.tmp 7) rfl c 0 rfl (lgL x) _ Tryd.underlying30 rfl (by kernel_rfl) (yx.below hw' (by omega)).cellsAt) ?_; (intro K hK; go_simp; refine hK _ ?_; clear hK K))
    (refine wq_call (by rfl) (fun w' hw' => by go_simp; try rfl) (fun w' hw' => call_below hw' (intV LX bA A1.out A2.out w')) ?_; (intro K hK; go_simp; refine hK _ ?_; clear hK K))
    (refine wq_val (by rfl) (fun w' hw' => by obtain ⟨hc, hf⟩ := bcell hw'; go_simp; try rfl) ?_; (intro K hK; go_simp; refine hK _ ?_; clear hK K))
    (refine wq_val (by rfl) (fun w' hw' => by obtain ⟨hc, hf⟩ := bcell hw'; go_simp; try rfl) ?_; (intro K hK; go_simp; refine hK _ ?_; clear hK K))
    (refine wq_val (by rfl) (fun w' hw' => by obtain ⟨hc, hf⟩ := bcell hw'; go_simp; try rfl) ?_; (intro K hK; go_simp; refine hK _ ?_; clear hK K))
    (refine wq_val (by rfl) (fun w' hw' => by obtain ⟨hc, hf⟩ := bcell hw'; go_simp; try rfl) ?_; (intro K hK; go_simp; refine hK _ ?_; clear hK K))
    (refine wq_val (by rfl) (fun w' hw' => by obtain ⟨hc, hf⟩ := bcell hw'; go_simp; try rfl) ?_; (intro K hK; go_simp; refine hK _ ?_; clear hK K))
    (refine wq_call (by rfl) (fun w' hw' => by go_simp; try rfl) (fun w' hw' => call_below hw' (plusE HA0.out HA1.out HB0.out HB1.out HVA.out HVB.out S1.out S2.out w')) ?_; (intro K hK; go_simp; refine hK _ ?_; clear hK K))
    (refine wq_val (by rfl) (fun w' hw' => run_load_cells 30 (.tmp 7) rfl c 0 rfl (lgL x) _ Tryd.underlying30 rfl (by kernel_rfl) (yx.below hw' (by omega)).cellsAt) ?_; (intro K hK; go_simp; refine hK _ ?_; clear hK K))
    (refine wq_val (by rfl) (fun w' hw' => run_load_cells 30 (.tmp 8) rfl d 0 rfl (lgL y) _ Tryd.underlying30 rfl (by kernel_rfl) (yy.below hw' (by omega)).cellsAt) ?_; (intro K hK; go_simp; refine hK _ ?_; clear hK K))
    (refine wq_call (by rfl) (fun w' hw' => by go_simp; try rfl) (fun w' hw' => call_below hw' (refAddN LX LY HS.out w')) ?_; (intro K hK; go_simp; refine hK _ ?_; clear hK K))
    (refine wq_call (by rfl) (fun w' hw' => by go_simp; try rfl) (fun w' hw' => call_below hw' (intV LS bS S1.out S2.out w')) ?_; (intro K hK; go_simp; refine hK _ ?_; clear hK K))
    (refine wq_val (by rfl) (fun w' hw' => by obtain ⟨hc, hf⟩ := bcell hw'; go_simp; try rfl) ?_; (intro K hK; go_simp; refine hK _ ?_; clear hK K))
    (refine wq_val (by rfl) (fun w' hw' => by obtain ⟨hc, hf⟩ := bcell hw'; go_simp; try rfl) ?_; (intro K hK; go_simp; refine hK _ ?_; clear hK K))
    (refine wq_val (by rfl) (fun w' hw' => by obtain ⟨hc, hf⟩ := bcell hw'; go_simp; try rfl) ?_; (intro K hK; go_simp; refine hK _ ?_; clear hK K))
    (refine wq_val (by rfl) (fun w' hw' => by obtain ⟨hc, hf⟩ := bcell hw'; go_simp; try rfl) ?_; (intro K hK; go_simp; refine hK _ ?_; clear hK K))
    (refine wq_val (by rfl) (fun w' hw' => by obtain ⟨hc, hf⟩ := bcell hw'; go_simp; try rfl) ?_; (intro K hK; go_simp; refine hK _ ?_; clear hK K))
    (refine wq_call (by rfl) (fun w' hw' => by go_simp; try rfl) (fun w' hw' => call_below hw' (minusE HA0.out HA1.out HB0.out HB1.out HVA.out HVB.out D1.out D2.out w')) ?_; (intro K hK; go_simp; refine hK _ ?_; clear hK K))
    (refine wq_val (by rfl) (fun w' hw' => run_load_cells 30 (.tmp 7) rfl c 0 rfl (lgL x) _ Tryd.underlying30 rfl (by kernel_rfl) (yx.below hw' (by omega)).cellsAt) ?_; (intro K hK; go_simp; refine hK _ ?_; clear hK K))
    (refine wq_val (by rfl) (fun w' hw' => run_load_cells 30 (.tmp 8) rfl d 0 rfl (lgL y) _ Tryd.underlying30 rfl (by kernel_rfl) (yy.below hw' (by omega)).cellsAt) ?_; (intro K hK; go_simp; refine hK _ ?_; clear hK K))
    (refine wq_call (by rfl) (fun w' hw' => by go_simp; try rfl) (fun w' hw' => call_below hw' (refNegN HNY.out w')) ?_; (intro K hK; go_simp; refine hK _ ?_; clear hK K))
    (refine wq_call (by rfl) (fun w' hw' => by go_simp; try rfl) (fun w' hw' => call_below hw' (refAddN LX LN HD.out w')) ?_; (intro K hK; go_simp; refine hK _ ?_; clear hK K))
    (refine wq_call (by rfl) (fun w' hw' => by go_simp; try rfl) (fun w' hw' => call_below hw' (intV LD bD D1.out D2.out w')) ?_; (intro K hK; go_simp; refine hK _ ?_; clear hK K))
    (refine wq_val (by rfl) (fun w' hw' => by obtain ⟨hc, hf⟩ := bcell hw'; go_simp; try rfl) ?_; (intro K hK; go_simp; refine hK _ ?_; clear hK K))
    (refine wq_val (by rfl) (fun w' hw' => by obtain ⟨hc, hf⟩ := bcell hw'; go_simp; try rfl) ?_; (intro K hK; go_simp; refine hK _ ?_; clear hK K))
    refine wpQuiet_nil ?_
    intro w7 hb7
    replace k1 := cell_on hb7 z1 k1; replace k2 := cell_on hb7 z1 k2; replace k3 := cell_on hb7 z2 k3; replace k4 := cell_on hb7 z2 k4
    replace yx := yx.below hb7 zc; replace yy := yy.below hb7 zd; replace VX := VX.on hb7 (Nat.le_refl _); replace hbX := hbX.trans (hb7.mono hbX.size)
    replace z1 := Nat.lt_of_lt_of_le z1 hb7.size; replace z2 := Nat.lt_of_lt_of_le z2 hb7.size; replace zc := Nat.lt_of_lt_of_le zc hb7.size; replace zd := Nat.lt_of_lt_of_le zd hb7.size
    clear hb7
    go_wp2
    refine wp_region_below_tail 17 (by kernel_rfl) (by kernel_rfl) ?_
    simp only [List.take_succ_cons, List.take_zero]
    (refine wq_val (by rfl) (fun w' hw' => by obtain ⟨hc, hf⟩ := bcell hw'; go_simp; try rfl) ?_; (intro K hK; go_simp; refine hK _ ?_; clear hK K))
    (refine wq_val (by rfl) (fun w' hw' => by obtain ⟨hc, hf⟩ := bcell hw'; go_simp; try rfl) ?_; (intro K hK; go_simp; refine hK _ ?_; clear hK K))
    (refine wq_call (by rfl) (fun w' hw' => by go_simp; try rfl) (fun w' hw' => call_below hw' (lessR RA RB HT.out w')) ?_; (intro K hK; go_simp; refine hK _ ?_; clear hK K))
    (refine wq_val (by rfl) (fun w' hw' => run_load_cells 30 (.tmp 7) rfl c 0 rfl (lgL x) _ Tryd.underlying30 rfl (by kernel_rfl) (yx.below hw' (by omega)).cellsAt) ?_; (intro K hK; go_simp; refine hK _ ?_; clear hK K))
    (refine wq_val (by rfl) (fun w' hw' => run_load_cells 30 (.tmp 8) rfl d 0 rfl (lgL y) _ Tryd.underlying30 rfl (by kernel_rfl) (yy.below hw' (by omega)).cellsAt) ?_; (intro K hK; go_simp; refine hK _ ?_; clear hK K))
    (refine wq_call (by rfl) (fun w' hw' => by go_simp; try rfl) (fun w' hw' => call_below hw' (lessV LX LY bA bB HT.out w')) ?_; (intro K hK; go_simp; refine hK _ ?_; clear hK K))
    (refine wq_val (by rfl) (fun w' hw' => by obtain ⟨hc, hf⟩ := bcell hw'; go_simp; try rfl) ?_; (intro K hK; go_simp; refine hK _ ?_; clear hK K))
    (refine wq_val (by rfl) (fun w' hw' => by obtain ⟨hc, hf⟩ := bcell hw'; go_simp; try rfl) ?_; (intro K hK; go_simp; refine hK _ ?_; clear hK K))
    (refine wq_val (by rfl) (fun w' hw' => by obtain ⟨hc, hf⟩ := bcell hw'; go_simp; try rfl) ?_; (intro K hK; go_simp; refine hK _ ?_; clear hK K))
    (refine wq_call (by rfl) (fun w' hw' => by go_simp; try rfl) (fun w' hw' => call_below hw' (writeE HA0.out HA1.out HVA.out HTA.out w')) ?_; (intro K hK; go_simp; refine hK _ ?_; clear hK K))
    (refine wq_val (by rfl) (fun w' hw' => run_load_cells 30 (.tmp 7) rfl c 0 rfl (lgL x) _ Tryd.underlying30 rfl (by kernel_rfl) (yx.below hw' (by omega)).cellsAt) ?_; (intro K hK; go_simp; refine hK _ ?_; clear hK K))
    (refine wq_call (by rfl) (fun w' hw' => by go_simp; try rfl) (fun w' hw' => call_below hw' (refTextN LX HTA.out w')) ?_; (intro K hK; go_simp; refine hK _ ?_; clear hK K))
    (refine wq_val (by rfl) (fun w' hw' => by obtain ⟨hc, hf⟩ := bcell hw'; go_simp; try rfl) ?_; (intro K hK; go_simp; refine hK _ ?_; clear hK K))
    (refine wq_val (by rfl) (fun w' hw' => by obtain ⟨hc, hf⟩ := bcell hw'; go_simp; try rfl) ?_; (intro K hK; go_simp; refine hK _ ?_; clear hK K))
    (refine wq_val (by rfl) (fun w' hw' => by obtain ⟨hc, hf⟩ := bcell hw'; go_simp; try rfl) ?_; (intro K hK; go_simp; refine hK _ ?_; clear hK K))
    (refine wq_call (by rfl) (fun w' hw' => by go_simp; try rfl) (fun w' hw' => call_below hw' (known_any w' (VX.on hw' (Nat.le_refl _)))) ?_; (intro K hK; go_simp; refine hK _ ?_; clear hK K))
    (refine wq_val (by rfl) (fun w' hw' => by obtain ⟨hc, hf⟩ := bcell hw'; go_simp; try rfl) ?_; (intro K hK; go_simp; refine hK _ ?_; clear hK K))
    refine wpQuiet_nil ?_
    intro w9 hb9
    simp only [List.drop_succ_cons, List.drop_zero]
    go_wp2
    go_ret
    exact ⟨rfl, hbX.trans (hb9.mono hbX.size)⟩
end Go.Proofs.YtggbnjdbbomjoaaDoor
