/- Walks of the reference of layer 1: Int. -/
import Derived.Test.YtggbnjdbbomjoaaDoorRefN
import Derived.Test.YtggbnjdbbomjoaaDoorNm
import Derived.Deep.DeepCutAuto
import Derived.Test.YtggbnjdbbomjoaaDoorFlow
namespace Go.Proofs.YtggbnjdbbomjoaaDoor
open Go.RowKit
theorem lessV {u v : Int} {x y : Lg} {t : Bool} (A : Lw u x) (B : Lw v y) (bu : Bd u) (bv : Bd v) (e : decide (u < v) = t) (w : World) :
    Calls Tryd.prog 27 #[lgV x, lgV y] w fun e w' => e = .returned (.bool t) ∧ Below w.heap.size w w' := by
  rw [← e, ← less_val A B bu bv]
  exact lessl_any x y A.dig B.dig w
theorem numV {hi lo : Int} (h1 : I64 hi) (h2 : I64 lo) {x : Lg} (e : numL hi lo = x) (w : World) : Calls Tryd.prog 20 #[two hi lo] w fun e w' => e = .returned (lgV x) ∧ Below w.heap.size w w' := by
  rw [← e]; exact numl_any hi lo h1 h2 w
def MINV : Int := -42535295865117307932921825928971026432
def MAXV : Int := 42535295865117307932921825928971026431
theorem min_ex : ∃ x, Hid (numL (-9223372036854775808) 0 = x) ∧ Lw MINV x := ⟨_, Lib.hid rfl, lw_num _ _ ⟨by decide, by decide⟩ ⟨by decide, by decide⟩ (by decide)⟩
theorem max_ex : ∃ x, Hid (numL 9223372036854775807 4611686018427387903 = x) ∧ Lw MAXV x := ⟨_, Lib.hid rfl, lw_num _ _ ⟨by decide, by decide⟩ ⟨by decide, by decide⟩ (by decide)⟩
theorem bd_min : Bd MINV := by unfold Bd MINV; omega
theorem bd_max : Bd MAXV := by unfold Bd MAXV; omega
theorem norm_low {v : Int} (h : v < MINV) : normHi v = -9223372036854775808 ∧ normLo v = 0 := by
  unfold MINV at h
  unfold normHi normLo madeHi madeLo M62 minI maxI
  constructor
  · rw [if_pos (by omega)]
  · rw [if_pos (by omega)]
theorem norm_high {v : Int} (h : MAXV < v) : normHi v = 9223372036854775807 ∧ normLo v = 0 := by
  unfold MAXV at h
  unfold normHi normLo madeHi madeLo M62 minI maxI
  constructor
  · rw [if_neg (by omega), if_pos (by omega)]
  · first | (rw [if_pos (by omega)]; done) | (rw [if_neg (by omega), if_pos (by omega)])
def ZI (x z : Lg) (lo : Int) (B : Nat) : Nat → World → Value → Prop
  | 0, _, v => v = lgV x
  | 1, _, v => v = .int .i64 lo
  | 2, _, v => v = two lo 0
  | 3, _, v => v = lgV z
  | 4, _, v => v = lgV (negL z)
  | 5, _, v => v = lgV (addL x (negL z))
  | 6, w, v => ∃ b, v = .pointer (some ⟨b, 0, none⟩) ∧ B ≤ b ∧ b < w.heap.size ∧ CellsW w b (lgL lg0)
  | _, _, _ => True
theorem ZI.on {x z : Lg} {lo : Int} {B : Nat} {w w' : World} (hb : Below w.heap.size w w') : ∀ j u, ZI x z lo B j w u → ZI x z lo B j w' u
  | 0, _, h => h
  | 1, _, h => h
  | 2, _, h => h
  | 3, _, h => h
  | 4, _, h => h
  | 5, _, h => h
  | 6, _, ⟨b, h1, h2, h3, h4⟩ => ⟨b, h1, h2, Nat.lt_of_lt_of_le h3 hb.size, h4.below hb h3⟩
  | _ + 7, _, _ => trivial
/-- the low word, gathered from the fourth digit down -/
def Lo (r : Lg) (k : Nat) (l : Int) : Prop := match k with
  | 0 => l = 0
  | 1 => l = r.d 3
  | 2 => l = r.d 3 * 65536 + r.d 2
  | 3 => l = (r.d 3 * 65536 + r.d 2) * 65536 + r.d 1
  | _ => l = ((r.d 3 * 65536 + r.d 2) * 65536 + r.d 1) * 65536 + r.d 0
theorem low_dig {v : Int} {r : Lg} (LR : Lw (v % 4611686018427387904) r) : 0 ≤ v % 4611686018427387904 ∧ v % 4611686018427387904 < 4611686018427387904 ∧
    (0 ≤ r.d 0 ∧ r.d 0 < 65536) ∧ (0 ≤ r.d 1 ∧ r.d 1 < 65536) ∧ (0 ≤ r.d 2 ∧ r.d 2 < 65536) ∧ (0 ≤ r.d 3 ∧ r.d 3 < 65536) ∧
    ((r.d 3 * 65536 + r.d 2) * 65536 + r.d 1) * 65536 + r.d 0 = v % 4611686018427387904 := by
  have hm := LR.minus
  have hv := LR.val
  obtain ⟨a0, a1, a2, a3, a4, a5, a6, a7, a8, a9⟩ := inst10 LR.dig
  have u1 : 0 ≤ v % 4611686018427387904 := by omega
  rw [decide_eq_false (by omega)] at hm
  unfold vL at hv
  rw [hm] at hv
  simp [vD] at hv
  refine ⟨u1, by omega, a0, a1, a2, a3, by omega⟩
theorem half (x : Int) : ∃ a c : Int, x.tdiv 2 = a ∧ x.tmod 2 = c ∧ x = 2 * a + c ∧ -1 ≤ c ∧ c ≤ 1 := by
  refine ⟨_, _, rfl, rfl, ?_⟩
  have h := Int.mul_tdiv_add_tmod x 2
  have h1 : x.tmod 2 < 2 := Int.tmod_lt_of_pos x (by decide)
  have h2 : -2 < x.tmod 2 := by
    have := Int.neg_tmod x 2
    have h3 := Int.tmod_lt_of_pos (-x) (b := 2) (by decide)
    omega
  omega
/-- the middle of two bounds, as it is reckoned -/
theorem middle (lo hi : Int) (h1 : I64 lo) (h2 : I64 hi) (h : lo < hi) : ∃ a c r t h' m : Int, lo.tdiv 2 = a ∧ hi.tdiv 2 = c ∧ lo.tmod 2 = r ∧ hi.tmod 2 = t ∧ (r + t + 1).tdiv 2 = h' ∧ a + c + h' = m ∧
    wrap64 a = a ∧ wrap64 c = c ∧ wrap64 (a + c) = a + c ∧ wrap64 (r + t) = r + t ∧ wrap64 (r + t + 1) = r + t + 1 ∧ wrap64 h' = h' ∧ wrap64 m = m ∧ lo < m ∧ m ≤ hi := by
  obtain ⟨a, r, ea, er, e1, r1, r2⟩ := half lo
  obtain ⟨c, t, ec, et, e2, t1, t2⟩ := half hi
  obtain ⟨_, _⟩ := h1; obtain ⟨_, _⟩ := h2
  have hs : ∃ h', (r + t + 1).tdiv 2 = h' ∧ (r + t = -2 ∧ h' = 0 ∨ r + t = -1 ∧ h' = 0 ∨ r + t = 0 ∧ h' = 0 ∨ r + t = 1 ∧ h' = 1 ∨ r + t = 2 ∧ h' = 1) := by
    refine ⟨_, rfl, ?_⟩
    rcases (by omega : r + t = -2 ∨ r + t = -1 ∨ r + t = 0 ∨ r + t = 1 ∨ r + t = 2) with e | e | e | e | e <;> rw [e]
    · left; exact ⟨rfl, by decide⟩
    · right; left; exact ⟨rfl, by decide⟩
    · right; right; left; exact ⟨rfl, by decide⟩
    · right; right; right; left; exact ⟨rfl, by decide⟩
    · right; right; right; right; exact ⟨rfl, by decide⟩
  obtain ⟨h', eh, hc⟩ := hs
  refine ⟨a, c, r, t, h', a + c + h', ea, ec, er, et, eh, rfl, wrap_of ?_, wrap_of ?_, wrap_of ?_, wrap_of ?_, wrap_of ?_, wrap_of ?_, wrap_of ?_, ?_, ?_⟩
  all_goals first | (unfold I64; omega) | omega
set_option maxRecDepth 100000 in
set_option maxHeartbeats 1000000 in
theorem int_any (x : Lg) (v : Int) (A : Lw v x) (b : Bd v) (w : World) :
    Calls Tryd.prog 22 #[lgV x] w fun e w' => e = .returned (two (normHi v) (normLo v)) ∧ Below w.heap.size w w' := by
  obtain ⟨x1, HX1, L1⟩ := min_ex
  obtain ⟨x2, HX2, L2⟩ := max_ex
  go_enter Tryd.func22, Tryd.ntmps22
  go_wp2_with fail
  refine (numV ⟨by decide, by decide⟩ ⟨by decide, by decide⟩ HX1.out _).mono ?_; rintro e w1 ⟨rfl, hb1⟩
  have ya : CellsW w1 w.heap.size (lgL x) := by
    have h := CellsW.new w (lgL x) 30
    exact (h.alloc (by simp) _).below hb1 (by simp; omega)
  have yr : CellsW w1 (w.heap.size + 1) [.int .i64 0, .int .i64 0] := by
    have h := CellsW.new (w.alloc (.cells (lgC x) 30)) [.int .i64 0, .int .i64 0] 41
    have h2 := h.below hb1 (by simp)
    simpa using h2
  have q1 : w.heap.size + 1 < w1.heap.size := by have := hb1.size; simp at this; omega
  have hbw : Below w.heap.size w w1 := by (repeat (first | (with_reducible exact Below.refl _ _) | ((with_reducible refine Below.alloc ?_ ?_ _); rotate_left; focus (first | (simp; done) | (simp; omega) | (have q0 := hb1.size; (try simp at q0); (try simp); omega))) | ((with_reducible refine Below.setCell ?_ ?_ _); rotate_left; focus (first | (simp; done) | (simp; omega) | (have q0 := hb1.size; (try simp at q0); (try simp); omega))) | (with_reducible refine Below.drew ?_) | (with_reducible refine Below.drewN' ?_ _) | (with_reducible refine Below.trans ?_ (hb1.mono ?_); rotate_left; focus (first | (simp; done) | (simp; omega) | (have q0 := hb1.size; (try simp at q0); (try simp); omega)))))
  clear hb1
  go_wp2_with fail
  refine (numV ⟨by decide, by decide⟩ ⟨by decide, by decide⟩ HX2.out _).mono ?_; rintro e w2 ⟨rfl, hb2⟩
  replace ya := ya.below hb2 (by omega); replace yr := yr.below hb2 q1; replace hbw := hbw.trans (hb2.mono hbw.size); replace q1 := Nat.lt_of_lt_of_le q1 hb2.size
  clear hb2
  go_upto_region 2 with fail
  obtain ⟨Y, hY⟩ : ∃ Y, Y = (w2.alloc (Obj.cells (lgC x1) 30)).alloc (Obj.cells (lgC x2) 30) := ⟨_, rfl⟩
  have hb5 : Below w2.heap.size w2 Y := by rw [hY]; (repeat (first | (with_reducible exact Below.refl _ _) | ((with_reducible refine Below.alloc ?_ ?_ _); rotate_left; focus (first | (simp; done) | (simp; omega))) | ((with_reducible refine Below.setCell ?_ ?_ _); rotate_left; focus (first | (simp; done) | (simp; omega))) | (with_reducible refine Below.drew ?_) | (with_reducible refine Below.drewN' ?_ _)))
  have y1 : CellsW Y w2.heap.size (lgL x1) := by rw [hY]; exact (CellsW.new w2 (lgL x1) 30).alloc (by simp) _
  have y2 : CellsW Y (w2.heap.size + 1) (lgL x2) := by
    rw [hY]
    have := CellsW.new (w2.alloc (Obj.cells (lgC x1) 30)) (lgL x2) 30
    simpa using this
  have q2 : w2.heap.size + 1 < Y.heap.size := by rw [hY]; simp
  replace ya := ya.below hb5 (by omega); replace yr := yr.below hb5 q1; replace hbw := hbw.trans (hb5.mono hbw.size); replace q1 := Nat.lt_of_lt_of_le q1 hb5.size
  rw [← hY]
  clear hY hb5
  generalize w2.heap.size = g at *
  go_wp2_with (first | (refine wpList_load_cells rfl 30 (.tmp 1) rfl w.heap.size 0 rfl (lgL x) _ Tryd.underlying30 rfl (by kernel_rfl) ya.cellsAt ?_) | (refine wpList_load_cells rfl 30 (.tmp 3) rfl g 0 rfl (lgL x1) _ Tryd.underlying30 rfl (by kernel_rfl) y1.cellsAt ?_) | fail)
  by_cases hlow : v < MINV
  · refine (lessV A L1 b bd_min (decide_eq_true hlow) _).mono ?_; rintro e wn ⟨rfl, hbn⟩
    replace ya := ya.below hbn (by omega); replace yr := yr.below hbn q1; replace y1 := y1.below hbn (by omega); replace y2 := y2.below hbn q2; replace hbw := hbw.trans (hbn.mono hbw.size); replace q1 := Nat.lt_of_lt_of_le q1 hbn.size; replace q2 := Nat.lt_of_lt_of_le q2 hbn.size; clear hbn
    obtain ⟨r0, f0⟩ := yr 0 _ rfl
    obtain ⟨r1, f1⟩ := yr 1 _ rfl
    have HN := Lib.hid (norm_low hlow)
    go_wp2
    refine bodyPost_ret (v := two (normHi v) (normLo v)) ?_ rfl ⟨rfl, hbw.trans (by (repeat (first | (with_reducible exact Below.refl _ _) | ((with_reducible refine Below.alloc ?_ ?_ _); rotate_left; focus (first | (simp; done) | (simp; omega))) | ((with_reducible refine Below.setCell ?_ ?_ _); rotate_left; focus (first | (simp; done) | (simp; omega))) | (with_reducible refine Below.drew ?_) | (with_reducible refine Below.drewN' ?_ _))))⟩
    rw [HN.out.1, HN.out.2]
    simp [results, Tryd.results22, go_sem, r0, r1]
  refine (lessV A L1 b bd_min (decide_eq_false hlow) _).mono ?_; rintro e wn ⟨rfl, hbn⟩
  replace ya := ya.below hbn (by omega); replace yr := yr.below hbn q1; replace y1 := y1.below hbn (by omega); replace y2 := y2.below hbn q2; replace hbw := hbw.trans (hbn.mono hbw.size); replace q1 := Nat.lt_of_lt_of_le q1 hbn.size; replace q2 := Nat.lt_of_lt_of_le q2 hbn.size; clear hbn
  go_wp2_with (first | (refine wpList_load_cells rfl 30 (.tmp 1) rfl w.heap.size 0 rfl (lgL x) _ Tryd.underlying30 rfl (by kernel_rfl) ya.cellsAt ?_) | (refine wpList_load_cells rfl 30 (.tmp 4) rfl (g + 1) 0 rfl (lgL x2) _ Tryd.underlying30 rfl (by kernel_rfl) y2.cellsAt ?_) | fail)
  by_cases hhigh : MAXV < v
  · refine (lessV L2 A bd_max b (decide_eq_true hhigh) _).mono ?_; rintro e wn ⟨rfl, hbn⟩
    replace ya := ya.below hbn (by omega); replace yr := yr.below hbn q1; replace y1 := y1.below hbn (by omega); replace y2 := y2.below hbn q2; replace hbw := hbw.trans (hbn.mono hbw.size); replace q1 := Nat.lt_of_lt_of_le q1 hbn.size; replace q2 := Nat.lt_of_lt_of_le q2 hbn.size; clear hbn
    obtain ⟨r0, f0⟩ := yr 0 _ rfl
    obtain ⟨r1, f1⟩ := yr 1 _ rfl
    have HN := Lib.hid (norm_high hhigh)
    go_wp2
    refine bodyPost_ret (v := two (normHi v) (normLo v)) ?_ rfl ⟨rfl, hbw.trans (by (repeat (first | (with_reducible exact Below.refl _ _) | ((with_reducible refine Below.alloc ?_ ?_ _); rotate_left; focus (first | (simp; done) | (simp; omega))) | ((with_reducible refine Below.setCell ?_ ?_ _); rotate_left; focus (first | (simp; done) | (simp; omega))) | (with_reducible refine Below.drew ?_) | (with_reducible refine Below.drewN' ?_ _))))⟩
    rw [HN.out.1, HN.out.2]
    simp [results, Tryd.results22, go_sem, r0, r1]
  refine (lessV L2 A bd_max b (decide_eq_false hhigh) _).mono ?_; rintro e wn ⟨rfl, hbn⟩
  replace ya := ya.below hbn (by omega); replace yr := yr.below hbn q1; replace y1 := y1.below hbn (by omega); replace y2 := y2.below hbn q2; replace hbw := hbw.trans (hbn.mono hbw.size); replace q1 := Nat.lt_of_lt_of_le q1 hbn.size; replace q2 := Nat.lt_of_lt_of_le q2 hbn.size; clear hbn
  have hr : Rng v := by unfold MINV at hlow; unfold MAXV at hhigh; unfold Rng; omega
  clear hlow hhigh y1 y2 q2
  obtain ⟨q, hq⟩ : ∃ q, v / 4611686018427387904 = q := ⟨_, rfl⟩
  obtain ⟨k0, k1⟩ : -9223372036854775808 ≤ q ∧ q ≤ 9223372036854775807 := by obtain ⟨_, _⟩ := hr; omega
  have HQ := Lib.hid hq
  clear hq
  go_wp2
  go_loopw [5, 6] (fun vl vh wr => ∃ lo hi : Int, vl = .int .i64 lo ∧ vh = .int .i64 hi ∧ Hid (I64 lo ∧ I64 hi) ∧ lo ≤ q ∧ q ≤ hi ∧ CellsW wr w.heap.size (lgL x) ∧ CellsW wr (w.heap.size + 1) [.int .i64 0, .int .i64 0] ∧ w.heap.size + 1 < wr.heap.size ∧ Below w.heap.size w wr)
    (fun vl vh _ => (intOf vh - intOf vl).toNat)
  case atStart => exact ⟨_, _, rfl, rfl, Lib.hid ⟨⟨by decide, by decide⟩, ⟨by decide, by decide⟩⟩, k0, k1, ya, yr, q1, hbw⟩
  case round =>
    clear ya yr q1 hbw k0 k1
    obtain ⟨lo, hi, rfl, rfl, hI, h1, h2, ya, yr, q1, hbw⟩ := hrel
    by_cases hlt : lo < hi
    · obtain ⟨ma, mc, mr, mt, mh, m, e1, e2, e3, e4, e5, e6, e7, e8, e9, e10, e11, e12, e13, e14, e15⟩ := middle lo hi hI.out.1 hI.out.2 hlt
      have him : I64 m := by obtain ⟨⟨_, _⟩, ⟨_, _⟩⟩ := hI.out; unfold I64; omega
      have HM := Lib.hid him
      obtain ⟨z, HZ, LZ⟩ : ∃ z, Hid (numL m 0 = z) ∧ Lw (m * 4611686018427387904) z := ⟨_, Lib.hid rfl, lw_num m 0 him ⟨by decide, by decide⟩ (by unfold val M62; omega)⟩
      have bz : Bd (m * 4611686018427387904) := by obtain ⟨_, _⟩ := him; unfold Bd; omega
      clear him
      go_wp2
      rw [e13]
      have e16 : wrap64 (m - 1) = m - 1 := wrap_of (by obtain ⟨⟨_, _⟩, ⟨_, _⟩⟩ := hI.out; unfold I64; omega)
      clear e1 e2 e3 e4 e5 e6 e7 e8 e9 e10 e11 e12 e13
      by_cases hc : v < m * 4611686018427387904
      · refine wp_region_below (by kernel_rfl) (by kernel_rfl) ?_
        refine wq_val (by rfl) (fun w' hw' => run_load_cells 30 (.tmp 1) rfl w.heap.size 0 rfl (lgL x) _ Tryd.underlying30 rfl (by kernel_rfl) (ya.below hw' (by omega)).cellsAt) ?_
        (intro K hK; go_simp; refine hK _ ?_; clear hK K)
        (refine wq_val (by rfl) (fun w' hw' => by obtain ⟨hc, hf⟩ := bcell hw'; go_simp; try rfl) ?_; (intro K hK; go_simp; refine hK _ ?_; clear hK K))
        (refine wq_val (by rfl) (fun w' hw' => by obtain ⟨hc, hf⟩ := bcell hw'; go_simp; try rfl) ?_; (intro K hK; go_simp; refine hK _ ?_; clear hK K))
        (refine wq_call (by rfl) (fun w' hw' => by go_simp; try rfl) (fun w' hw' => call_below hw' (numV HM.out ⟨by decide, by decide⟩ HZ.out w')) ?_; (intro K hK; go_simp; refine hK _ ?_; clear hK K))
        (refine wq_call (by rfl) (fun w' hw' => by go_simp; try rfl) (fun w' hw' => call_below hw' (lessV A LZ b bz (decide_eq_true hc) w')) ?_; (intro K hK; go_simp; refine hK _ ?_; clear hK K))
        refine wpQuiet_nil ?_
        intro w3 hb3
        go_wp2
        rw [e16]
        refine ⟨⟨lo, m - 1, rfl, rfl, Lib.hid ⟨hI.out.1, ?_⟩, h1, ?_, ya.below hb3 (by omega), yr.below hb3 q1, Nat.lt_of_lt_of_le q1 hb3.size, hbw.trans (hb3.mono hbw.size)⟩, by simp [intOf]; omega⟩
        · obtain ⟨⟨_, _⟩, ⟨_, _⟩⟩ := hI.out; unfold I64; omega
        · have := HQ.out; omega
      · refine wp_region_below (by kernel_rfl) (by kernel_rfl) ?_
        refine wq_val (by rfl) (fun w' hw' => run_load_cells 30 (.tmp 1) rfl w.heap.size 0 rfl (lgL x) _ Tryd.underlying30 rfl (by kernel_rfl) (ya.below hw' (by omega)).cellsAt) ?_
        (intro K hK; go_simp; refine hK _ ?_; clear hK K)
        (refine wq_val (by rfl) (fun w' hw' => by obtain ⟨hc, hf⟩ := bcell hw'; go_simp; try rfl) ?_; (intro K hK; go_simp; refine hK _ ?_; clear hK K))
        (refine wq_val (by rfl) (fun w' hw' => by obtain ⟨hc, hf⟩ := bcell hw'; go_simp; try rfl) ?_; (intro K hK; go_simp; refine hK _ ?_; clear hK K))
        (refine wq_call (by rfl) (fun w' hw' => by go_simp; try rfl) (fun w' hw' => call_below hw' (numV HM.out ⟨by decide, by decide⟩ HZ.out w')) ?_; (intro K hK; go_simp; refine hK _ ?_; clear hK K))
        (refine wq_call (by rfl) (fun w' hw' => by go_simp; try rfl) (fun w' hw' => call_below hw' (lessV A LZ b bz (decide_eq_false hc) w')) ?_; (intro K hK; go_simp; refine hK _ ?_; clear hK K))
        refine wpQuiet_nil ?_
        intro w3 hb3
        go_wp2
        refine ⟨⟨m, hi, rfl, rfl, Lib.hid ⟨HM.out, hI.out.2⟩, ?_, h2, ya.below hb3 (by omega), yr.below hb3 q1, Nat.lt_of_lt_of_le q1 hb3.size, hbw.trans (hb3.mono hbw.size)⟩, by simp [intOf]; omega⟩
        have := HQ.out; omega
    · have e : lo = q := by omega
      subst e
      have hle : hi ≤ lo := by omega
      clear h1 h2 hlt
      have hlo := hI.out.1
      obtain ⟨z, HZ, LZ⟩ : ∃ z, Hid (numL lo 0 = z) ∧ Lw (lo * 4611686018427387904) z := ⟨_, Lib.hid rfl, lw_num lo 0 hlo ⟨by decide, by decide⟩ (by unfold val M62; omega)⟩
      have bz : Bd (lo * 4611686018427387904) := by obtain ⟨_, _⟩ := hlo; unfold Bd; omega
      have LR : Lw (v % 4611686018427387904) (addL x (negL z)) := A.add LZ.neg b bz.neg (by have := HQ.out; omega)
      have HLO := Lib.hid hlo
      clear hlo
      go_wp2
      refine wp_region_flow 7 (by kernel_rfl) (by kernel_rfl) ?_ (ZI x z lo wr.heap.size) (fun w' => Below wr.heap.size wr w') ⟨rfl, rfl, rfl, Nat.le_refl _, fun _ _ => rfl⟩ ?_ ?_
      · intro i o d hi ho hd
        have : i = 0 ∨ i = 1 ∨ i = 2 ∨ i = 3 ∨ i = 4 ∨ i = 5 ∨ i = 6 := by omega
        rcases this with rfl | rfl | rfl | rfl | rfl | rfl | rfl <;> (simp at ho; subst ho; simp at hd; subst hd; simp)
      · intro i o hi ho
        have : i = 0 ∨ i = 1 ∨ i = 2 ∨ i = 3 ∨ i = 4 ∨ i = 5 ∨ i = 6 := by omega
        rcases this with rfl | rfl | rfl | rfl | rfl | rfl | rfl <;> (simp at ho; subst ho; intro a w' hC hd hr; rw [if_pos (by rfl)])
        · exact flow_val (run_load_cells 30 (.tmp 1) rfl w.heap.size 0 (hr 1 (free_of (by rfl))) (lgL x) _ Tryd.underlying30 rfl (by kernel_rfl) (ya.below hC (by omega)).cellsAt) ⟨rfl, hC, fun _ _ h => h⟩
        · have e : a.tmps.getD 5 undef = .int .i64 lo := hr 5 (free_of (by rfl))
          have e' : a.tmps[5]?.getD undef = .int .i64 lo := by simpa using e
          exact flow_val (v := .int .i64 lo) (by go_simp) ⟨rfl, hC, fun _ _ h => h⟩
        · have e : a.tmps.getD 53 undef = .int .i64 lo := hd ⟨1, .data⟩ (by simp) rfl _ _ rfl rfl
          have e' : a.tmps[53]?.getD undef = .int .i64 lo := by simpa using e
          exact flow_val (v := two lo 0) (by go_simp) ⟨rfl, hC, fun _ _ h => h⟩
        · have e : a.tmps.getD 54 undef = two lo 0 := hd ⟨2, .data⟩ (by simp) rfl _ _ rfl rfl
          have e' : a.tmps[54]?.getD undef = two lo 0 := by simpa using e
          refine flow_call (f := 20) (args := #[two lo 0]) (by go_simp) ?_
          exact (numV HLO.out ⟨by decide, by decide⟩ HZ.out w').mono fun e w'' ⟨h1, h2⟩ => ⟨_, h1, rfl, hC.trans (h2.mono hC.size), ZI.on h2⟩
        · have e : a.tmps.getD 55 undef = lgV z := hd ⟨3, .data⟩ (by simp) rfl _ _ rfl rfl
          have e' : a.tmps[55]?.getD undef = lgV z := by simpa using e
          refine flow_call (f := 19) (args := #[lgV z]) (by go_simp) ?_
          exact (neg_any z w').mono fun e w'' ⟨h1, h2⟩ => ⟨_, h1, rfl, hC.trans (h2.mono hC.size), ZI.on h2⟩
        · have e : a.tmps.getD 52 undef = lgV x := hd ⟨0, .data⟩ (by simp) rfl _ _ rfl rfl
          have e' : a.tmps[52]?.getD undef = lgV x := by simpa using e
          have e8 : a.tmps.getD 56 undef = lgV (negL z) := hd ⟨4, .data⟩ (by simp) rfl _ _ rfl rfl
          have e8' : a.tmps[56]?.getD undef = lgV (negL z) := by simpa using e8
          refine flow_call (f := 18) (args := #[lgV x, lgV (negL z)]) (by go_simp) ?_
          exact (addl_any x (negL z) A.dig LZ.neg.dig w').mono fun e w'' ⟨h1, h2⟩ => ⟨_, h1, rfl, hC.trans (h2.mono hC.size), ZI.on h2⟩
        · refine flow_new (v := .pointer (some ⟨w'.heap.size, 0, none⟩)) (w' := w'.alloc (.cells (lgC lg0) 30)) (by go_simp; rfl) ?_
          have hb : Below w'.heap.size w' (w'.alloc (.cells (lgC lg0) 30)) := by (repeat (first | (with_reducible exact Below.refl _ _) | ((with_reducible refine Below.alloc ?_ ?_ _); rotate_left; focus (first | (simp; done) | (simp; omega))) | ((with_reducible refine Below.setCell ?_ ?_ _); rotate_left; focus (first | (simp; done) | (simp; omega))) | (with_reducible refine Below.drew ?_) | (with_reducible refine Below.drewN' ?_ _)))
          exact ⟨⟨_, rfl, hC.size, by simp, CellsW.new w' (lgL lg0) 30⟩, hC.trans (hb.mono hC.size), ZI.on hb⟩
      · intro vs w3 hb3 hZ
        have v5 : vs 5 = lgV (addL x (negL z)) := hZ 5 _ _ (by omega) rfl rfl
        obtain ⟨c, v6, h1, h2, h3⟩ : ∃ c, vs 6 = .pointer (some ⟨c, 0, none⟩) ∧ wr.heap.size ≤ c ∧ c < w3.heap.size ∧ CellsW w3 c (lgL lg0) := hZ 6 _ _ (by omega) rfl rfl
        simp only [List.drop_succ_cons, List.drop_zero, List.take_succ_cons, List.take_zero, putAll, v5, v6]
        clear hZ v5 v6
        generalize addL x (negL z) = r at *
        refine wpList_store_cells rfl 30 (.tmp 8) (.tmp 57) rfl c 0 (by go_simp) (lgL r) (by go_simp) (by kernel_rfl) (by simp [Value.oneCell']) h3.some h3.thaw ?_
        have hrow := h3.put (lgL r) rfl
        have hbs := setCells_below (B := wr.heap.size) c h1 (lgL r) 0 w3
        have hbe := hb3.trans hbs
        refine wpList_nil ?_
        have ya' := (ya.below hb3 (by omega)).below hbs (by omega)
        have yr' := (yr.below hb3 q1).below hbs q1
        have q4 : w.heap.size + 1 < (w3.setCells c 0 (lgL r)).heap.size := Nat.lt_of_lt_of_le q1 hbe.size
        have hbw' := hbw.trans (hbe.mono hbw.size)
        clear ya yr q1 hbw hb3 hbs hbe h2 h3 ya'
        generalize w3.setCells c 0 (lgL r) = X at *
        have c1 := (hrow 1 _ rfl).1
        have c2 := (hrow 2 _ rfl).1
        have c3 := (hrow 3 _ rfl).1
        have c4 := (hrow 4 _ rfl).1
        obtain ⟨u1, u2, d0, d1, d2, d3, hU⟩ := low_dig LR
        have HU := Lib.hid hU; have HB := Lib.hid (And.intro u1 (And.intro u2 (And.intro d0 (And.intro d1 (And.intro d2 d3)))))
        clear hU u1 u2 d0 d1 d2 d3 hrow
        obtain ⟨r0, f0⟩ := yr' 0 _ rfl
        obtain ⟨r1, f1⟩ := yr' 1 _ rfl
        clear yr'
        go_wp2
        go_loop [9, 10] (fun vl vi => ∃ (k : Nat) (l : Int), k ≤ 4 ∧ vi = .int .i64 (3 - (k : Int)) ∧ vl = .int .i64 l ∧ Hid (Lo r k l))
          (fun _ vi => (intOf vi + 1).toNat)
        case atStart => exact ⟨0, 0, by omega, rfl, rfl, Lib.hid rfl⟩
        case round =>
          obtain ⟨k, l, hk, rfl, rfl, hL⟩ := hrel
          have hl := hL.out
          have hU := HU.out
          obtain ⟨u1, u2, d0, d1, d2, d3⟩ := HB.out
          rcases (by omega : k = 0 ∨ k = 1 ∨ k = 2 ∨ k = 3 ∨ k = 4) with rfl | rfl | rfl | rfl | rfl
          · have hl2 : l = 0 := hl
            obtain ⟨l', hl'⟩ : ∃ l', l * 65536 + r.d 3 = l' := ⟨_, rfl⟩
            have g1 : wrap64 (l * 65536) = l * 65536 := wrap_of (by unfold I64; omega)
            have g3 : wrap64 l' = l' := wrap_of (by unfold I64; omega)
            have hn : l' = r.d 3 := by omega
            have HN := Lib.hid hn
            clear hl hl2 hL hU u1 u2 d0 d1 d2 d3 hn
            go_wp2
            rw [g3]
            exact ⟨⟨1, l', by omega, by rfl, rfl, Lib.hid HN.out⟩, by simp [intOf]⟩
          · have hl2 : l = r.d 3 := hl
            obtain ⟨l', hl'⟩ : ∃ l', l * 65536 + r.d 2 = l' := ⟨_, rfl⟩
            have g1 : wrap64 (l * 65536) = l * 65536 := wrap_of (by unfold I64; omega)
            have g3 : wrap64 l' = l' := wrap_of (by unfold I64; omega)
            have hn : l' = r.d 3 * 65536 + r.d 2 := by omega
            have HN := Lib.hid hn
            clear hl hl2 hL hU u1 u2 d0 d1 d2 d3 hn
            go_wp2
            rw [g3]
            exact ⟨⟨2, l', by omega, by rfl, rfl, Lib.hid HN.out⟩, by simp [intOf]⟩
          · have hl2 : l = r.d 3 * 65536 + r.d 2 := hl
            obtain ⟨l', hl'⟩ : ∃ l', l * 65536 + r.d 1 = l' := ⟨_, rfl⟩
            have g1 : wrap64 (l * 65536) = l * 65536 := wrap_of (by unfold I64; omega)
            have g3 : wrap64 l' = l' := wrap_of (by unfold I64; omega)
            have hn : l' = (r.d 3 * 65536 + r.d 2) * 65536 + r.d 1 := by omega
            have HN := Lib.hid hn
            clear hl hl2 hL hU u1 u2 d0 d1 d2 d3 hn
            go_wp2
            rw [g3]
            exact ⟨⟨3, l', by omega, by rfl, rfl, Lib.hid HN.out⟩, by simp [intOf]⟩
          · have hl2 : l = (r.d 3 * 65536 + r.d 2) * 65536 + r.d 1 := hl
            obtain ⟨l', hl'⟩ : ∃ l', l * 65536 + r.d 0 = l' := ⟨_, rfl⟩
            have g1 : wrap64 (l * 65536) = l * 65536 := wrap_of (by unfold I64; omega)
            have g3 : wrap64 l' = l' := wrap_of (by unfold I64; omega)
            have hn : l' = ((r.d 3 * 65536 + r.d 2) * 65536 + r.d 1) * 65536 + r.d 0 := by omega
            have HN := Lib.hid hn
            clear hl hl2 hL hU u1 u2 d0 d1 d2 d3 hn
            go_wp2
            rw [g3]
            exact ⟨⟨4, l', by omega, by rfl, rfl, Lib.hid HN.out⟩, by simp [intOf]⟩
          · have hl2 : l = ((r.d 3 * 65536 + r.d 2) * 65536 + r.d 1) * 65536 + r.d 0 := hl
            have hn := norm_of hr
            have HN : Hid (normHi v = lo ∧ normLo v = l) := Lib.hid ⟨by rw [hn.1]; exact HQ.out, by rw [hn.2, hl2]; exact hU.symm⟩
            clear hl hl2 hL hU u1 u2 d0 d1 d2 d3 hn
            go_wp2
            refine bodyPost_ret (v := two (normHi v) (normLo v)) ?_ rfl ⟨rfl, hbw'.trans (by (repeat (first | (with_reducible exact Below.refl _ _) | ((with_reducible refine Below.alloc ?_ ?_ _); rotate_left; focus (first | (simp; done) | (simp; omega))) | ((with_reducible refine Below.setCell ?_ ?_ _); rotate_left; focus (first | (simp; done) | (simp; omega))) | (with_reducible refine Below.drew ?_) | (with_reducible refine Below.drewN' ?_ _))))⟩
            rw [HN.out.1, HN.out.2]
            simp [results, Tryd.results22, go_sem, r0, r1]
end Go.Proofs.YtggbnjdbbomjoaaDoor
