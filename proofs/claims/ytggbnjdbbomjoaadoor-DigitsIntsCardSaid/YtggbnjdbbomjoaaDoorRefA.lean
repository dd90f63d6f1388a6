/- Walks of the reference of layer 1: rows of digits. -/
import Derived.Test.YtggbnjdbbomjoaaDoorReg
import Derived.ChangeKeysEq
import Derived.BigQuiet
import Derived.Deep.QuietTactic
namespace Go.Proofs.YtggbnjdbbomjoaaDoor
open Go.RowKit

/-- a row of ten digits, as a value -/
abbrev arr (d : Nat → Int) : Value := .agg #[.int .i64 (d 0), .int .i64 (d 1), .int .i64 (d 2), .int .i64 (d 3), .int .i64 (d 4), .int .i64 (d 5), .int .i64 (d 6), .int .i64 (d 7), .int .i64 (d 8), .int .i64 (d 9)]
/-- a row in memory -/
def Row (w : World) (b : Nat) (d : Nat → Int) : Prop := ∀ i, i < 10 → w.cell? ⟨b, i, none⟩ = some (.int .i64 (d i))
theorem inst10 {p : Nat → Prop} (h : ∀ i, i < 10 → p i) : p 0 ∧ p 1 ∧ p 2 ∧ p 3 ∧ p 4 ∧ p 5 ∧ p 6 ∧ p 7 ∧ p 8 ∧ p 9 :=
  ⟨h 0 (by omega), h 1 (by omega), h 2 (by omega), h 3 (by omega), h 4 (by omega), h 5 (by omega), h 6 (by omega), h 7 (by omega), h 8 (by omega), h 9 (by omega)⟩
theorem all10 {p : Nat → Prop} (h : p 0 ∧ p 1 ∧ p 2 ∧ p 3 ∧ p 4 ∧ p 5 ∧ p 6 ∧ p 7 ∧ p 8 ∧ p 9) : ∀ i, i < 10 → p i := by
  obtain ⟨h0, h1, h2, h3, h4, h5, h6, h7, h8, h9⟩ := h
  intro i hi
  have : i = 0 ∨ i = 1 ∨ i = 2 ∨ i = 3 ∨ i = 4 ∨ i = 5 ∨ i = 6 ∨ i = 7 ∨ i = 8 ∨ i = 9 := by omega
  rcases this with rfl | rfl | rfl | rfl | rfl | rfl | rfl | rfl | rfl | rfl <;> assumption
theorem row_of_alloc (w : World) (d : Nat → Int) (t : TypeId) : Row (w.alloc (.cells #[.int .i64 (d 0), .int .i64 (d 1), .int .i64 (d 2), .int .i64 (d 3), .int .i64 (d 4), .int .i64 (d 5), .int .i64 (d 6), .int .i64 (d 7), .int .i64 (d 8), .int .i64 (d 9)] t)) w.heap.size d := by
  refine all10 ?_
  simp [go_sem]
/-- a row that may be written -/
def RowW (w : World) (b : Nat) (d : Nat → Int) : Prop := ∀ i, i < 10 → w.cell? ⟨b, i, none⟩ = some (.int .i64 (d i)) ∧ w.frozen? ⟨b, i, none⟩ = false
theorem RowW.set {w : World} {b : Nat} {d e : Nat → Int} (h : RowW w b d) (k : Nat) (x : Int) (hk : k < 10) (he : ∀ i, i < 10 → e i = if i = k then x else d i) : RowW (w.setCell ⟨b, k, none⟩ (.int .i64 x)) b e := by
  intro i hi
  have h1 := h i hi
  have h2 := h k hk
  rw [he i hi]
  by_cases e : i = k
  · subst e; simp [go_sem, h1]
  · simp [go_sem, h1, e]
theorem RowW.drewN {w : World} {b : Nat} {d : Nat → Int} (h : RowW w b d) (n : Nat) : RowW (w.drewN n) b d := h
theorem RowW.below {w w' : World} {b : Nat} {d : Nat → Int} {B : Nat} (h : RowW w b d) (hb : Below B w w') (hB : b < B) : RowW w' b d :=
  fun i hi => by rw [hb.cell (p := ⟨b, i, none⟩) hB, hb.frozen (p := ⟨b, i, none⟩) hB]; exact h i hi
theorem Row.below {w w' : World} {b : Nat} {d : Nat → Int} {B : Nat} (h : Row w b d) (hb : Below B w w') (hB : b < B) : Row w' b d :=
  fun i hi => by rw [hb.cell (p := ⟨b, i, none⟩) hB]; exact h i hi
theorem RowW.put {w : World} {b : Nat} {d z : Nat → Int} {k : Nat} (h : RowW w b (fun j => if j < k then d j else z j)) (hk : k < 10) : RowW (w.setCell ⟨b, k, none⟩ (.int .i64 (d k))) b (fun j => if j < k + 1 then d j else z j) := by
  refine h.set k _ hk ?_
  intro i hi
  by_cases e : i = k
  · subst e; simp
  · rw [if_neg e]
    by_cases e2 : i < k
    · rw [if_pos e2, if_pos (by omega)]
    · rw [if_neg e2, if_neg (by omega)]
theorem RowW.put10 {w : World} {b : Nat} {z : Nat → Int} (h : RowW w b z) (d : Nat → Int) : RowW ((((((((((w.setCell ⟨b, 0, none⟩ (.int .i64 (d 0))).setCell ⟨b, 1, none⟩ (.int .i64 (d 1))).setCell ⟨b, 2, none⟩ (.int .i64 (d 2))).setCell ⟨b, 3, none⟩ (.int .i64 (d 3))).setCell ⟨b, 4, none⟩ (.int .i64 (d 4))).setCell ⟨b, 5, none⟩ (.int .i64 (d 5))).setCell ⟨b, 6, none⟩ (.int .i64 (d 6))).setCell ⟨b, 7, none⟩ (.int .i64 (d 7))).setCell ⟨b, 8, none⟩ (.int .i64 (d 8))).setCell ⟨b, 9, none⟩ (.int .i64 (d 9))) b d := by
  have h0 : RowW w b (fun j => if j < 0 then d j else z j) := by simpa using h
  have h9 := (((((((((h0.put (by omega)).put (by omega)).put (by omega)).put (by omega)).put (by omega)).put (by omega)).put (by omega)).put (by omega)).put (by omega)).put (k := 9) (by omega)
  intro i hi
  have q := h9 i hi
  simp only [Nat.reduceAdd, if_pos hi] at q
  exact q
theorem RowW.row {w : World} {b : Nat} {d : Nat → Int} (h : RowW w b d) : Row w b d := fun i hi => (h i hi).1
def Dig (d : Nat → Int) : Prop := ∀ i, i < 10 → 0 ≤ d i ∧ d i < 65536

abbrev arrC (d : Nat → Int) : Array Value := #[.int .i64 (d 0), .int .i64 (d 1), .int .i64 (d 2), .int .i64 (d 3), .int .i64 (d 4), .int .i64 (d 5), .int .i64 (d 6), .int .i64 (d 7), .int .i64 (d 8), .int .i64 (d 9)]
theorem part_row (d : Nat → Int) (w : World) : ∀ i, i < 10 → (part 2 (arrC d) (i * Tryd.prog.cellsOf 2)).run Tryd.prog w = .ok (.int .i64 (d i)) w := by
  refine all10 ⟨?_, ?_, ?_, ?_, ?_, ?_, ?_, ?_, ?_, ?_⟩ <;> kernel_rfl
theorem run_items (a b : Nat → Int) (w : World) (D : Nat) : ∀ (is : List Nat), (∀ i ∈ is, i < 10) →
    (Op.eqItems (D + 1) 2 (Tryd.prog.cellsOf 2) (arrC a) (arrC b) is).run Tryd.prog w = .ok (is.all fun i => a i == b i) w
  | [], _ => by simp [Op.eqItems]
  | i :: is, h => by
    have hi := h i (by simp)
    simp only [Op.eqItems, Sem.run_bind, part_row a w i hi, part_row b w i hi, Result.andThen_ok, run_equalIn_int w D 2 .i64 .i64 (a i) (b i) Tryd.underlying2]
    by_cases e : a i = b i
    · simp [e, run_items a b w D is (fun j hj => h j (by simp [hj]))]
    · simp [e]
def eq10 (a b : Nat → Int) : Bool := (List.range 10).all fun i => a i == b i
theorem run_eq10 (a b : Nat → Int) (w : World) : (Op.equalIn 10000 28 (arr a) (arr b)).run Tryd.prog w = .ok (eq10 a b) w := by
  obtain ⟨i, hi⟩ : ∃ i, Tryd.prog.info? 2 = some i := ⟨_, rfl⟩
  rw [run_equalIn_array (d := 9999) (w := w) (arrC a) (arrC b) Tryd.underlying28 hi]
  exact run_items a b w 9998 (List.range 10) (fun i hi => by simpa using hi)
set_option maxRecDepth 100000 in
theorem results_row {fn : Func} {p : Nat} (h : fn.results = #[.cell p 28]) (tmps : Array Value) {b : Nat} (hp : tmps.getD p undef = .pointer (some ⟨b, 0, none⟩)) {w : World} {d : Nat → Int} (hr : Row w b d) :
    (results fn tmps).run Tryd.prog w = .ok (arr d) w := by
  obtain ⟨h0, h1, h2, h3, h4, h5, h6, h7, h8, h9⟩ := inst10 hr
  have hp' : tmps[p]?.getD undef = .pointer (some ⟨b, 0, none⟩) := by simpa using hp
  simp [results, h, hp', go_sem, h0, h1, h2, h3, h4, h5, h6, h7, h8, h9]
def zeroB (d : Nat → Int) : Bool := eq10 d (fun _ => 0)

set_option maxRecDepth 100000 in
theorem zero_any (d : Nat → Int) (w : World) :
    Calls Tryd.prog 31 #[arr d] w fun e w' => e = .returned (.bool (zeroB d)) ∧ Below w.heap.size w w' := by
  have h := run_eq10 d (fun _ => 0)
  go_enter Tryd.func31, Tryd.ntmps31
  go_wp2
  go_ret
  exact ⟨rfl, by (repeat (first | (with_reducible exact Below.refl _ _) | ((with_reducible refine Below.alloc ?_ ?_ _); rotate_left; focus (first | (simp; done) | (simp; omega))) | ((with_reducible refine Below.setCell ?_ ?_ _); rotate_left; focus (first | (simp; done) | (simp; omega))) | (with_reducible refine Below.drew ?_) | (with_reducible refine Below.drewN' ?_ _)))⟩

def sumC (a b : Nat → Int) : Nat → Int
  | 0 => 0
  | i + 1 => (sumC a b i + a i + b i) / 65536
def sumD (a b : Nat → Int) (i : Nat) : Int := (sumC a b i + a i + b i) % 65536
theorem sumC_bd {a b : Nat → Int} (ha : Dig a) (hb : Dig b) : ∀ i, i ≤ 10 → 0 ≤ sumC a b i ∧ sumC a b i ≤ 1
  | 0, _ => by simp [sumC]
  | i + 1, h => by
    have := sumC_bd ha hb i (by omega); have h1 := ha i (by omega); have h2 := hb i (by omega)
    simp only [sumC]; omega

set_option maxRecDepth 100000 in
set_option maxHeartbeats 1000000 in
theorem sum_any (a b : Nat → Int) (ha : Dig a) (hb : Dig b) (w : World) :
    Calls Tryd.prog 33 #[arr a, arr b] w fun e w' => e = .returned (arr (sumD a b)) ∧ Below w.heap.size w w' := by
  go_enter Tryd.func33, Tryd.ntmps33
  go_wp2
  go_loopw [6, 7] (fun c i wr => ∃ k : Nat, k ≤ 10 ∧ i = .int .i64 k ∧ c = .int .i64 (sumC a b k) ∧ Row wr w.heap.size a ∧ Row wr (w.heap.size + 1) b ∧ RowW wr (w.heap.size + 1 + 1) (fun _ => 0) ∧ RowW wr (w.heap.size + 1 + 1 + 1) (fun j => if j < k then sumD a b j else 0) ∧ Below w.heap.size w wr)
    (fun _ i _ => 10 - (intOf i).toNat)
  case atStart =>
    refine ⟨0, by omega, rfl, rfl, ?_, ?_, ?_, ?_, by (repeat (first | (with_reducible exact Below.refl _ _) | ((with_reducible refine Below.alloc ?_ ?_ _); rotate_left; focus (first | (simp; done) | (simp; omega))) | ((with_reducible refine Below.setCell ?_ ?_ _); rotate_left; focus (first | (simp; done) | (simp; omega))) | (with_reducible refine Below.drew ?_) | (with_reducible refine Below.drewN' ?_ _)))⟩
    · refine Row.below (row_of_alloc w a 28) (B := w.heap.size + 1) ?_ (by omega); (repeat (first | (with_reducible exact Below.refl _ _) | ((with_reducible refine Below.alloc ?_ ?_ _); rotate_left; focus (first | (simp; done) | (simp; omega))) | ((with_reducible refine Below.setCell ?_ ?_ _); rotate_left; focus (first | (simp; done) | (simp; omega))) | (with_reducible refine Below.drew ?_) | (with_reducible refine Below.drewN' ?_ _)))
    · refine Row.below (B := w.heap.size + 1 + 1) (w := (w.alloc (.cells (arrC a) 28)).alloc (.cells (arrC b) 28)) ?_ ?_ (by omega)
      · have := row_of_alloc (w.alloc (.cells (arrC a) 28)) b 28; simpa using this
      · (repeat (first | (with_reducible exact Below.refl _ _) | ((with_reducible refine Below.alloc ?_ ?_ _); rotate_left; focus (first | (simp; done) | (simp; omega))) | ((with_reducible refine Below.setCell ?_ ?_ _); rotate_left; focus (first | (simp; done) | (simp; omega))) | (with_reducible refine Below.drew ?_) | (with_reducible refine Below.drewN' ?_ _)))
    · refine all10 ?_
      simp [go_sem]
    · refine all10 ?_
      simp [go_sem]
  case round =>
    obtain ⟨k, hk, rfl, rfl, ra, rb, rz, rc, hbr⟩ := hrel
    by_cases hk10 : k < 10
    · have ca := ra k hk10
      have cb := rb k hk10
      have cc := rc k hk10
      obtain ⟨s0, s1⟩ := sumC_bd ha hb k hk
      obtain ⟨a0, a1⟩ := ha k hk10
      obtain ⟨b0, b1⟩ := hb k hk10
      have RA := Lib.hid ra; have RB := Lib.hid rb; have RC := Lib.hid rc; have RZ := Lib.hid rz; clear ra rb rc rz
      obtain ⟨cc1, cc2⟩ := cc
      go_wp2
      go_quiet (fail)
      go_wp2
      refine ⟨⟨k + 1, by omega, by go_num, by rfl, RA.out.below (B := w.heap.size + 1 + 1) (by (repeat (first | (with_reducible exact Below.refl _ _) | ((with_reducible refine Below.alloc ?_ ?_ _); rotate_left; focus (first | (simp; done) | (simp; omega))) | ((with_reducible refine Below.setCell ?_ ?_ _); rotate_left; focus (first | (simp; done) | (simp; omega))) | (with_reducible refine Below.drew ?_) | (with_reducible refine Below.drewN' ?_ _)))) (by omega), RB.out.below (B := w.heap.size + 1 + 1) (by (repeat (first | (with_reducible exact Below.refl _ _) | ((with_reducible refine Below.alloc ?_ ?_ _); rotate_left; focus (first | (simp; done) | (simp; omega))) | ((with_reducible refine Below.setCell ?_ ?_ _); rotate_left; focus (first | (simp; done) | (simp; omega))) | (with_reducible refine Below.drew ?_) | (with_reducible refine Below.drewN' ?_ _)))) (by omega), RZ.out.below (B := w.heap.size + 1 + 1 + 1) (by (repeat (first | (with_reducible exact Below.refl _ _) | ((with_reducible refine Below.alloc ?_ ?_ _); rotate_left; focus (first | (simp; done) | (simp; omega))) | ((with_reducible refine Below.setCell ?_ ?_ _); rotate_left; focus (first | (simp; done) | (simp; omega))) | (with_reducible refine Below.drew ?_) | (with_reducible refine Below.drewN' ?_ _)))) (by omega), (RC.out.drewN nq).set k _ hk10 ?_, (hbr.trans (by (repeat (first | (with_reducible exact Below.refl _ _) | ((with_reducible refine Below.alloc ?_ ?_ _); rotate_left; focus (first | (simp; done) | (simp; omega))) | ((with_reducible refine Below.setCell ?_ ?_ _); rotate_left; focus (first | (simp; done) | (simp; omega))) | (with_reducible refine Below.drew ?_) | (with_reducible refine Below.drewN' ?_ _)))) : Below w.heap.size w _)⟩, by simp [intOf]; omega⟩
      intro i hi
      by_cases e : i = k
      · subst e; simp [sumD]
      · rw [if_neg e]
        by_cases e2 : i < k
        · rw [if_pos e2, if_pos (by omega)]
        · rw [if_neg e2, if_neg (by omega)]
    · have hk : k = 10 := by omega
      subst hk
      obtain ⟨⟨c0, cf0⟩, ⟨c1, cf1⟩, ⟨c2, cf2⟩, ⟨c3, cf3⟩, ⟨c4, cf4⟩, ⟨c5, cf5⟩, ⟨c6, cf6⟩, ⟨c7, cf7⟩, ⟨c8, cf8⟩, ⟨c9, cf9⟩⟩ := inst10 rc; simp at c0 c1 c2 c3 c4 c5 c6 c7 c8 c9; clear cf0 cf1 cf2 cf3 cf4 cf5 cf6 cf7 cf8 cf9
      have RZ := Lib.hid rz
      obtain ⟨⟨z0, zf0⟩, ⟨z1, zf1⟩, ⟨z2, zf2⟩, ⟨z3, zf3⟩, ⟨z4, zf4⟩, ⟨z5, zf5⟩, ⟨z6, zf6⟩, ⟨z7, zf7⟩, ⟨z8, zf8⟩, ⟨z9, zf9⟩⟩ := inst10 rz; simp at z0 z1 z2 z3 z4 z5 z6 z7 z8 z9
      clear ra rb rc rz
      go_wp2
      have hrow := (RZ.out.put10 (sumD a b)).row
      refine bodyPost_ret (v := arr (sumD a b)) ?_ rfl ⟨rfl, ?_⟩
      · exact results_row Tryd.results33 _ (by rfl) hrow
      · exact hbr.trans (by (repeat (first | (with_reducible exact Below.refl _ _) | ((with_reducible refine Below.alloc ?_ ?_ _); rotate_left; focus (first | (simp; done) | (simp; omega))) | ((with_reducible refine Below.setCell ?_ ?_ _); rotate_left; focus (first | (simp; done) | (simp; omega))) | (with_reducible refine Below.drew ?_) | (with_reducible refine Below.drewN' ?_ _))))
end Go.Proofs.YtggbnjdbbomjoaaDoor
