/- StackNone: the walk. -/
import Derived.Test.YtmlkfgoiakcnhaaGreatDoorNoSt
import Derived.Test.YtmlkfgoiakcnhaaGreatDoorOpT
import Derived.Test.YtmlkfgoiakcnhaaGreatDoorNextW
import Derived.Test.YtmlkfgoiakcnhaaGreatDoorEvWs
namespace Go.Proofs.YtmlkfgoiakcnhaaGreatDoor
open Go Go.RowKit
set_option linter.unusedVariables false
theorem cell_at {b o : Nat} {w w1 : World} {v : Value} (hb : Below w.heap.size w w1) (h : b < w.heap.size) (k : w.cell? ⟨b, o, none⟩ = some v) : w1.cell? ⟨b, o, none⟩ = some v := (hb.cell (p := ⟨b, o, none⟩) h).trans k
theorem stackKnown_calls (w : World) : Calls Tryz.prog 5 #[] w fun e w' => e = .returned (.bool true) ∧ Below w.heap.size w w' := calls_run tabOk stackKnown_run (fun σ => VRs.nil)
theorem cells10 {w : World} {b : Nat} {v0 v1 v2 v3 v4 v5 v6 v7 v8 v9 : Value} (h0 : w.cell? ⟨b, 0, none⟩ = some v0) (h1 : w.cell? ⟨b, 1, none⟩ = some v1) (h2 : w.cell? ⟨b, 2, none⟩ = some v2) (h3 : w.cell? ⟨b, 3, none⟩ = some v3) (h4 : w.cell? ⟨b, 4, none⟩ = some v4) (h5 : w.cell? ⟨b, 5, none⟩ = some v5) (h6 : w.cell? ⟨b, 6, none⟩ = some v6) (h7 : w.cell? ⟨b, 7, none⟩ = some v7) (h8 : w.cell? ⟨b, 8, none⟩ = some v8) (h9 : w.cell? ⟨b, 9, none⟩ = some v9) : CellsAt w b 0 [v0, v1, v2, v3, v4, v5, v6, v7, v8, v9] := by
  intro j q hq
  match j, hq with
  | 0, hq => simp at hq; subst hq; simpa using h0
  | 1, hq => simp at hq; subst hq; simpa using h1
  | 2, hq => simp at hq; subst hq; simpa using h2
  | 3, hq => simp at hq; subst hq; simpa using h3
  | 4, hq => simp at hq; subst hq; simpa using h4
  | 5, hq => simp at hq; subst hq; simpa using h5
  | 6, hq => simp at hq; subst hq; simpa using h6
  | 7, hq => simp at hq; subst hq; simpa using h7
  | 8, hq => simp at hq; subst hq; simpa using h8
  | 9, hq => simp at hq; subst hq; simpa using h9
  | j + 10, hq => simp at hq
/-- what stands at each round: the call's cells, and the two stacks that are none -/
def StS (w : World) (g gl : Nat) (kd n : Int) (o1 o2 o3 : Bool) (nm rs : ByteArray) (Ap Aa Ab : Option Addr) (np cp na ca nb cb : Nat) (wr : World) : Prop :=
  Below w.heap.size w wr ∧ g < wr.heap.size ∧ wr.cell? ⟨g, 1, none⟩ = some (.int .i64 n) ∧ wr.cell? ⟨g, 2, none⟩ = some (.bool o1) ∧ wr.cell? ⟨g, 3, none⟩ = some (.bool o2) ∧ wr.cell? ⟨g, 4, none⟩ = some (.bool o3) ∧ wr.cell? ⟨g, 5, none⟩ = some (.string nm) ∧ wr.cell? ⟨g, 6, none⟩ = some (.slice Ap np cp) ∧ wr.cell? ⟨g, 9, none⟩ = some (.slice Ab nb cb) ∧ gl < wr.heap.size ∧ ∀ j, j < 2 → ∃ v, wr.cell? ⟨gl, j, none⟩ = some v ∧ NoSt v wr
theorem StS.on {w : World} {g gl : Nat} {kd n : Int} {o1 o2 o3 : Bool} {nm rs : ByteArray} {Ap Aa Ab : Option Addr} {np cp na ca nb cb : Nat} {wr w' : World} (h : StS w g gl kd n o1 o2 o3 nm rs Ap Aa Ab np cp na ca nb cb wr) (hb : Below wr.heap.size wr w') : StS w g gl kd n o1 o2 o3 nm rs Ap Aa Ab np cp na ca nb cb w' := by
  obtain ⟨h0, h1, q1, q2, q3, q4, q5, q6, q9, h7, h8⟩ := h
  refine ⟨h0.trans (hb.mono h0.size), Nat.lt_of_lt_of_le h1 hb.size, cell_at hb h1 q1, cell_at hb h1 q2, cell_at hb h1 q3, cell_at hb h1 q4, cell_at hb h1 q5, cell_at hb h1 q6, cell_at hb h1 q9, Nat.lt_of_lt_of_le h7 hb.size, fun j hj => ?_⟩
  obtain ⟨v, e, hl⟩ := h8 j hj
  exact ⟨v, cell_at hb h7 e, hl.on hb⟩
set_option maxRecDepth 100000 in
set_option maxHeartbeats 8000000 in
theorem stackNone_any (kd n : Int) (o1 o2 o3 : Bool) (nm rs : ByteArray) (Ap Aa Ab : Option Addr) (np cp na ca nb cb : Nat) (b : Bool) (sb : ByteArray) (w : World) (hsb : sb.size ≤ 9223372036854775807)
    (ht : ∀ w1 g, Below w.heap.size w w1 → CellsAt w1 g 0 [.int .i64 kd, .int .i64 n, .bool o1, .bool o2, .bool o3, .string nm, .slice Ap np cp, .slice Aa na ca, .string rs, .slice Ab nb cb] → Calls Tryz.prog 4 #[.slice (some ⟨g, 0, none⟩) 1 1, .int .i64 1] w1 fun e w' => e = .returned (.bool b) ∧ Below w1.heap.size w1 w')
    (hcv : ∀ w1, Below w.heap.size w w1 → (convert 25 9 (.slice Ab nb cb)).run Tryz.prog w1 = .ok (.string sb) w1) :
    Calls Tryz.prog 3 #[.agg #[.int .i64 kd, .int .i64 n, .bool o1, .bool o2, .bool o3, .string nm, .slice Ap np cp, .slice Aa na ca, .string rs, .slice Ab nb cb]] w fun e w' => e = .returned (.bool true) ∧ Below w.heap.size w w' := by
  have HT := Lib.hid ht
  have HCV := Lib.hid hcv
  have HR := Lib.hid (fun W => read_any sb hsb W)
  clear ht hcv hsb
  go_enter Tryz.func3, Tryz.ntmps3
  go_wp2_with fail
  refine (HT.out _ _ (by (repeat (first | (with_reducible exact Below.refl _ _) | ((with_reducible refine Below.alloc ?_ ?_ _); rotate_left; focus (first | (simp; done) | (simp; omega))) | ((with_reducible refine Below.setCell ?_ ?_ _); rotate_left; focus (first | (simp; done) | (simp; omega))) | (with_reducible refine Below.drew ?_) | (with_reducible refine Below.drewN' ?_ _)))) (cells10 (by simp) (by simp) (by simp) (by simp) (by simp) (by simp) (by simp) (by simp) (by simp) (by simp))).mono ?_
  clear HT
  rintro e w1 ⟨rfl, hb1⟩
  obtain ⟨hc1, hf1⟩ := bcell hb1
  have q1 := hc1 w.heap.size 1 (by first | omega | (simp; done) | (simp; omega))
  have q2 := hc1 w.heap.size 2 (by first | omega | (simp; done) | (simp; omega))
  have q3 := hc1 w.heap.size 3 (by first | omega | (simp; done) | (simp; omega))
  have q4 := hc1 w.heap.size 4 (by first | omega | (simp; done) | (simp; omega))
  have q5 := hc1 w.heap.size 5 (by first | omega | (simp; done) | (simp; omega))
  have q6 := hc1 w.heap.size 6 (by first | omega | (simp; done) | (simp; omega))
  have q9 := hc1 w.heap.size 9 (by first | omega | (simp; done) | (simp; omega))
  simp at q1 q2 q3 q4 q5 q6 q9
  have zn : w.heap.size < w1.heap.size := by have := hb1.size; simp at this; omega
  have hbz : Below w.heap.size w w1 := by (repeat (first | (with_reducible exact Below.refl _ _) | ((with_reducible refine Below.alloc ?_ ?_ _); rotate_left; focus (first | (simp; done) | (simp; omega) | (have q0 := hb1.size; (try simp at q0); (try simp); omega))) | ((with_reducible refine Below.setCell ?_ ?_ _); rotate_left; focus (first | (simp; done) | (simp; omega) | (have q0 := hb1.size; (try simp at q0); (try simp); omega))) | (with_reducible refine Below.drew ?_) | (with_reducible refine Below.drewN' ?_ _) | (with_reducible refine Below.trans ?_ (hb1.mono ?_); rotate_left; focus (first | (simp; done) | (simp; omega) | (have q0 := hb1.size; (try simp at q0); (try simp); omega)))))
  clear hc1 hf1 hb1
  cases b
  · go_wp2_with fail
    refine (stackKnown_calls _).mono ?_; rintro e wn ⟨rfl, hbn⟩
    replace hbz := hbz.trans (hbn.mono (by omega))
    go_wp2_with fail
    go_ret
    exact ⟨rfl, hbz⟩
  · have HS : Hid (∀ wr, Below w1.heap.size w1 wr → w1.heap.size < wr.heap.size → wr.cell? ⟨w1.heap.size, 0, none⟩ = some (.pointer none) → w1.heap.size + 1 < wr.heap.size → wr.cell? ⟨w1.heap.size + 1, 0, none⟩ = some (.pointer none) → wr.cell? ⟨w1.heap.size + 1, 1, none⟩ = some (.pointer (some ⟨w1.heap.size, 0, none⟩)) →
        StS w w.heap.size (w1.heap.size + 1) kd n o1 o2 o3 nm rs Ap Aa Ab np cp na ca nb cb wr) := Lib.hid (fun wr hb z0 e0 z1 p0 p1 => by
      refine ⟨hbz.trans (hb.mono hbz.size), by omega, cell_at hb zn q1, cell_at hb zn q2, cell_at hb zn q3, cell_at hb zn q4, cell_at hb zn q5, cell_at hb zn q6, cell_at hb zn q9, z1, fun j hj => ?_⟩
      match j, hj with
      | 0, _ => exact ⟨_, p0, .inl rfl⟩
      | 1, _ => exact ⟨_, p1, .inr ⟨_, rfl, z0, e0⟩⟩)
    clear q1 q2 q3 q4 q5 q6 q9 hbz zn
    go_wp2_with fail
    go_loopw [5] (fun vi wr => ∃ k : Nat, vi = .int .i64 k ∧ k ≤ 2 ∧ Hid (StS w w.heap.size (w1.heap.size + 1) kd n o1 o2 o3 nm rs Ap Aa Ab np cp na ca nb cb wr)) (fun vi _ => 2 - (intOf vi).toNat)
    case atStart => exact ⟨0, rfl, by omega, Lib.hid (HS.out _ (by (repeat (first | (with_reducible exact Below.refl _ _) | ((with_reducible refine Below.alloc ?_ ?_ _); rotate_left; focus (first | (simp; done) | (simp; omega))) | ((with_reducible refine Below.setCell ?_ ?_ _); rotate_left; focus (first | (simp; done) | (simp; omega))) | (with_reducible refine Below.drew ?_) | (with_reducible refine Below.drewN' ?_ _)))) (by first | (simp; done) | (simp; omega)) (by simp) (by first | (simp; done) | (simp; omega)) (by simp) (by simp))⟩
    case round =>
      obtain ⟨k, rfl, hk, hs⟩ := hrel
      clear HS
      by_cases hk2 : k < 2
      · obtain ⟨s0, s1, q1, q2, q3, q4, q5, q6, q9, s7, s8⟩ := hs.out
        obtain ⟨v, p0, hv⟩ := s8 k hk2
        have HV := Lib.hid hv
        have hcvr := HCV.out _ s0
        clear s8 hv
        go_wp2_with fail
        refine (HR.out _).mono ?_
        rintro e w2 ⟨⟨v2, rfl, x0, x1, x2, x3, A4, n4, c4, rfl⟩, hb⟩
        clear hcvr p0
        replace hs := Lib.hid (hs.out.on hb)
        replace HV := Lib.hid (HV.out.on hb)
        clear hb s0 s1 q1 q2 q3 q4 q5 q6 q9 s7
        obtain ⟨s0, s1, q1, q2, q3, q4, q5, q6, q9, s7, s8⟩ := hs.out
        clear s8
        go_wp2_with fail
        refine (term_no HV.out x0 x1 x2 x3 A4 n4 c4).mono ?_
        rintro e w3 ⟨rfl, hb⟩
        replace hs := Lib.hid (hs.out.on hb)
        replace HV := Lib.hid (HV.out.on hb)
        clear hb s0 s1 q1 q2 q3 q4 q5 q6 q9 s7
        obtain ⟨s0, s1, q1, q2, q3, q4, q5, q6, q9, s7, s8⟩ := hs.out
        clear s8
        go_wp2_with fail
        refine (logic_no (HV.out.on (by (repeat (first | (with_reducible exact Below.refl _ _) | ((with_reducible refine Below.alloc ?_ ?_ _); rotate_left; focus (first | (simp; done) | (simp; omega))) | ((with_reducible refine Below.setCell ?_ ?_ _); rotate_left; focus (first | (simp; done) | (simp; omega))) | (with_reducible refine Below.drew ?_) | (with_reducible refine Below.drewN' ?_ _)))))).mono ?_
        rintro e w4 ⟨rfl, hb0⟩
        obtain ⟨hc1, hf1⟩ := bcell hb0
        have t0 := hc1 w3.heap.size 0 (by first | omega | (simp; done) | (simp; omega))
        have t1 := hc1 w3.heap.size 1 (by first | omega | (simp; done) | (simp; omega))
        have t2 := hc1 w3.heap.size 2 (by first | omega | (simp; done) | (simp; omega))
        have t3 := hc1 w3.heap.size 3 (by first | omega | (simp; done) | (simp; omega))
        have t4 := hc1 w3.heap.size 4 (by first | omega | (simp; done) | (simp; omega))
        simp at t0 t1 t2 t3 t4
        have zt : w3.heap.size < w4.heap.size := by have := hb0.size; simp at this; omega
        have hb : Below w3.heap.size w3 w4 := by (repeat (first | (with_reducible exact Below.refl _ _) | ((with_reducible refine Below.alloc ?_ ?_ _); rotate_left; focus (first | (simp; done) | (simp; omega) | (have q0 := hb0.size; (try simp at q0); (try simp); omega))) | ((with_reducible refine Below.setCell ?_ ?_ _); rotate_left; focus (first | (simp; done) | (simp; omega) | (have q0 := hb0.size; (try simp at q0); (try simp); omega))) | (with_reducible refine Below.drew ?_) | (with_reducible refine Below.drewN' ?_ _) | (with_reducible refine Below.trans ?_ (hb0.mono ?_); rotate_left; focus (first | (simp; done) | (simp; omega) | (have q0 := hb0.size; (try simp at q0); (try simp); omega)))))
        clear hc1 hf1 hb0
        replace hs := Lib.hid (hs.out.on hb)
        replace HV := Lib.hid (HV.out.on hb)
        clear hb s0 s1 q1 q2 q3 q4 q5 q6 q9 s7
        obtain ⟨s0, s1, q1, q2, q3, q4, q5, q6, q9, s7, s8⟩ := hs.out
        clear s8
        go_wp2_with fail
        refine (set_no HV.out o1 o2 o3).mono ?_
        rintro e w5 ⟨rfl, hb⟩
        replace hs := Lib.hid (hs.out.on hb)
        replace HV := Lib.hid (HV.out.on hb)
        replace t0 := cell_at hb zt t0
        replace t1 := cell_at hb zt t1
        replace t2 := cell_at hb zt t2
        replace t3 := cell_at hb zt t3
        replace t4 := cell_at hb zt t4
        replace zt := Nat.lt_of_lt_of_le zt hb.size
        clear hb s0 s1 q1 q2 q3 q4 q5 q6 q9 s7
        obtain ⟨s0, s1, q1, q2, q3, q4, q5, q6, q9, s7, s8⟩ := hs.out
        clear s8
        go_wp2_with fail
        refine (declareSort_no HV.out nm).mono ?_
        rintro e w6 ⟨rfl, hb⟩
        replace hs := Lib.hid (hs.out.on hb)
        replace HV := Lib.hid (HV.out.on hb)
        replace t0 := cell_at hb zt t0
        replace t1 := cell_at hb zt t1
        replace t2 := cell_at hb zt t2
        replace t3 := cell_at hb zt t3
        replace t4 := cell_at hb zt t4
        replace zt := Nat.lt_of_lt_of_le zt hb.size
        clear hb s0 s1 q1 q2 q3 q4 q5 q6 q9 s7
        obtain ⟨s0, s1, q1, q2, q3, q4, q5, q6, q9, s7, s8⟩ := hs.out
        clear s8
        go_wp2_with fail
        refine (declareFun_no HV.out nm).mono ?_
        rintro e w7 ⟨rfl, hb⟩
        replace hs := Lib.hid (hs.out.on hb)
        replace HV := Lib.hid (HV.out.on hb)
        replace t0 := cell_at hb zt t0
        replace t1 := cell_at hb zt t1
        replace t2 := cell_at hb zt t2
        replace t3 := cell_at hb zt t3
        replace t4 := cell_at hb zt t4
        replace zt := Nat.lt_of_lt_of_le zt hb.size
        clear hb s0 s1 q1 q2 q3 q4 q5 q6 q9 s7
        obtain ⟨s0, s1, q1, q2, q3, q4, q5, q6, q9, s7, s8⟩ := hs.out
        clear s8
        go_wp2_with fail
        refine (defineFun_no HV.out nm Ap np cp).mono ?_
        rintro e w8 ⟨rfl, hb⟩
        replace hs := Lib.hid (hs.out.on hb)
        replace HV := Lib.hid (HV.out.on hb)
        replace t0 := cell_at hb zt t0
        replace t1 := cell_at hb zt t1
        replace t2 := cell_at hb zt t2
        replace t3 := cell_at hb zt t3
        replace t4 := cell_at hb zt t4
        replace zt := Nat.lt_of_lt_of_le zt hb.size
        clear hb s0 s1 q1 q2 q3 q4 q5 q6 q9 s7
        obtain ⟨s0, s1, q1, q2, q3, q4, q5, q6, q9, s7, s8⟩ := hs.out
        clear s8
        go_wp2_with fail
        refine (assert_no HV.out).mono ?_
        rintro e w9 ⟨rfl, hb⟩
        replace hs := Lib.hid (hs.out.on hb)
        replace HV := Lib.hid (HV.out.on hb)
        replace t0 := cell_at hb zt t0
        replace t1 := cell_at hb zt t1
        replace t2 := cell_at hb zt t2
        replace t3 := cell_at hb zt t3
        replace t4 := cell_at hb zt t4
        replace zt := Nat.lt_of_lt_of_le zt hb.size
        clear hb s0 s1 q1 q2 q3 q4 q5 q6 q9 s7
        obtain ⟨s0, s1, q1, q2, q3, q4, q5, q6, q9, s7, s8⟩ := hs.out
        clear s8
        go_wp2_with fail
        refine (push_no HV.out n).mono ?_
        rintro e w10 ⟨rfl, hb⟩
        replace hs := Lib.hid (hs.out.on hb)
        replace HV := Lib.hid (HV.out.on hb)
        replace t0 := cell_at hb zt t0
        replace t1 := cell_at hb zt t1
        replace t2 := cell_at hb zt t2
        replace t3 := cell_at hb zt t3
        replace t4 := cell_at hb zt t4
        replace zt := Nat.lt_of_lt_of_le zt hb.size
        clear hb s0 s1 q1 q2 q3 q4 q5 q6 q9 s7
        obtain ⟨s0, s1, q1, q2, q3, q4, q5, q6, q9, s7, s8⟩ := hs.out
        clear s8
        go_wp2_with fail
        refine (pop_no HV.out n).mono ?_
        rintro e w11 ⟨rfl, hb⟩
        replace hs := Lib.hid (hs.out.on hb)
        replace HV := Lib.hid (HV.out.on hb)
        replace t0 := cell_at hb zt t0
        replace t1 := cell_at hb zt t1
        replace t2 := cell_at hb zt t2
        replace t3 := cell_at hb zt t3
        replace t4 := cell_at hb zt t4
        replace zt := Nat.lt_of_lt_of_le zt hb.size
        clear hb s0 s1 q1 q2 q3 q4 q5 q6 q9 s7
        obtain ⟨s0, s1, q1, q2, q3, q4, q5, q6, q9, s7, s8⟩ := hs.out
        clear s8
        go_wp2_with fail
        refine (hasLogic_no HV.out).mono ?_
        rintro e w12 ⟨rfl, hb⟩
        replace hs := Lib.hid (hs.out.on hb)
        replace HV := Lib.hid (HV.out.on hb)
        replace t0 := cell_at hb zt t0
        replace t1 := cell_at hb zt t1
        replace t2 := cell_at hb zt t2
        replace t3 := cell_at hb zt t3
        replace t4 := cell_at hb zt t4
        replace zt := Nat.lt_of_lt_of_le zt hb.size
        clear hb s0 s1 q1 q2 q3 q4 q5 q6 q9 s7
        obtain ⟨s0, s1, q1, q2, q3, q4, q5, q6, q9, s7, s8⟩ := hs.out
        clear s8
        go_wp2_with fail
        refine (level_no HV.out).mono ?_
        rintro e w13 ⟨rfl, hb⟩
        replace hs := Lib.hid (hs.out.on hb)
        replace HV := Lib.hid (HV.out.on hb)
        replace t0 := cell_at hb zt t0
        replace t1 := cell_at hb zt t1
        replace t2 := cell_at hb zt t2
        replace t3 := cell_at hb zt t3
        replace t4 := cell_at hb zt t4
        replace zt := Nat.lt_of_lt_of_le zt hb.size
        clear hb s0 s1 q1 q2 q3 q4 q5 q6 q9 s7
        obtain ⟨s0, s1, q1, q2, q3, q4, q5, q6, q9, s7, s8⟩ := hs.out
        clear s8
        go_wp2_with fail
        refine (assertions_no HV.out).mono ?_
        rintro e w14 ⟨rfl, hb⟩
        replace hs := Lib.hid (hs.out.on hb)
        replace HV := Lib.hid (HV.out.on hb)
        replace t0 := cell_at hb zt t0
        replace t1 := cell_at hb zt t1
        replace t2 := cell_at hb zt t2
        replace t3 := cell_at hb zt t3
        replace t4 := cell_at hb zt t4
        replace zt := Nat.lt_of_lt_of_le zt hb.size
        clear hb s0 s1 q1 q2 q3 q4 q5 q6 q9 s7
        obtain ⟨s0, s1, q1, q2, q3, q4, q5, q6, q9, s7, s8⟩ := hs.out
        clear s8
        go_wp2_with fail
        refine (book_no HV.out).mono ?_
        rintro e w15 ⟨rfl, hb⟩
        replace hs := Lib.hid (hs.out.on hb)
        replace HV := Lib.hid (HV.out.on hb)
        replace t0 := cell_at hb zt t0
        replace t1 := cell_at hb zt t1
        replace t2 := cell_at hb zt t2
        replace t3 := cell_at hb zt t3
        replace t4 := cell_at hb zt t4
        replace zt := Nat.lt_of_lt_of_le zt hb.size
        clear hb s0 s1 q1 q2 q3 q4 q5 q6 q9 s7
        obtain ⟨s0, s1, q1, q2, q3, q4, q5, q6, q9, s7, s8⟩ := hs.out
        clear s8
        go_wp2_with fail
        refine (options_no HV.out).mono ?_
        rintro e w16 ⟨rfl, hb⟩
        replace hs := Lib.hid (hs.out.on hb)
        replace HV := Lib.hid (HV.out.on hb)
        replace t0 := cell_at hb zt t0
        replace t1 := cell_at hb zt t1
        replace t2 := cell_at hb zt t2
        replace t3 := cell_at hb zt t3
        replace t4 := cell_at hb zt t4
        replace zt := Nat.lt_of_lt_of_le zt hb.size
        clear hb s0 s1 q1 q2 q3 q4 q5 q6 q9 s7
        obtain ⟨s0, s1, q1, q2, q3, q4, q5, q6, q9, s7, s8⟩ := hs.out
        clear s8
        go_wp2_with fail
        exact ⟨⟨k + 1, rfl, by omega, hs⟩, by simp [intOf]; omega⟩
      · obtain rfl : k = 2 := by omega
        go_wp2_with fail
        refine (stackKnown_calls _).mono ?_; rintro e wn ⟨rfl, hbn⟩
        have hbz := hs.out.1.trans (hbn.mono hs.out.1.size)
        go_wp2_with fail
        go_ret
        exact ⟨rfl, hbz⟩
end Go.Proofs.YtmlkfgoiakcnhaaGreatDoor
