/- Walks of the reference of layer 1: Text. -/
import Derived.Test.YtggbnjdbbomjoaaDoorRefN
import Derived.Test.YtggbnjdbbomjoaaDoorDigF
namespace Go.Proofs.YtggbnjdbbomjoaaDoor
open Go.RowKit
/-- long division of a row by ten, from the highest digit: the rest behind k digits; the quotient's digits -/
def rem10 (d : Nat → Int) : Nat → Int
  | 0 => 0
  | k + 1 => (rem10 d k * 65536 + d (9 - k)) % 10
def quo10 (d : Nat → Int) (i : Nat) : Int := (rem10 d (9 - i) * 65536 + d i) / 10
theorem rem10_bd (d : Nat → Int) : ∀ k, 0 ≤ rem10 d k ∧ rem10 d k ≤ 9
  | 0 => by simp [rem10]
  | k + 1 => by simp only [rem10]; omega
theorem quo10_dig {d : Nat → Int} (h : Dig d) : Dig (quo10 d) := fun i hi => by
  have := h i hi; have := rem10_bd d (9 - i); unfold quo10; omega
theorem div10_val (d : Nat → Int) : ∀ n, n ≤ 10 → vD d n + rem10 d (10 - n) * 65536 ^ n = 10 * vD (quo10 d) n + rem10 d 10
  | 0, _ => by simp [vD]
  | n + 1, hn => by
    have ih := div10_val d n (by omega)
    have e1 : rem10 d (10 - n) = (rem10 d (9 - n) * 65536 + d n) % 10 := by
      rw [show 10 - n = (9 - n) + 1 by omega]
      simp only [rem10]
      rw [show 9 - (9 - n) = n by omega]
    have e2 : rem10 d (9 - n) * 65536 + d n = 10 * quo10 d n + rem10 d (10 - n) := by rw [e1]; unfold quo10; omega
    rw [show 10 - (n + 1) = 9 - n by omega]
    simp only [vD, pw_succ]
    generalize (65536 : Int) ^ n = p at *
    have e3 : (rem10 d (9 - n) * 65536 + d n) * p = (10 * quo10 d n + rem10 d (10 - n)) * p := by rw [e2]
    rw [Int.add_mul, Int.add_mul, Int.mul_assoc, Int.mul_assoc, Int.mul_comm 65536 p] at e3
    rw [Int.mul_add]
    omega
theorem div10_all (d : Nat → Int) : vD d 10 / 10 = vD (quo10 d) 10 ∧ vD d 10 % 10 = rem10 d 10 := by
  have h := div10_val d 10 (by omega)
  have hb := rem10_bd d 10
  have e0 : rem10 d (10 - 10) = 0 := rfl
  rw [e0, Int.zero_mul] at h
  generalize rem10 d 10 = r at *
  constructor <;> omega
theorem wr_len49 {N : Int} {t : List UInt8} {M : Nat} (h : Wr N t M) (hM : M < 10 ^ 49) : t.length ≤ 49 := by
  have := dec_len 48 M hM
  rcases h with ⟨h, _⟩ | ⟨_, h⟩
  · rw [h]; simp
  · rw [← h] at this; split at this <;> simp at this <;> omega
theorem app_bytes (a b : List UInt8) : (ByteArray.mk a.toArray ++ ByteArray.mk b.toArray) = ByteArray.mk (a ++ b).toArray := by
  apply ByteArray.ext
  simp
set_option maxRecDepth 100000 in
set_option maxHeartbeats 1000000 in
theorem refText_pos (x : Lg) (v : Int) (A : Lw v x) (hz : zeroB x.d = false) (w : World) :
    Calls Tryd.prog 13 #[lgV x] w fun e w' => e = .returned (.string ⟨(Lib.itoa v).toArray⟩) ∧ Below w.heap.size w w' := by
  obtain ⟨m, d⟩ := x
  have hdig : Dig d := A.dig
  have hbd := vD_bd hdig 10 (by omega)
  obtain ⟨M, hM⟩ := Int.eq_ofNat_of_zero_le hbd.1
  have hM49 : M < 10 ^ 49 := by
    have : (65536 : Int) ^ 10 = 1461501637330902918203684832716283019655932542976 := by decide
    have : (10 : Nat) ^ 49 = 10000000000000000000000000000000000000000000000000 := by decide
    omega
  have hv : v = if m = true then -(M : Int) else M := by rw [← A.val]; unfold vL; rw [hM]
  have hM0 : M ≠ 0 := by
    intro e; rw [e] at hM
    have := (zeroB_val hdig).2 hM
    rw [this] at hz; cases hz
  have HV := Lib.hid hv; have HM := Lib.hid hM; have HM49 := Lib.hid hM49; have HM0 := Lib.hid hM0
  clear A hbd hv hM hM49 hM0
  go_enter Tryd.func13, Tryd.ntmps13
  go_wp2_with fail
  refine (zero_any d _).mono ?_; rintro e w1 ⟨rfl, hb1⟩
  rw [hz]
  have q1 : w.heap.size < w1.heap.size := by have := hb1.size; simp at this; omega
  have hbw : Below w.heap.size w w1 := by (repeat (first | (with_reducible exact Below.refl _ _) | ((with_reducible refine Below.alloc ?_ ?_ _); rotate_left; focus (first | (simp; done) | (simp; omega) | (have q0 := hb1.size; (try simp at q0); (try simp); omega))) | ((with_reducible refine Below.setCell ?_ ?_ _); rotate_left; focus (first | (simp; done) | (simp; omega) | (have q0 := hb1.size; (try simp at q0); (try simp); omega))) | (with_reducible refine Below.drew ?_) | (with_reducible refine Below.drewN' ?_ _) | (with_reducible refine Below.trans ?_ (hb1.mono ?_); rotate_left; focus (first | (simp; done) | (simp; omega) | (have q0 := hb1.size; (try simp at q0); (try simp); omega)))))
  have on : ∀ i vv, (w.alloc (Obj.cells (lgC ⟨m, d⟩) 30)).cell? ⟨w.heap.size, i, none⟩ = some vv → w1.cell? ⟨w.heap.size, i, none⟩ = some vv := fun i vv h => cell_on hb1 (by simp) h
  have c0 := on 0 (.bool m) (by simp [go_sem])
  have c1 := on 1 (.int .i64 (d 0)) (by simp [go_sem])
  have c2 := on 2 (.int .i64 (d 1)) (by simp [go_sem])
  have c3 := on 3 (.int .i64 (d 2)) (by simp [go_sem])
  have c4 := on 4 (.int .i64 (d 3)) (by simp [go_sem])
  have c5 := on 5 (.int .i64 (d 4)) (by simp [go_sem])
  have c6 := on 6 (.int .i64 (d 5)) (by simp [go_sem])
  have c7 := on 7 (.int .i64 (d 6)) (by simp [go_sem])
  have c8 := on 8 (.int .i64 (d 7)) (by simp [go_sem])
  have c9 := on 9 (.int .i64 (d 8)) (by simp [go_sem])
  have c10 := on 10 (.int .i64 (d 9)) (by simp [go_sem])
  clear on hb1
  go_wp2
  go_loopw [3] (fun vs wr => ∃ (D : Nat → Int) (t : List UInt8), Dig D ∧ vs = .string ⟨t.toArray⟩ ∧ Wr (vD D 10) t M ∧ RowW wr w1.heap.size D ∧ wr.cell? ⟨w.heap.size, 0, none⟩ = some (.bool m) ∧ w1.heap.size < wr.heap.size ∧ Below w.heap.size w wr)
    (fun vs _ => 60 - (match vs with | .string s => s.size | _ => 0))
  case atStart =>
    refine ⟨d, [], hdig, rfl, Or.inl ⟨rfl, HM.out⟩, ?_, ?_, by simp, by (repeat (first | (with_reducible exact Below.refl _ _) | ((with_reducible refine Below.alloc ?_ ?_ _); rotate_left; focus (first | (simp; done) | (simp; omega) | (have q0 := hbw.size; (try simp at q0); (try simp); omega))) | ((with_reducible refine Below.setCell ?_ ?_ _); rotate_left; focus (first | (simp; done) | (simp; omega) | (have q0 := hbw.size; (try simp at q0); (try simp); omega))) | (with_reducible refine Below.drew ?_) | (with_reducible refine Below.drewN' ?_ _) | (with_reducible refine Below.trans ?_ (hbw.mono ?_); rotate_left; focus (first | (simp; done) | (simp; omega) | (have q0 := hbw.size; (try simp at q0); (try simp); omega)))))⟩
    · refine all10 ?_
      simp [go_sem]
    · rw [World.cell?_alloc_past _ _ _ q1]; exact c0
  case round =>
    clear c0 c1 c2 c3 c4 c5 c6 c7 c8 c9 c10 hdig hz
    obtain ⟨D, t, hD, rfl, hw, hr, k0, q2, hbr⟩ := hrel
    have HR := Lib.hid hr
    have hW := Lib.hid hw; have HD := Lib.hid hD
    obtain ⟨⟨c0, -⟩, ⟨c1, -⟩, ⟨c2, -⟩, ⟨c3, -⟩, ⟨c4, -⟩, ⟨c5, -⟩, ⟨c6, -⟩, ⟨c7, -⟩, ⟨c8, -⟩, ⟨c9, -⟩⟩ := inst10 hr
    clear hr hw hD
    go_wp2_with fail
    refine (zero_any D _).mono ?_; rintro e w2 ⟨rfl, hb2⟩
    clear c0 c1 c2 c3 c4 c5 c6 c7 c8 c9
    have q3 : w1.heap.size < w2.heap.size := Nat.lt_of_lt_of_le q2 hb2.size
    have k2 := cell_on hb2 (by omega) k0
    have hr2 := HR.out.below hb2 q2
    have hb3 := hbr.trans (hb2.mono hbr.size)
    clear k0 HR hb2
    by_cases hz : zeroB D = true
    · rw [hz]
      have h0 : vD D 10 = 0 := (zeroB_val HD.out).1 hz
      have hWr := hW.out
      rw [h0] at hWr
      have ht : t ≠ [] := by
        intro e; subst e
        rcases hWr with ⟨_, h⟩ | ⟨h, _⟩
        · exact HM0.out (by omega)
        · exact h rfl
      have hend := Lib.hid (wr_end hWr ht)
      clear hWr hW HD hz h0 ht
      have hl : t.length ≤ 49 := by rw [hend.out]; exact dec_len 48 M HM49.out
      cases m
      · go_wp2
        go_ret
        refine ⟨?_, hb3⟩
        have e : v = (M : Int) := by simpa using HV.out
        rw [e, Lib.itoa_nonneg, ← hend.out]
        rfl
      · go_wp2
        go_ret
        refine ⟨?_, hb3⟩
        have e : v = -(M : Int) := by simpa using HV.out
        rw [e, Lib.itoa_neg M (by have := HM0.out; omega), ← hend.out]
        exact congrArg (fun b => Ending.returned (Value.string b)) (app_bytes [45] t)
    · have hz' : zeroB D = false := by simpa using hz
      have hn0 : vD D 10 ≠ 0 := fun e => hz ((zeroB_val HD.out).2 e)
      rw [hz']
      clear hz hz'
      go_wp2
      go_loopw [5, 6] (fun vr vi wr' => ∃ k : Nat, k ≤ 10 ∧ vi = .int .i64 (9 - (k : Int)) ∧ vr = .int .i64 (rem10 D k) ∧ RowW wr' w1.heap.size (fun i => if 10 - k ≤ i then quo10 D i else D i) ∧ wr'.cell? ⟨w.heap.size, 0, none⟩ = some (.bool m) ∧ w1.heap.size < wr'.heap.size ∧ Below w.heap.size w wr')
        (fun _ vi _ => (intOf vi + 1).toNat)
      case atStart =>
        refine ⟨0, by omega, rfl, rfl, ?_, k2, q3, hb3⟩
        intro i hi
        simp only
        rw [if_neg (by omega)]
        exact hr2 i hi
      case round =>
        obtain ⟨k, hk, rfl, rfl, hr, k0, q4, hb4⟩ := hrel
        by_cases hk10 : k < 10
        · have cc := hr (9 - k) (by omega)
          simp only at cc
          rw [if_neg (by omega)] at cc
          obtain ⟨cc, ff⟩ := cc
          obtain ⟨r0, r1⟩ := rem10_bd D k
          obtain ⟨d0, d1⟩ := HD.out (9 - k) (by omega)
          have e1 : wrap64 (rem10 D k * 65536) = rem10 D k * 65536 := wrap_of ⟨by omega, by omega⟩
          have e2 : wrap64 (rem10 D k * 65536 + D (9 - k)) = rem10 D k * 65536 + D (9 - k) := wrap_of ⟨by omega, by omega⟩
          have e3 : (rem10 D k * 65536 + D (9 - k)).tdiv 10 = quo10 D (9 - k) := by
            unfold quo10; rw [show 9 - (9 - k) = k by omega]; exact Int.tdiv_eq_ediv_of_nonneg (by omega)
          have e4 : (rem10 D k * 65536 + D (9 - k)).tmod 10 = rem10 D (k + 1) := Int.tmod_eq_emod_of_nonneg (by omega)
          have e5 : wrap64 (quo10 D (9 - k)) = quo10 D (9 - k) := by rw [← e3, Int.tdiv_eq_ediv_of_nonneg (by omega)]; exact wrap_of ⟨by omega, by omega⟩
          have E1 := Lib.hid e1; have E2 := Lib.hid e2; have E3 := Lib.hid e3; have E4 := Lib.hid e4; have E5 := Lib.hid e5; have HR := Lib.hid hr
          clear e1 e2 e3 e4 e5 r0 r1 d0 d1 hr
          go_wp2
          simp only [E1.out, E2.out, E3.out, E4.out, E5.out]
          refine ⟨⟨k + 1, by omega, by congr 1; omega, rfl, HR.out.set (9 - k) _ (by omega) ?_, ?_, by simpa using q4, ?_⟩, by simp [intOf]; omega⟩
          · intro i hi
            by_cases e : i = 9 - k
            · subst e; rw [if_pos (by omega), if_pos rfl]
            · rw [if_neg e]
              by_cases e2 : 10 - k ≤ i
              · rw [if_pos e2, if_pos (by omega)]
              · rw [if_neg e2, if_neg (by omega)]
          · rw [World.cell?_setCell_other _ _ _ _ (by simp)]; exact k0
          · (repeat (first | (with_reducible exact Below.refl _ _) | ((with_reducible refine Below.alloc ?_ ?_ _); rotate_left; focus (first | (simp; done) | (simp; omega) | (have q0 := hb4.size; (try simp at q0); (try simp); omega))) | ((with_reducible refine Below.setCell ?_ ?_ _); rotate_left; focus (first | (simp; done) | (simp; omega) | (have q0 := hb4.size; (try simp at q0); (try simp); omega))) | (with_reducible refine Below.drew ?_) | (with_reducible refine Below.drewN' ?_ _) | (with_reducible refine Below.trans ?_ (hb4.mono ?_); rotate_left; focus (first | (simp; done) | (simp; omega) | (have q0 := hb4.size; (try simp at q0); (try simp); omega)))))
        · have hk' : k = 10 := by omega
          subst hk'
          have hrow : RowW wr w1.heap.size (quo10 D) := fun i hi => by have := hr i hi; simp only at this; rw [if_pos (by omega)] at this; exact this
          clear hr
          obtain ⟨v1, v2⟩ := div10_all D
          obtain ⟨r0, r1⟩ := rem10_bd D 10
          have hvb := vD_bd HD.out 10 (by omega)
          have hst := wr_step hvb.1 hW.out (Or.inl hn0)
          rw [v1, v2] at hst
          have hqd := quo10_dig HD.out
          have HST := Lib.hid hst; have HQD := Lib.hid hqd; have HROW := Lib.hid hrow
          have hlen := wr_len49 hst HM49.out
          clear v1 v2 hvb hst hqd hW HD hn0 hrow
          generalize quo10 D = Q at *
          generalize rem10 D 10 = r at *
          have hb8 : 48 + r = ((digc r).toNat : Int) := by
            unfold digc; rw [digit_of _ (by omega)]; omega
          have hcv : (convert 53 9 (.slice (some ⟨wr.heap.size, 0, none⟩) 1 1)).run Tryd.prog (wr.alloc (Obj.cells #[Value.int IntKind.u8 (48 + r)] 5)) = .ok (.string ⟨#[digc r]⟩) (wr.alloc (Obj.cells #[Value.int IntKind.u8 (48 + r)] 5)) :=
            run_convert_bytes_back (P := Tryd.prog) (wr.alloc (Obj.cells #[Value.int IntKind.u8 (48 + r)] 5)) 53 9 5 ⟨wr.heap.size, 0, none⟩ 1 [digc r] Tryd.underlying53 Tryd.underlying5 Tryd.underlying9 (fun j hj => by
              have : j = 0 := by simpa using hj
              subst this
              rw [hb8]; simp [go_sem])
          have hl2 : t.length ≤ 48 := by simpa using hlen
          clear hb8 hlen
          go_wp2
          have hbe : Below wr.heap.size wr (wr.alloc (Obj.cells #[Value.int IntKind.u8 (48 + r)] 5)) := by (repeat (first | (with_reducible exact Below.refl _ _) | ((with_reducible refine Below.alloc ?_ ?_ _); rotate_left; focus (first | (simp; done) | (simp; omega))) | ((with_reducible refine Below.setCell ?_ ?_ _); rotate_left; focus (first | (simp; done) | (simp; omega))) | (with_reducible refine Below.drew ?_) | (with_reducible refine Below.drewN' ?_ _)))
          have eap : (ByteArray.mk #[digc r] ++ ByteArray.mk t.toArray) = ⟨(digc r :: t).toArray⟩ := app_bytes [digc r] t
          rw [eap]
          refine ⟨⟨Q, digc r :: t, HQD.out, rfl, HST.out, HROW.out.below hbe q4, cell_on hbe (by omega) k0, by simp; omega, by (repeat (first | (with_reducible exact Below.refl _ _) | ((with_reducible refine Below.alloc ?_ ?_ _); rotate_left; focus (first | (simp; done) | (simp; omega) | (have q0 := hb4.size; (try simp at q0); (try simp); omega))) | ((with_reducible refine Below.setCell ?_ ?_ _); rotate_left; focus (first | (simp; done) | (simp; omega) | (have q0 := hb4.size; (try simp at q0); (try simp); omega))) | (with_reducible refine Below.drew ?_) | (with_reducible refine Below.drewN' ?_ _) | (with_reducible refine Below.trans ?_ (hb4.mono ?_); rotate_left; focus (first | (simp; done) | (simp; omega) | (have q0 := hb4.size; (try simp at q0); (try simp); omega)))))⟩, ?_⟩
          have s1 : (ByteArray.mk (digc r :: t).toArray).size = t.length + 1 := by simp [ByteArray.size]
          have s2 : (ByteArray.mk t.toArray).size = t.length := by simp [ByteArray.size]
          simp only [s1, s2]
          omega
theorem refText_any (x : Lg) (v : Int) (A : Lw v x) (w : World) :
    Calls Tryd.prog 13 #[lgV x] w fun e w' => e = .returned (.string ⟨(Lib.itoa v).toArray⟩) ∧ Below w.heap.size w w' := by
  cases hz : zeroB x.d with
  | false => exact refText_pos x v A hz w
  | true =>
    have h0 : v = 0 := by have := A.zero; rw [hz] at this; exact of_decide_eq_true this.symm
    obtain ⟨m, d⟩ := x
    clear A
    go_enter Tryd.func13, Tryd.ntmps13
    go_wp2_with fail
    refine (zero_any d _).mono ?_; rintro e w1 ⟨rfl, hb1⟩
    rw [show zeroB d = true from hz]
    go_wp2
    go_ret
    have e48 : Lib.itoa 0 = [48] := by
      have := Lib.itoa_nonneg 0
      rw [Lib.decDigits_one (by omega)] at this
      exact this
    exact ⟨by rw [h0, e48]; rfl, by (repeat (first | (with_reducible exact Below.refl _ _) | ((with_reducible refine Below.alloc ?_ ?_ _); rotate_left; focus (first | (simp; done) | (simp; omega) | (have q0 := hb1.size; (try simp at q0); (try simp); omega))) | ((with_reducible refine Below.setCell ?_ ?_ _); rotate_left; focus (first | (simp; done) | (simp; omega) | (have q0 := hb1.size; (try simp at q0); (try simp); omega))) | (with_reducible refine Below.drew ?_) | (with_reducible refine Below.drewN' ?_ _) | (with_reducible refine Below.trans ?_ (hb1.mono ?_); rotate_left; focus (first | (simp; done) | (simp; omega) | (have q0 := hb1.size; (try simp at q0); (try simp); omega)))))⟩
end Go.Proofs.YtggbnjdbbomjoaaDoor
