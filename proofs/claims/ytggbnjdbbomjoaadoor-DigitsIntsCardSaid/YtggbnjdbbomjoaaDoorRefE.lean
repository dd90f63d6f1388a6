/- Walks of the reference of layer 1: Of. -/
import Derived.Test.YtggbnjdbbomjoaaDoorRefD
namespace Go.Proofs.YtggbnjdbbomjoaaDoor
open Go.RowKit

/-- digit j of N -/
def dgN (N j : Nat) : Int := ((N / 65536 ^ j % 65536 : Nat) : Int)
def ofD (N u : Nat) (j : Nat) : Int := if j < u then 0 else dgN N (j - u)
def ofL (n : Int) (u : Nat) : Lg := ⟨decide (n < 0), ofD n.natAbs u⟩
theorem dgN_bd (N j : Nat) : 0 ≤ dgN N j ∧ dgN N j < 65536 := by unfold dgN; omega
theorem ofL_dig (n : Int) (u : Nat) : Dig (ofL n u).d := fun i _ => by
  show 0 ≤ ofD _ u i ∧ ofD _ u i < 65536
  unfold ofD; split
  · omega
  · exact dgN_bd _ _
theorem CellsW.setAt {w : World} {b k : Nat} {old vs : List Value} {v : Value} (h : CellsW w b old) (hk : k < old.length) (he : vs = old.set k v) : CellsW (w.setCell ⟨b, k, none⟩ v) b vs := by
  subst he
  have h1 := h k _ (List.getElem?_eq_getElem hk)
  intro i x hx
  by_cases e : i = k
  · subst e
    have : v = x := by simpa [hk] using hx
    subst this
    simp [go_sem, h1]
  · have h2 := h i x (by simpa [List.getElem?_set, Ne.symm e] using hx)
    simp [go_sem, h2]

theorem lgL_get (x : Lg) : ∀ j, j < 10 → (lgL x)[1 + j]? = some (.int .i64 (x.d j)) := by
  refine all10 ⟨?_, ?_, ?_, ?_, ?_, ?_, ?_, ?_, ?_, ?_⟩ <;> rfl
theorem lgL_set (m : Bool) (d e : Nat → Int) (v : Int) : ∀ j, j < 10 → (∀ i, i < 10 → e i = if i = j then v else d i) → lgL ⟨m, e⟩ = (lgL ⟨m, d⟩).set (1 + j) (.int .i64 v) := by
  refine all10 ⟨?_, ?_, ?_, ?_, ?_, ?_, ?_, ?_, ?_, ?_⟩ <;> (intro h; simp [h])
theorem pow_div (N k : Nat) : N / 65536 ^ k / 65536 = N / 65536 ^ (k + 1) := by rw [Nat.pow_succ, Nat.div_div_eq_div_mul]

theorem lgL_ext (m : Bool) (d e : Nat → Int) (h : ∀ j, j < 10 → d j = e j) : lgL ⟨m, d⟩ = lgL ⟨m, e⟩ := by
  obtain ⟨h0, h1, h2, h3, h4, h5, h6, h7, h8, h9⟩ := inst10 h
  simp [h0, h1, h2, h3, h4, h5, h6, h7, h8, h9]
theorem div_zero_up {N k t : Nat} (h : N / 65536 ^ k = 0) (hk : k ≤ t) : N / 65536 ^ t = 0 := by
  have h1 : N < 65536 ^ k := by
    rcases Nat.lt_or_ge N (65536 ^ k) with h' | h'
    · exact h'
    · have := Nat.div_pos h' (Nat.pow_pos (by omega)); omega
  exact Nat.div_eq_of_lt (Nat.lt_of_lt_of_le h1 (Nat.pow_le_pow_right (by omega) hk))
theorem ofD_done (N u k : Nat) (h : N / 65536 ^ k = 0 ∨ u + k = 10) : ∀ j, j < 10 → (if j < u + k then ofD N u j else 0) = ofD N u j := by
  intro j hj
  by_cases e : j < u + k
  · rw [if_pos e]
  · rw [if_neg e]
    rcases h with h | h
    · unfold ofD dgN
      rw [if_neg (by omega), div_zero_up h (by omega)]; rfl
    · omega
theorem ofD_step (N u k : Nat) (M : Nat) (hM : M = N / 65536 ^ k) : ∀ i, i < 10 → (if i < u + (k + 1) then ofD N u i else 0) = if i = u + k then ((M : Int) % 65536) else (if i < u + k then ofD N u i else 0) := by
  intro i _
  by_cases e : i = u + k
  · subst e
    rw [if_pos (by omega), if_pos rfl]
    unfold ofD dgN
    rw [if_neg (by omega), show u + k - u = k by omega, ← hM]
    omega
  · rw [if_neg e]
    by_cases e2 : i < u + k
    · rw [if_pos e2, if_pos (by omega)]
    · rw [if_neg e2, if_neg (by omega)]

set_option maxRecDepth 100000 in
set_option maxHeartbeats 1000000 in
theorem of_pos (N u : Nat) (hN : N ≤ 9223372036854775807) (hu : u ≤ 3) (w : World) :
    Calls Tryd.prog 14 #[.int .i64 N, .int .i64 u] w fun e w' => e = .returned (lgV (ofL N u)) ∧ Below w.heap.size w w' := by
  have hL : ofL N u = ⟨false, ofD N u⟩ := by unfold ofL; rw [show (N : Int).natAbs = N by omega, show decide ((N : Int) < 0) = false by simp; try omega]
  have HL := Lib.hid hL; clear hL
  have hsg : decide ((N : Int) < 0) = false := by simp; try omega
  go_enter Tryd.func14, Tryd.ntmps14
  go_wp2
  go_loopw [0, 6] (fun n i wr => ∃ k M : Nat, k ≤ 10 - u ∧ n = .int .i64 M ∧ i = .int .i64 ((u + k : Nat) : Int) ∧ M = N / 65536 ^ k ∧ CellsW wr w.heap.size (lgL lg0) ∧ CellsW wr (w.heap.size + 1) (lgL ⟨false, fun j => if j < u + k then ofD N u j else 0⟩) ∧ Below w.heap.size w wr)
    (fun _ i _ => 10 - (intOf i).toNat)
  case atStart =>
    refine ⟨0, N, by omega, rfl, rfl, by simp, ?_, ?_, by (repeat (first | (with_reducible exact Below.refl _ _) | ((with_reducible refine Below.alloc ?_ ?_ _); rotate_left; focus (first | (simp; done) | (simp; omega))) | ((with_reducible refine Below.setCell ?_ ?_ _); rotate_left; focus (first | (simp; done) | (simp; omega))) | (with_reducible refine Below.drew ?_) | (with_reducible refine Below.drewN' ?_ _)))⟩
    · exact (CellsW.new w (lgL lg0) 30).alloc (by simp) _
    · have h := CellsW.new (w.alloc (.cells (lgC lg0) 30)) (lgL ⟨false, fun j => if j < u + 0 then ofD N u j else 0⟩) 30
      have e : lgL ⟨false, fun j => if j < u + 0 then ofD N u j else 0⟩ = lgL ⟨false, fun _ => 0⟩ := by
        refine lgL_ext _ _ _ fun j _ => ?_
        show (if j < u + 0 then ofD N u j else 0) = 0
        split
        · unfold ofD; rw [if_pos (by omega)]
        · rfl
      have hs : (w.alloc (.cells (lgC lg0) 30)).heap.size = w.heap.size + 1 := by simp
      rw [hs] at h
      rw [e] at h ⊢
      exact h
  case round =>
    obtain ⟨k, M, hk, rfl, rfl, hM, hz, hc, hbr⟩ := hrel
    have hMN : M ≤ N := by rw [hM]; exact Nat.div_le_self _ _
    have hM1 : (M : Int) ≤ 9223372036854775807 := by omega
    have HM := Lib.hid hM; clear hM
    by_cases hk10 : u + k < 10
    · have hlt : ((u + k : Nat) : Int) < 10 := by omega
      by_cases hm : M = 0
      · subst hm
        have hc' : CellsW wr (w.heap.size + 1) (lgL ⟨false, ofD N u⟩) := by
          rw [← lgL_ext false _ _ (ofD_done N u k (Or.inl HM.out.symm))]; exact hc
        clear hc
        go_wp2_with (first
          | (refine wpList_load_cells rfl 30 (.tmp 5) rfl (w.heap.size + 1) 0 rfl (lgL ⟨false, ofD N u⟩) _ Tryd.underlying30 rfl (by kernel_rfl) hc'.cellsAt ?_)
          | (refine wpList_store_cells rfl 30 (.tmp 4) (.tmp 32) rfl w.heap.size 0 rfl (lgL ⟨false, ofD N u⟩) rfl (by kernel_rfl) (by simp [Value.oneCell']) hz.some hz.thaw ?_))
        refine bodyPost_ret (v := lgV ⟨false, ofD N u⟩) ?_ rfl ⟨by rw [HL.out], hbr.trans (setCells_below _ (by omega) _ _ _)⟩
        exact results_lg Tryd.results14 _ (by rfl) (hz.put (lgL ⟨false, ofD N u⟩) rfl)
      · have hm' : ((M : Int) != 0) = true := by simpa using hm
        obtain ⟨c1, c2⟩ := hc (1 + (u + k)) _ (lgL_get _ (u + k) hk10)
        have HC := Lib.hid hc; have HZ := Lib.hid hz; clear hc hz hMN
        go_wp2
        refine ⟨⟨k + 1, M / 65536, by omega, by go_num, by go_num, by rw [HM.out, pow_div], HZ.out.below (B := w.heap.size + 1) (by (repeat (first | (with_reducible exact Below.refl _ _) | ((with_reducible refine Below.alloc ?_ ?_ _); rotate_left; focus (first | (simp; done) | (simp; omega))) | ((with_reducible refine Below.setCell ?_ ?_ _); rotate_left; focus (first | (simp; done) | (simp; omega))) | (with_reducible refine Below.drew ?_) | (with_reducible refine Below.drewN' ?_ _)))) (by omega), HC.out.setAt (k := 1 + (u + k)) (by simp; omega) (lgL_set _ _ _ _ (u + k) hk10 (by have := ofD_step N u k M HM.out; exact this)), hbr.trans (by (repeat (first | (with_reducible exact Below.refl _ _) | ((with_reducible refine Below.alloc ?_ ?_ _); rotate_left; focus (first | (simp; done) | (simp; omega))) | ((with_reducible refine Below.setCell ?_ ?_ _); rotate_left; focus (first | (simp; done) | (simp; omega))) | (with_reducible refine Below.drew ?_) | (with_reducible refine Below.drewN' ?_ _))))⟩, by simp [intOf]; omega⟩
    · have hlt : ¬ ((u + k : Nat) : Int) < 10 := by omega
      have hc' : CellsW wr (w.heap.size + 1) (lgL ⟨false, ofD N u⟩) := by
        rw [← lgL_ext false _ _ (ofD_done N u k (Or.inr (by omega)))]; exact hc
      clear hc
      go_wp2_with (first
        | (refine wpList_load_cells rfl 30 (.tmp 5) rfl (w.heap.size + 1) 0 rfl (lgL ⟨false, ofD N u⟩) _ Tryd.underlying30 rfl (by kernel_rfl) hc'.cellsAt ?_)
        | (refine wpList_store_cells rfl 30 (.tmp 4) (.tmp 32) rfl w.heap.size 0 rfl (lgL ⟨false, ofD N u⟩) rfl (by kernel_rfl) (by simp [Value.oneCell']) hz.some hz.thaw ?_))
      refine bodyPost_ret (v := lgV ⟨false, ofD N u⟩) ?_ rfl ⟨by rw [HL.out], hbr.trans (setCells_below _ (by omega) _ _ _)⟩
      exact results_lg Tryd.results14 _ (by rfl) (hz.put (lgL ⟨false, ofD N u⟩) rfl)

set_option maxRecDepth 100000 in
set_option maxHeartbeats 1000000 in
theorem of_neg (N u : Nat) (hN : N ≤ 9223372036854775808) (hN1 : 1 ≤ N) (hu : u ≤ 3) (w : World) :
    Calls Tryd.prog 14 #[.int .i64 (-(N : Int)), .int .i64 u] w fun e w' => e = .returned (lgV (ofL (-(N : Int)) u)) ∧ Below w.heap.size w w' := by
  have hL : ofL (-(N : Int)) u = ⟨true, ofD N u⟩ := by unfold ofL; rw [show ((-(N : Int)) : Int).natAbs = N by omega, show decide (((-(N : Int)) : Int) < 0) = true by simp; try omega]
  have HL := Lib.hid hL; clear hL
  have hsg : decide (((-(N : Int)) : Int) < 0) = true := by simp; try omega
  have hpos : 0 < N := by omega
  go_enter Tryd.func14, Tryd.ntmps14
  go_wp2
  go_loopw [0, 6] (fun n i wr => ∃ k M : Nat, k ≤ 10 - u ∧ n = .int .i64 (-(M : Int)) ∧ i = .int .i64 ((u + k : Nat) : Int) ∧ M = N / 65536 ^ k ∧ CellsW wr w.heap.size (lgL lg0) ∧ CellsW wr (w.heap.size + 1) (lgL ⟨true, fun j => if j < u + k then ofD N u j else 0⟩) ∧ Below w.heap.size w wr)
    (fun _ i _ => 10 - (intOf i).toNat)
  case atStart =>
    refine ⟨0, N, by omega, rfl, rfl, by simp, ?_, ?_, by (repeat (first | (with_reducible exact Below.refl _ _) | ((with_reducible refine Below.alloc ?_ ?_ _); rotate_left; focus (first | (simp; done) | (simp; omega))) | ((with_reducible refine Below.setCell ?_ ?_ _); rotate_left; focus (first | (simp; done) | (simp; omega))) | (with_reducible refine Below.drew ?_) | (with_reducible refine Below.drewN' ?_ _)))⟩
    · exact (CellsW.new w (lgL lg0) 30).alloc (by simp) _
    · have h := CellsW.new (w.alloc (.cells (lgC lg0) 30)) (lgL ⟨true, fun j => if j < u + 0 then ofD N u j else 0⟩) 30
      have e : lgL ⟨true, fun j => if j < u + 0 then ofD N u j else 0⟩ = lgL ⟨true, fun _ => 0⟩ := by
        refine lgL_ext _ _ _ fun j _ => ?_
        show (if j < u + 0 then ofD N u j else 0) = 0
        split
        · unfold ofD; rw [if_pos (by omega)]
        · rfl
      have hs : (w.alloc (.cells (lgC lg0) 30)).heap.size = w.heap.size + 1 := by simp
      rw [hs] at h
      rw [e] at h ⊢
      exact h
  case round =>
    obtain ⟨k, M, hk, rfl, rfl, hM, hz, hc, hbr⟩ := hrel
    have hMN : M ≤ N := by rw [hM]; exact Nat.div_le_self _ _
    have hM1 : (M : Int) ≤ 9223372036854775808 := by omega
    have HM := Lib.hid hM; clear hM
    by_cases hk10 : u + k < 10
    · have hlt : ((u + k : Nat) : Int) < 10 := by omega
      by_cases hm : M = 0
      · subst hm
        have hc' : CellsW wr (w.heap.size + 1) (lgL ⟨true, ofD N u⟩) := by
          rw [← lgL_ext true _ _ (ofD_done N u k (Or.inl HM.out.symm))]; exact hc
        clear hc
        have h00 : (-((0 : Nat) : Int)) = 0 := rfl
        go_wp2_with (first
          | (refine wpList_load_cells rfl 30 (.tmp 5) rfl (w.heap.size + 1) 0 rfl (lgL ⟨true, ofD N u⟩) _ Tryd.underlying30 rfl (by kernel_rfl) hc'.cellsAt ?_)
          | (refine wpList_store_cells rfl 30 (.tmp 4) (.tmp 32) rfl w.heap.size 0 rfl (lgL ⟨true, ofD N u⟩) rfl (by kernel_rfl) (by simp [Value.oneCell']) hz.some hz.thaw ?_))
        refine bodyPost_ret (v := lgV ⟨true, ofD N u⟩) ?_ rfl ⟨by rw [HL.out], hbr.trans (setCells_below _ (by omega) _ _ _)⟩
        exact results_lg Tryd.results14 _ (by rfl) (hz.put (lgL ⟨true, ofD N u⟩) rfl)
      · have hm' : (-(M : Int) != 0) = true := by simp; omega
        obtain ⟨c1, c2⟩ := hc (1 + (u + k)) _ (lgL_get _ (u + k) hk10)
        have HC := Lib.hid hc; have HZ := Lib.hid hz; clear hc hz hMN
        have hq : wrap64 ((-(M : Int)).tdiv 65536) = -((M / 65536 : Nat) : Int) := by
          have e : (-(M : Int)).tdiv 65536 = -((M / 65536 : Nat) : Int) := by rw [Int.neg_tdiv]; rfl
          rw [e]; exact wrap_of ⟨by omega, by omega⟩
        have hr : (-(M : Int)).tmod 65536 = -((M % 65536 : Nat) : Int) := by rw [Int.neg_tmod]; rfl
        have hx : (M : Int) % 65536 = ((M % 65536 : Nat) : Int) := by omega
        have HX := Lib.hid hx; clear hx
        generalize hRR : M % 65536 = R at *
        have HR := Lib.hid hRR; clear hRR
        have hR1 : R < 65536 := by have := HR.out; omega
        by_cases hR0 : R = 0
        · subst hR0
          have h00 : (-((0 : Nat) : Int)) = 0 := rfl
          rw [h00] at hr
          go_wp2
          refine ⟨⟨k + 1, M / 65536, by omega, by rfl, by go_num, by rw [HM.out, pow_div], HZ.out.below (B := w.heap.size + 1) (by (repeat (first | (with_reducible exact Below.refl _ _) | ((with_reducible refine Below.alloc ?_ ?_ _); rotate_left; focus (first | (simp; done) | (simp; omega))) | ((with_reducible refine Below.setCell ?_ ?_ _); rotate_left; focus (first | (simp; done) | (simp; omega))) | (with_reducible refine Below.drew ?_) | (with_reducible refine Below.drewN' ?_ _)))) (by omega), HC.out.setAt (k := 1 + (u + k)) (by simp; omega) (lgL_set _ _ _ _ (u + k) hk10 (by have := ofD_step N u k M HM.out; rw [HX.out] at this; exact this)), hbr.trans (by (repeat (first | (with_reducible exact Below.refl _ _) | ((with_reducible refine Below.alloc ?_ ?_ _); rotate_left; focus (first | (simp; done) | (simp; omega))) | ((with_reducible refine Below.setCell ?_ ?_ _); rotate_left; focus (first | (simp; done) | (simp; omega))) | (with_reducible refine Below.drew ?_) | (with_reducible refine Below.drewN' ?_ _))))⟩, by simp [intOf]; omega⟩
        · have hneg : -(R : Int) < 0 := by omega
          have hnn : wrap64 (-(-(R : Int))) = (R : Int) := by rw [Int.neg_neg]; exact wrap_of ⟨by omega, by omega⟩
          go_wp2
          refine ⟨⟨k + 1, M / 65536, by omega, by rfl, by go_num, by rw [HM.out, pow_div], HZ.out.below (B := w.heap.size + 1) (by (repeat (first | (with_reducible exact Below.refl _ _) | ((with_reducible refine Below.alloc ?_ ?_ _); rotate_left; focus (first | (simp; done) | (simp; omega))) | ((with_reducible refine Below.setCell ?_ ?_ _); rotate_left; focus (first | (simp; done) | (simp; omega))) | (with_reducible refine Below.drew ?_) | (with_reducible refine Below.drewN' ?_ _)))) (by omega), HC.out.setAt (k := 1 + (u + k)) (by simp; omega) (lgL_set _ _ _ _ (u + k) hk10 (by have := ofD_step N u k M HM.out; rw [HX.out] at this; exact this)), hbr.trans (by (repeat (first | (with_reducible exact Below.refl _ _) | ((with_reducible refine Below.alloc ?_ ?_ _); rotate_left; focus (first | (simp; done) | (simp; omega))) | ((with_reducible refine Below.setCell ?_ ?_ _); rotate_left; focus (first | (simp; done) | (simp; omega))) | (with_reducible refine Below.drew ?_) | (with_reducible refine Below.drewN' ?_ _))))⟩, by simp [intOf]; omega⟩
    · have hlt : ¬ ((u + k : Nat) : Int) < 10 := by omega
      have hc' : CellsW wr (w.heap.size + 1) (lgL ⟨true, ofD N u⟩) := by
        rw [← lgL_ext true _ _ (ofD_done N u k (Or.inr (by omega)))]; exact hc
      clear hc
      go_wp2_with (first
        | (refine wpList_load_cells rfl 30 (.tmp 5) rfl (w.heap.size + 1) 0 rfl (lgL ⟨true, ofD N u⟩) _ Tryd.underlying30 rfl (by kernel_rfl) hc'.cellsAt ?_)
        | (refine wpList_store_cells rfl 30 (.tmp 4) (.tmp 32) rfl w.heap.size 0 rfl (lgL ⟨true, ofD N u⟩) rfl (by kernel_rfl) (by simp [Value.oneCell']) hz.some hz.thaw ?_))
      refine bodyPost_ret (v := lgV ⟨true, ofD N u⟩) ?_ rfl ⟨by rw [HL.out], hbr.trans (setCells_below _ (by omega) _ _ _)⟩
      exact results_lg Tryd.results14 _ (by rfl) (hz.put (lgL ⟨true, ofD N u⟩) rfl)

theorem ofl_any (n : Int) (u : Nat) (hn : I64 n) (hu : u ≤ 3) (w : World) :
    Calls Tryd.prog 14 #[.int .i64 n, .int .i64 u] w fun e w' => e = .returned (lgV (ofL n u)) ∧ Below w.heap.size w w' := by
  obtain ⟨h1, h2⟩ := hn
  by_cases h : n < 0
  · have e : n = -(n.natAbs : Int) := by omega
    rw [e]
    exact of_neg n.natAbs u (by omega) (by omega) hu w
  · have e : n = (n.natAbs : Int) := by omega
    rw [e]
    exact of_pos n.natAbs u (by omega) hu w
end Go.Proofs.YtggbnjdbbomjoaaDoor
