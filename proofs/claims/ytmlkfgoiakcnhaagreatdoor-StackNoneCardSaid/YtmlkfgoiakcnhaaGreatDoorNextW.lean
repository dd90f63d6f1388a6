/- The reference's next tree: a tree, or none, and where; whatever the tokens. -/
import Derived.Test.YtmlkfgoiakcnhaaGreatDoorLexU
import Derived.Test.YtmlkfgoiakcnhaaGreatDoorReadS
namespace Go.Proofs.YtmlkfgoiakcnhaaGreatDoor
set_option linter.unusedSimpArgs false
open Go Go.RowKit Go.Proofs.YtmlkfgoiakcnhaaGreatDoorW.PrintWords Go.Proofs.YtmlkfgoiakcnhaaGreatDoorW.PrintLast Go.Proofs.YtmlkfgoiakcnhaaGreatDoorW.PrintMore Go.Proofs.YtmlkfgoiakcnhaaGreatDoor.PStackNone
theorem cells5 {w : World} {b : Nat} {u v x y z : Value} (h0 : w.cell? ⟨b, 0, none⟩ = some u) (h1 : w.cell? ⟨b, 1, none⟩ = some v) (h2 : w.cell? ⟨b, 2, none⟩ = some x) (h3 : w.cell? ⟨b, 3, none⟩ = some y) (h4 : w.cell? ⟨b, 4, none⟩ = some z) : CellsAt w b 0 [u, v, x, y, z] := by
  intro j q hq
  match j, hq with
  | 0, hq => simp at hq; subst hq; simpa using h0
  | 1, hq => simp at hq; subst hq; simpa using h1
  | 2, hq => simp at hq; subst hq; simpa using h2
  | 3, hq => simp at hq; subst hq; simpa using h3
  | 4, hq => simp at hq; subst hq; simpa using h4
  | j + 5, hq => simp at hq
/-- the first tokens -/
theorem cut_tokens {w : World} {A : Option Addr} {c : Nat} {ts : List S43} (hC : Kd.C k43 w A ts.length ts) (hc : ts.length ≤ c) (n : Nat) (hn : n ≤ ts.length) :
    ∃ A' c', (∀ W : World, (Instr.slice 63 (.slice A ts.length c) (some (.int .i64 0)) (some (.int .i64 (n : Int))) none).run Tryz.prog W = .ok (.slice A' n c') W) ∧ n ≤ c' ∧
      ∀ W, Below w.heap.size w W → Kd.C k43 W A' n ((ts.take n).drop 0) := by
  obtain ⟨i0, hi0, _, hsz, _⟩ := info_parts info43
  have hcut := cut_mid (P := Tryz.prog) 63 43 .i64 .i64 Tryz.underlying63 hi0 3 hsz A ts.length c 0 (n : Int) (by omega) (by omega) (by omega) hc
  have hr := Kd.C_mid (lo := 0) (hi := n) (c := c) hC (by omega) hn hc
  have hlen : ((ts.take n).drop 0).length = n := by rw [List.length_drop, List.length_take]; omega
  rw [hlen] at hr
  refine ⟨_, c, fun W => (hcut W).trans ?_, Nat.le_trans hn hc, fun W hb => Kd.C_below hr hb⟩
  rw [show ((n : Int)).toNat = n by omega, show ((0 : Int)).toNat = 0 by rfl, Nat.sub_zero, Nat.sub_zero]
  rfl
set_option maxRecDepth 100000 in
set_option maxHeartbeats 4000000 in
theorem next_walk (ts : List S43) (hl : ts.length ≤ 1048576) (A : Option Addr) (c : Nat) (w : World) (hC : Kd.C k43 w A ts.length ts) (hc : ts.length ≤ c) : Calls Tryz.prog 25 #[.slice A ts.length c, .int .i64 0] w fun e w' =>
    ∃ (x0 : Bool) (x1 : Int) (x2 : ByteArray) (x3 : Int) (A4 : Option Addr) (n4 c4 : Nat) (r6 r7 : Int), e = .returned (.tuple #[.agg #[.bool x0, .int .u8 x1, .string x2, .int .i64 x3, .slice A4 n4 c4], .int .i64 r6, .int .i64 r7]) ∧ Below w.heap.size w w' := by
  have n0 : (((ts.length : Nat) : Int) < 0) = False := eq_false (by omega)
  have n0b : decide (((ts.length : Nat) : Int) < 0) = false := decide_eq_false (by omega)
  by_cases h0 : ts.length = 0
  · have h0b : ((0 : Int) == ((ts.length : Nat) : Int)) = true := beq_iff_eq.mpr (by omega)
    clear h0 hC
    go_enter Tryz.func25, Tryz.ntmps25
    go_wp2_with fail
    refine bodyPost_ret (v := .tuple #[.agg #[.bool false, .int .u8 0, .string ⟨#[]⟩, .int .i64 0, .slice none 0 0], .int .i64 0, .int .i64 4]) ?_ rfl ⟨_, _, _, _, _, _, _, _, _, rfl, ?_⟩
    · refine results_ctt' Tryz.results25 _ (by rfl) [.bool false, .int .u8 0, .string ⟨#[]⟩, .int .i64 0, .slice none 0 0] _ (by rfl) (by rfl) Tryz.underlying46 rfl (by kernel_rfl) (cells5 (by simp [go_sem]) (by simp [go_sem]) (by simp [go_sem]) (by simp [go_sem]) (by simp [go_sem]))
    · (repeat (first | (with_reducible exact Below.refl _ _) | ((with_reducible refine Below.alloc ?_ ?_ _); rotate_left; focus (first | (simp; done) | (simp; omega))) | ((with_reducible refine Below.setCell ?_ ?_ _); rotate_left; focus (first | (simp; done) | (simp; omega))) | (with_reducible refine Below.drew ?_) | (with_reducible refine Below.drewN' ?_ _)))
  have hpos : (0 : Int) < (ts.length : Int) := by omega
  have h0b : ((0 : Int) == ((ts.length : Nat) : Int)) = false := beq_eq_false_iff_ne.mpr (by omega)
  have hposT := eq_true hpos
  obtain ⟨ad, rfl, hx0, _, _⟩ := at_T43 hC 0 (by omega) hpos
  simp only [Int.toNat_zero, Nat.zero_mul] at hx0
  rw [show ad.add 0 = ad by simp [Addr.add]] at hx0
  have hxa := (((Below.refl _ _).alloc (Nat.le_refl _) (.cells #[.bool false, .int .u8 0, .string ⟨#[]⟩, .int .i64 0, .slice none 0 0] 46) : Below w.heap.size w _).cell (World.block_lt_of_cell? w _ hx0)).trans hx0
  have HC := Lib.hid hC
  by_cases h2 : (rd_T43 ts 0).f0 = 2
  · have h2b : ((rd_T43 ts 0).f0 == 2) = true := beq_iff_eq.mpr h2
    clear hx0 h2 hC HC
    go_enter Tryz.func25, Tryz.ntmps25
    go_wp2_with fail
    refine bodyPost_ret (v := .tuple #[.agg #[.bool false, .int .u8 0, .string ⟨#[]⟩, .int .i64 0, .slice none 0 0], .int .i64 0, .int .i64 41]) ?_ rfl ⟨_, _, _, _, _, _, _, _, _, rfl, ?_⟩
    · refine results_ctt' Tryz.results25 _ (by rfl) [.bool false, .int .u8 0, .string ⟨#[]⟩, .int .i64 0, .slice none 0 0] _ (by rfl) (by rfl) Tryz.underlying46 rfl (by kernel_rfl) (cells5 (by simp [go_sem]) (by simp [go_sem]) (by simp [go_sem]) (by simp [go_sem]) (by simp [go_sem]))
    · (repeat (first | (with_reducible exact Below.refl _ _) | ((with_reducible refine Below.alloc ?_ ?_ _); rotate_left; focus (first | (simp; done) | (simp; omega))) | ((with_reducible refine Below.setCell ?_ ?_ _); rotate_left; focus (first | (simp; done) | (simp; omega))) | (with_reducible refine Below.drew ?_) | (with_reducible refine Below.drewN' ?_ _)))
  have h2b : ((rd_T43 ts 0).f0 == 2) = false := beq_eq_false_iff_ne.mpr h2
  obtain ⟨r, hr, hE⟩ := end_tot ts hl 0 (2 * ts.length + 2) (by omega) (by omega)
  have HEND := Lib.hid (fun W (hb : Below w.heap.size w W) => juristref04_end.calls (2 * ts.length + 2) (some ad) c ts 0 r W (Kd.C_below HC.out hb) hc hr)
  clear hr hC hx0 h2
  rcases hE with ⟨rfl, _⟩ | ⟨n, rfl, n1, n2, n3, n4⟩
  · go_enter Tryz.func25, Tryz.ntmps25
    go_wp2_with fail
    refine (HEND.out _ (by (repeat (first | (with_reducible exact Below.refl _ _) | ((with_reducible refine Below.alloc ?_ ?_ _); rotate_left; focus (first | (simp; done) | (simp; omega))) | ((with_reducible refine Below.setCell ?_ ?_ _); rotate_left; focus (first | (simp; done) | (simp; omega))) | (with_reducible refine Below.drew ?_) | (with_reducible refine Below.drewN' ?_ _))))).mono ?_
    rintro e w1 ⟨rfl, hdr⟩
    have hb1 := hdr.below
    clear hdr HEND hxa
    obtain ⟨hc1, hf1⟩ := bcell hb1
    have k0' := hc1 w.heap.size 0 (by first | omega | (simp; done) | (simp; omega))
    have k1' := hc1 w.heap.size 1 (by first | omega | (simp; done) | (simp; omega))
    have k2' := hc1 w.heap.size 2 (by first | omega | (simp; done) | (simp; omega))
    have k3' := hc1 w.heap.size 3 (by first | omega | (simp; done) | (simp; omega))
    have k4' := hc1 w.heap.size 4 (by first | omega | (simp; done) | (simp; omega))
    have f0' := hf1 w.heap.size 0 (by first | omega | (simp; done) | (simp; omega))
    have f1' := hf1 w.heap.size 1 (by first | omega | (simp; done) | (simp; omega))
    have f2' := hf1 w.heap.size 2 (by first | omega | (simp; done) | (simp; omega))
    have f3' := hf1 w.heap.size 3 (by first | omega | (simp; done) | (simp; omega))
    have f4' := hf1 w.heap.size 4 (by first | omega | (simp; done) | (simp; omega))
    (try simp [go_sem] at k0' k1' k2' k3' k4' f0' f1' f2' f3' f4')
    have hbz' : Below w.heap.size w w1 := by (repeat (first | (with_reducible exact Below.refl _ _) | ((with_reducible refine Below.alloc ?_ ?_ _); rotate_left; focus (first | (simp; done) | (simp; omega) | (have q0 := hb1.size; (try simp at q0); (try simp); omega))) | ((with_reducible refine Below.setCell ?_ ?_ _); rotate_left; focus (first | (simp; done) | (simp; omega) | (have q0 := hb1.size; (try simp at q0); (try simp); omega))) | (with_reducible refine Below.drew ?_) | (with_reducible refine Below.drewN' ?_ _) | (with_reducible refine Below.trans ?_ (hb1.mono ?_); rotate_left; focus (first | (simp; done) | (simp; omega) | (have q0 := hb1.size; (try simp at q0); (try simp); omega)))))
    have zn' : w.heap.size < w1.heap.size := by have := hb1.size; (try simp at this); omega
    clear hb1 hc1 hf1
    have hbz := hbz'; have zn := zn'; clear hbz' zn'
    have k0 := k0'
    have k1 := k1'
    have k2 := k2'
    have k3 := k3'
    have k4 := k4'
    have f0 := f0'
    have f1 := f1'
    have f2 := f2'
    have f3 := f3'
    have f4 := f4'
    clear k0' k1' k2' k3' k4' f0' f1' f2' f3' f4'
    go_wp2_with fail
    refine bodyPost_ret (v := .tuple #[.agg #[.bool false, .int .u8 0, .string ⟨#[]⟩, .int .i64 0, .slice none 0 0], .int .i64 (ts.length : Int), .int .i64 4]) ?_ rfl ⟨_, _, _, _, _, _, _, _, _, rfl, ?_⟩
    · refine results_ctt' Tryz.results25 _ (by rfl) [.bool false, .int .u8 0, .string ⟨#[]⟩, .int .i64 0, .slice none 0 0] _ (by rfl) (by rfl) Tryz.underlying46 rfl (by kernel_rfl) (cells5 (by simp [go_sem, k0, k1, k2, k3, k4]) (by simp [go_sem, k0, k1, k2, k3, k4]) (by simp [go_sem, k0, k1, k2, k3, k4]) (by simp [go_sem, k0, k1, k2, k3, k4]) (by simp [go_sem, k0, k1, k2, k3, k4]))
    · (repeat (first | (with_reducible exact Below.refl _ _) | ((with_reducible refine Below.alloc ?_ ?_ _); rotate_left; focus (first | (simp; done) | (simp; omega) | (have q0 := hbz.size; (try simp at q0); (try simp); omega))) | ((with_reducible refine Below.setCell ?_ ?_ _); rotate_left; focus (first | (simp; done) | (simp; omega) | (have q0 := hbz.size; (try simp at q0); (try simp); omega))) | (with_reducible refine Below.drew ?_) | (with_reducible refine Below.drewN' ?_ _) | (with_reducible refine Below.trans ?_ (hbz.mono ?_); rotate_left; focus (first | (simp; done) | (simp; omega) | (have q0 := hbz.size; (try simp at q0); (try simp); omega)))))
  · have hG := good_cut ts 0 n n1 n2 n3 n4
    have hlen : ((ts.take n).drop 0).length = n := by rw [List.length_drop, List.length_take]; omega
    obtain ⟨A', c', hcut, hc', hsub⟩ := cut_tokens HC.out hc n n2
    obtain ⟨t, ht⟩ := most_tot ((ts.take n).drop 0) (by omega) (2 * n + 2) (by omega)
    obtain ⟨q, hq⟩ := tree_tot n (by omega) n ((ts.take n).drop 0) hlen (Nat.le_refl _) hG (10 * n + 20) (by omega)
    have HMOST := Lib.hid (fun W (hb : Below w.heap.size w W) => by
      have := juristref04_most.calls (2 * n + 2) A' c' ((ts.take n).drop 0) t W (by rw [hlen]; exact hsub W hb) (by omega) ht
      rw [hlen] at this
      exact this)
    have HTREE := Lib.hid (fun W (hb : Below w.heap.size w W) => by
      have := juristref04_tree.calls (10 * n + 20) A' c' ((ts.take n).drop 0) q.1 q.2.1 q.2.2.1 q.2.2.2.1 q.2.2.2.2 W (by rw [hlen]; exact hsub W hb) (by omega) hq
      rw [hlen] at this
      exact this)
    have nb : decide ((n : Int) < 0) = false := decide_eq_false (by omega)
    have nl : ((n : Int) ≤ (ts.length : Int)) = True := eq_true (by omega)
    clear hG hsub ht hq n1 n3 n4 n2 hc' hlen
    go_enter Tryz.func25, Tryz.ntmps25
    go_wp2_with fail
    refine (HEND.out _ (by (repeat (first | (with_reducible exact Below.refl _ _) | ((with_reducible refine Below.alloc ?_ ?_ _); rotate_left; focus (first | (simp; done) | (simp; omega))) | ((with_reducible refine Below.setCell ?_ ?_ _); rotate_left; focus (first | (simp; done) | (simp; omega))) | (with_reducible refine Below.drew ?_) | (with_reducible refine Below.drewN' ?_ _))))).mono ?_
    rintro e w1 ⟨rfl, hdr⟩
    have hb1 := hdr.below
    clear hdr HEND hxa
    obtain ⟨hc1, hf1⟩ := bcell hb1
    have k0' := hc1 w.heap.size 0 (by first | omega | (simp; done) | (simp; omega))
    have k1' := hc1 w.heap.size 1 (by first | omega | (simp; done) | (simp; omega))
    have k2' := hc1 w.heap.size 2 (by first | omega | (simp; done) | (simp; omega))
    have k3' := hc1 w.heap.size 3 (by first | omega | (simp; done) | (simp; omega))
    have k4' := hc1 w.heap.size 4 (by first | omega | (simp; done) | (simp; omega))
    have f0' := hf1 w.heap.size 0 (by first | omega | (simp; done) | (simp; omega))
    have f1' := hf1 w.heap.size 1 (by first | omega | (simp; done) | (simp; omega))
    have f2' := hf1 w.heap.size 2 (by first | omega | (simp; done) | (simp; omega))
    have f3' := hf1 w.heap.size 3 (by first | omega | (simp; done) | (simp; omega))
    have f4' := hf1 w.heap.size 4 (by first | omega | (simp; done) | (simp; omega))
    (try simp [go_sem] at k0' k1' k2' k3' k4' f0' f1' f2' f3' f4')
    have hbz' : Below w.heap.size w w1 := by (repeat (first | (with_reducible exact Below.refl _ _) | ((with_reducible refine Below.alloc ?_ ?_ _); rotate_left; focus (first | (simp; done) | (simp; omega) | (have q0 := hb1.size; (try simp at q0); (try simp); omega))) | ((with_reducible refine Below.setCell ?_ ?_ _); rotate_left; focus (first | (simp; done) | (simp; omega) | (have q0 := hb1.size; (try simp at q0); (try simp); omega))) | (with_reducible refine Below.drew ?_) | (with_reducible refine Below.drewN' ?_ _) | (with_reducible refine Below.trans ?_ (hb1.mono ?_); rotate_left; focus (first | (simp; done) | (simp; omega) | (have q0 := hb1.size; (try simp at q0); (try simp); omega)))))
    have zn' : w.heap.size < w1.heap.size := by have := hb1.size; (try simp at this); omega
    clear hb1 hc1 hf1
    have hbz := hbz'; have zn := zn'; clear hbz' zn'
    have k0 := k0'
    have k1 := k1'
    have k2 := k2'
    have k3 := k3'
    have k4 := k4'
    have f0 := f0'
    have f1 := f1'
    have f2 := f2'
    have f3 := f3'
    have f4 := f4'
    clear k0' k1' k2' k3' k4' f0' f1' f2' f3' f4'
    go_wp2_with fail
    refine (HMOST.out _ hbz).mono ?_
    rintro e w2 ⟨rfl, hdr⟩
    have hb1 := hdr.below
    clear hdr HMOST
    obtain ⟨hc1, hf1⟩ := bcell hb1
    have k0' := hc1 w.heap.size 0 (by first | omega | (simp; done) | (simp; omega))
    have k1' := hc1 w.heap.size 1 (by first | omega | (simp; done) | (simp; omega))
    have k2' := hc1 w.heap.size 2 (by first | omega | (simp; done) | (simp; omega))
    have k3' := hc1 w.heap.size 3 (by first | omega | (simp; done) | (simp; omega))
    have k4' := hc1 w.heap.size 4 (by first | omega | (simp; done) | (simp; omega))
    have f0' := hf1 w.heap.size 0 (by first | omega | (simp; done) | (simp; omega))
    have f1' := hf1 w.heap.size 1 (by first | omega | (simp; done) | (simp; omega))
    have f2' := hf1 w.heap.size 2 (by first | omega | (simp; done) | (simp; omega))
    have f3' := hf1 w.heap.size 3 (by first | omega | (simp; done) | (simp; omega))
    have f4' := hf1 w.heap.size 4 (by first | omega | (simp; done) | (simp; omega))
    (try simp [go_sem, k0, k1, k2, k3, k4, f0, f1, f2, f3, f4] at k0' k1' k2' k3' k4' f0' f1' f2' f3' f4')
    have hbz' : Below w.heap.size w w2 := by (repeat (first | (with_reducible exact Below.refl _ _) | ((with_reducible refine Below.alloc ?_ ?_ _); rotate_left; focus (first | (simp; done) | (simp; omega) | (have q0 := hb1.size; (try simp at q0); have q1 := hbz.size; (try simp at q1); (try simp); omega))) | ((with_reducible refine Below.setCell ?_ ?_ _); rotate_left; focus (first | (simp; done) | (simp; omega) | (have q0 := hb1.size; (try simp at q0); have q1 := hbz.size; (try simp at q1); (try simp); omega))) | (with_reducible refine Below.drew ?_) | (with_reducible refine Below.drewN' ?_ _) | (with_reducible refine Below.trans ?_ (hb1.mono ?_); rotate_left; focus (first | (simp; done) | (simp; omega) | (have q0 := hb1.size; (try simp at q0); have q1 := hbz.size; (try simp at q1); (try simp); omega))) | (with_reducible refine Below.trans ?_ (hbz.mono ?_); rotate_left; focus (first | (simp; done) | (simp; omega) | (have q0 := hb1.size; (try simp at q0); have q1 := hbz.size; (try simp at q1); (try simp); omega)))))
    have zn' : w.heap.size < w2.heap.size := by have := hb1.size; (try simp at this); omega
    clear hb1 hc1 hf1 k0 k1 k2 k3 k4 f0 f1 f2 f3 f4 hbz zn
    replace hbz := hbz'; replace zn := zn'; clear hbz' zn'
    have k0 := k0'
    have k1 := k1'
    have k2 := k2'
    have k3 := k3'
    have k4 := k4'
    have f0 := f0'
    have f1 := f1'
    have f2 := f2'
    have f3 := f3'
    have f4 := f4'
    clear k0' k1' k2' k3' k4' f0' f1' f2' f3' f4'
    by_cases g : t > 200
    · have gb : decide (t > 200) = true := decide_eq_true g
      go_wp2_with fail
      refine bodyPost_ret (v := .tuple #[.agg #[.bool false, .int .u8 0, .string ⟨#[]⟩, .int .i64 0, .slice none 0 0], .int .i64 (n : Int), .int .i64 40]) ?_ rfl ⟨_, _, _, _, _, _, _, _, _, rfl, ?_⟩
      · refine results_ctt' Tryz.results25 _ (by rfl) [.bool false, .int .u8 0, .string ⟨#[]⟩, .int .i64 0, .slice none 0 0] _ (by rfl) (by rfl) Tryz.underlying46 rfl (by kernel_rfl) (cells5 (by simp [go_sem, k0, k1, k2, k3, k4]) (by simp [go_sem, k0, k1, k2, k3, k4]) (by simp [go_sem, k0, k1, k2, k3, k4]) (by simp [go_sem, k0, k1, k2, k3, k4]) (by simp [go_sem, k0, k1, k2, k3, k4]))
      · (repeat (first | (with_reducible exact Below.refl _ _) | ((with_reducible refine Below.alloc ?_ ?_ _); rotate_left; focus (first | (simp; done) | (simp; omega) | (have q0 := hbz.size; (try simp at q0); (try simp); omega))) | ((with_reducible refine Below.setCell ?_ ?_ _); rotate_left; focus (first | (simp; done) | (simp; omega) | (have q0 := hbz.size; (try simp at q0); (try simp); omega))) | (with_reducible refine Below.drew ?_) | (with_reducible refine Below.drewN' ?_ _) | (with_reducible refine Below.trans ?_ (hbz.mono ?_); rotate_left; focus (first | (simp; done) | (simp; omega) | (have q0 := hbz.size; (try simp at q0); (try simp); omega)))))
    · have gb : decide (t > 200) = false := decide_eq_false g
      go_wp2_with fail
      refine (HTREE.out _ hbz).mono ?_
      rintro e w3 ⟨v4, rfl, hR, hb1⟩
      obtain ⟨A4, c4, rfl, _, _⟩ := Kd.R_reads hR
      clear hR HTREE
      obtain ⟨hc1, hf1⟩ := bcell hb1
      have k0' := hc1 w.heap.size 0 (by first | omega | (simp; done) | (simp; omega))
      have k1' := hc1 w.heap.size 1 (by first | omega | (simp; done) | (simp; omega))
      have k2' := hc1 w.heap.size 2 (by first | omega | (simp; done) | (simp; omega))
      have k3' := hc1 w.heap.size 3 (by first | omega | (simp; done) | (simp; omega))
      have k4' := hc1 w.heap.size 4 (by first | omega | (simp; done) | (simp; omega))
      have f0' := hf1 w.heap.size 0 (by first | omega | (simp; done) | (simp; omega))
      have f1' := hf1 w.heap.size 1 (by first | omega | (simp; done) | (simp; omega))
      have f2' := hf1 w.heap.size 2 (by first | omega | (simp; done) | (simp; omega))
      have f3' := hf1 w.heap.size 3 (by first | omega | (simp; done) | (simp; omega))
      have f4' := hf1 w.heap.size 4 (by first | omega | (simp; done) | (simp; omega))
      (try simp [go_sem, k0, k1, k2, k3, k4, f0, f1, f2, f3, f4] at k0' k1' k2' k3' k4' f0' f1' f2' f3' f4')
      have hbz' : Below w.heap.size w w3 := by (repeat (first | (with_reducible exact Below.refl _ _) | ((with_reducible refine Below.alloc ?_ ?_ _); rotate_left; focus (first | (simp; done) | (simp; omega) | (have q0 := hb1.size; (try simp at q0); have q1 := hbz.size; (try simp at q1); (try simp); omega))) | ((with_reducible refine Below.setCell ?_ ?_ _); rotate_left; focus (first | (simp; done) | (simp; omega) | (have q0 := hb1.size; (try simp at q0); have q1 := hbz.size; (try simp at q1); (try simp); omega))) | (with_reducible refine Below.drew ?_) | (with_reducible refine Below.drewN' ?_ _) | (with_reducible refine Below.trans ?_ (hb1.mono ?_); rotate_left; focus (first | (simp; done) | (simp; omega) | (have q0 := hb1.size; (try simp at q0); have q1 := hbz.size; (try simp at q1); (try simp); omega))) | (with_reducible refine Below.trans ?_ (hbz.mono ?_); rotate_left; focus (first | (simp; done) | (simp; omega) | (have q0 := hb1.size; (try simp at q0); have q1 := hbz.size; (try simp at q1); (try simp); omega)))))
      have zn' : w.heap.size < w3.heap.size := by have := hb1.size; (try simp at this); omega
      clear hb1 hc1 hf1 k0 k1 k2 k3 k4 f0 f1 f2 f3 f4 hbz zn
      replace hbz := hbz'; replace zn := zn'; clear hbz' zn'
      have k0 := k0'
      have k1 := k1'
      have k2 := k2'
      have k3 := k3'
      have k4 := k4'
      have f0 := f0'
      have f1 := f1'
      have f2 := f2'
      have f3 := f3'
      have f4 := f4'
      clear k0' k1' k2' k3' k4' f0' f1' f2' f3' f4'
      go_wp2_with fail
      refine bodyPost_ret (v := .tuple #[.agg #[.bool q.1, .int .u8 q.2.1, .string q.2.2.1, .int .i64 q.2.2.2.1, .slice A4 q.2.2.2.2.length c4], .int .i64 (n : Int), .int .i64 0]) ?_ rfl ⟨_, _, _, _, _, _, _, _, _, rfl, ?_⟩
      · refine results_ctt' Tryz.results25 _ (by rfl) [.bool q.1, .int .u8 q.2.1, .string q.2.2.1, .int .i64 q.2.2.2.1, .slice A4 q.2.2.2.2.length c4] _ (by rfl) (by rfl) Tryz.underlying46 rfl (by kernel_rfl) (cells5 (by simp [go_sem, k0, k1, k2, k3, k4]) (by simp [go_sem, k0, k1, k2, k3, k4]) (by simp [go_sem, k0, k1, k2, k3, k4]) (by simp [go_sem, k0, k1, k2, k3, k4]) (by simp [go_sem, k0, k1, k2, k3, k4]))
      · (repeat (first | (with_reducible exact Below.refl _ _) | ((with_reducible refine Below.alloc ?_ ?_ _); rotate_left; focus (first | (simp; done) | (simp; omega) | (have q0 := hbz.size; (try simp at q0); (try simp); omega))) | ((with_reducible refine Below.setCell ?_ ?_ _); rotate_left; focus (first | (simp; done) | (simp; omega) | (have q0 := hbz.size; (try simp at q0); (try simp); omega))) | (with_reducible refine Below.drew ?_) | (with_reducible refine Below.drewN' ?_ _) | (with_reducible refine Below.trans ?_ (hbz.mono ?_); rotate_left; focus (first | (simp; done) | (simp; omega) | (have q0 := hbz.size; (try simp at q0); (try simp); omega)))))

/-- the lexer and the reader at any text -/
theorem lexed_any (s : ByteArray) : ∃ ts, Lexed s ts := by
  obtain ⟨k, r, hr, hle⟩ := tokens_tot (bytesOf s)
  refine ⟨r.1, fun A c W hC hc => ?_, fun A c W hC hc => next_walk r.1 hle A c W hC hc⟩
  refine (juristref03_Tokens.calls k A c (bytesOf s) r.1 r.2.1 r.2.2 W hC hc hr).mono ?_
  rintro e w' ⟨v0, he, hR, hb⟩
  exact ⟨v0, _, _, he, hR, hb⟩
theorem read_any (s : ByteArray) (hs : s.size ≤ 9223372036854775807) (w : World) : Calls Tryz.prog 7 #[.string s] w fun e w' => (∃ v, e = .returned v ∧ SomeTree v) ∧ Below w.heap.size w w' := by
  obtain ⟨ts, hx⟩ := lexed_any s
  exact read_of s hs ts hx w
end Go.Proofs.YtmlkfgoiakcnhaaGreatDoor
