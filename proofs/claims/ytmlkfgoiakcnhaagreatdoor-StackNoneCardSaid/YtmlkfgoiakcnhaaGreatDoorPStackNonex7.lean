/- The reference's trees: tree with its contract, Next as a function. (The print tool's text, cut.) -/
import Derived.Test.YtmlkfgoiakcnhaaGreatDoorPStackNonex0
import Derived.Test.YtmlkfgoiakcnhaaGreatDoorPStackNonex6
namespace Go.Proofs.YtmlkfgoiakcnhaaGreatDoor.PStackNone
open Go.RowKit Go.Proofs.YtmlkfgoiakcnhaaGreatDoorW.PrintWords Go.Proofs.YtmlkfgoiakcnhaaGreatDoorW.PrintLast Go.Proofs.YtmlkfgoiakcnhaaGreatDoorW.PrintMore
attribute [local go_sem] max2_int min2_int max_two min_two max_three min_three max_four min_four   -- for this text's walks alone
set_option linter.unusedVariables false
set_option linter.unusedSimpArgs false

/-! ### juristref04_tree: function 46 -/
mutual
def juristref04_tree.l0 : Nat → List (S43) → Int → Bool → Int → ByteArray → Int → List (S46) → Option (Bool × Int × ByteArray × Int × (List (S46)))
  | 0, _, _, _, _, _, _, _ => none
  | k + 1, x0, x4, x166000, x166001, x166002, x166003, x166004 => if x4 < (wrap64 ((x0.length : Int) - 1)) then ((juristref04_end.f k x0 x4).bind fun t166 => (if 0 ≤ x4 then (if x4 ≤ t166 then (if t166 ≤ (x0.length : Int) then ((juristref04_tree.f k ((x0.take (t166 : Int).toNat).drop (x4 : Int).toNat)).bind fun bt171 => (if x166004.length < 2199023255552 then (juristref04_tree.l0 k x0 t166 x166000 x166001 x166002 x166003 (x166004 ++ [(⟨bt171.1, (⟨bt171.2.1, bt171.2.2.1, bt171.2.2.2.1⟩ : S43), bt171.2.2.2.2⟩ : S46)])) else (none))) else (none)) else (none)) else (none))) else (some (x166000, x166001, x166002, x166003, x166004))
def juristref04_tree.f : Nat → List (S43) → Option (Bool × Int × ByteArray × Int × (List (S46)))
  | 0, _ => none
  | k + 1, l0 => if 0 < (l0.length : Int) then (if ((rd_T43 l0 0).f0) = 1 then (juristref04_tree.l0 k l0 1 true ((rd_T43 l0 0).f0) ((rd_T43 l0 0).f1) ((rd_T43 l0 0).f2) ([] : List (S46))) else (some (false, (rd_T43 l0 0).f0, (rd_T43 l0 0).f1, (rd_T43 l0 0).f2, ([] : List (S46))))) else (none)
end
theorem juristref04_tree.mono_l : ∀ k, (∀ y0, LeO (juristref04_tree.f k y0) (juristref04_tree.f (k + 1) y0)) ∧ (∀ y0 y1 y2 y3 y4 y5 y6, LeO (juristref04_tree.l0 k y0 y1 y2 y3 y4 y5 y6) (juristref04_tree.l0 (k + 1) y0 y1 y2 y3 y4 y5 y6))
  | 0 => ⟨fun _ r h => by simp [juristref04_tree.f] at h, fun _ _ _ _ _ _ _ r h => by simp [juristref04_tree.l0] at h⟩
  | k + 1 => by
    obtain ⟨ih0, ih1⟩ := juristref04_tree.mono_l k
    refine ⟨?_, ?_⟩
    · intro y0
      unfold juristref04_tree.f
      repeat' first
      | (with_reducible exact ih0 _)
      | (with_reducible exact ih1 _ _ _ _ _ _ _)
      | (with_reducible exact juristref04_end.mono _ _ _)
      | (with_reducible exact LeO.refl _)
      | (with_reducible exact LeO.none _)
      | (with_reducible refine LeO.ite ?_ ?_)
      | (with_reducible refine LeO.bind ?_ (fun _ => ?_))
      | exact ih0 _
      | exact ih1 _ _ _ _ _ _ _
      | exact juristref04_end.mono _ _ _
      | exact LeO.none _
      | refine LeO.ite ?_ ?_
      | refine LeO.bind ?_ (fun _ => ?_)
    · intro y0 y1 y2 y3 y4 y5 y6
      unfold juristref04_tree.l0
      repeat' first
      | (with_reducible exact ih0 _)
      | (with_reducible exact ih1 _ _ _ _ _ _ _)
      | (with_reducible exact juristref04_end.mono _ _ _)
      | (with_reducible exact LeO.refl _)
      | (with_reducible exact LeO.none _)
      | (with_reducible refine LeO.ite ?_ ?_)
      | (with_reducible refine LeO.bind ?_ (fun _ => ?_))
      | exact ih0 _
      | exact ih1 _ _ _ _ _ _ _
      | exact juristref04_end.mono _ _ _
      | exact LeO.none _
      | refine LeO.ite ?_ ?_
      | refine LeO.bind ?_ (fun _ => ?_)
theorem juristref04_tree.mono : ∀ a0 k, LeO (juristref04_tree.f k a0) (juristref04_tree.f (k + 1) a0) := by
  intro a0 k
  obtain ⟨ih0, ih1⟩ := juristref04_tree.mono_l k
  exact ih0 a0
def juristref04_tree.T7 : Bool × List (List Nat × List Nat) := (true, [([], []), ([0], [0]), ([], []), ([], []), ([], []), ([2, 3, 4], [2, 3, 4]), ([5], [5]), ([6], [6]), ([1, 7, 6], [1, 7]), ([0, 1, 2, 3, 4, 5, 6, 7, 8], []), ([9, 8, 8, 0, 1, 2, 3, 4, 5, 6, 7, 8], [8, 9])])
def juristref04_tree.B7 : List Nat := [0, 1, 0, 0, 0, 28, 60, 124, 255, 511, 1023]
theorem juristref04_tree.tab7 : rtab .any (opsOf Tryz.f46 7) = juristref04_tree.T7 := by kernel_rfl
theorem juristref04_tree.bits7 : waitsOk juristref04_tree.T7.2 juristref04_tree.B7 = true := by kernel_rfl
set_option maxHeartbeats 8000000 in
set_option maxRecDepth 100000 in
theorem juristref04_tree.calls (k : Nat) : ∀ (A0 : Option Addr) (c0 : Nat) (l0 : List (S43)) (r1 : Bool) (r2 : Int) (r3 : ByteArray) (r4 : Int) (r5 : List (S46)) (w : World) (hr0 : Kd.C k43 w A0 l0.length l0) (hc0 : l0.length ≤ c0) (h : juristref04_tree.f k l0 = some (r1, r2, r3, r4, r5)),
    Calls Tryz.prog 46 #[.slice A0 l0.length c0] w fun e w' => ∃ v4_ : Value, e = .returned (.agg #[.bool r1, .int .u8 r2, .string r3, .int .i64 r4, v4_]) ∧ Kd.R k46 46 w' w.heap.size (fun _ => True) v4_ r5 ∧ Below w.heap.size w w' := by
  induction k using Nat.strongRecOn with
  | _ k ih =>
  intro A0 c0 l0 r1 r2 r3 r4 r5 w hr0 hc0 h
  cases k with
  | zero => exact absurd h (by simp [juristref04_tree.f])
  | succ k =>
  simp only [juristref04_tree.f] at h
  have hu46 := Tryz.underlying46
  have hu43 := Tryz.underlying43
  have HR0 := Aside0.mk hr0
  have HC0 := Aside0.mk hc0
  clear hr0 hc0
  have HB := Aside0.mk (Below.refl w.heap.size w)
  have H : (if 0 < (l0.length : Int) then (if ((rd_T43 l0 0).f0) = 1 then (juristref04_tree.l0 k l0 1 true ((rd_T43 l0 0).f0) ((rd_T43 l0 0).f1) ((rd_T43 l0 0).f2) ([] : List (S46))) else (some (false, (rd_T43 l0 0).f0, (rd_T43 l0 0).f1, (rd_T43 l0 0).f2, ([] : List (S46))))) else (none)) = some (r1, r2, r3, r4, r5) := h
  clear h
  by_cases c2 : 0 < (l0.length : Int)
  · rw [if_pos c2] at H
    have c2b0 : decide (0 < (l0.length : Int)) = true := decide_eq_true c2
    have c2b1 : decide (0 < l0.length) = true := decide_eq_true (by omega)
    clear c2
    by_cases c3 : ((rd_T43 l0 0).f0) = 1
    · rw [if_pos c3] at H
      have c3b0 : (((rd_T43 l0 0).f0) == 1) = true := beq_iff_eq.mpr c3
      have c3b1 : (((rd_T43 l0 0).f0) != 1) = false := bne_eq_false_iff_eq.mpr c3
      clear c3
      have H' := Aside0.mk H
      clear H
      go_enter Tryz.func46, Tryz.ntmps46
      go_wp2_with (first | ((with_reducible refine gate_dst (N := 2) rfl ?_); refine box_event ?hg (N := 2) ?hd (cs := #[.bool false, .int .u8 0, .string (⟨#[]⟩ : ByteArray), .int .i64 0, .slice none 0 0]) (t := 46) ?hr ?_; (case hd => rfl); (case hg => rfl); (case hr => first | (go_simp; done) | (go_simp; rfl)); intro gb161 hg w4 hbox hb; have n0_ := Aside0.mk (below_step (by repeat (first | (with_reducible first | exact HB.out | apply below_alloc | apply pw_below_drewN | apply below_drew1) | exact HB.out)) hb); have n1_ := Aside0.mk (hbox); have n2_ := Aside0.mk ((by rw [hg]; exact (below_size (by repeat (first | (with_reducible first | exact HB.out | apply below_alloc | apply pw_below_drewN | apply below_drew1) | exact HB.out))) : w.heap.size ≤ gb161)); have n3_ := Aside0.mk ((by rw [hg]; exact (below_size (by repeat (first | (with_reducible first | exact HB.out | apply below_alloc | apply pw_below_drewN | apply below_drew1) | exact HB.out))) : w.heap.size ≤ gb161)); clear HB; have HB := n0_; have BK161 := n1_; have GW161 := n2_; have GE161 := n3_; clear n0_ n1_ n2_ n3_; clear hb hbox hg; have p162 : 0 ≤ (0 : Int) := (by omega); have q162 : 0 < (l0.length : Int) := of_decide_eq_true (by first | (with_reducible assumption) | assumption); obtain ⟨ad162, e162, hx162_0, hx162_1, hx162_2⟩ := at_T43 HR0.out 0 p162 q162; cases e162; have qi162 : (0 < l0.length) = True := eq_true (by omega); (try rw [show ((0 : Int)).toNat = 0 from rfl] at hx162_0); (try rw [show 0 * 3 = 0 from rfl] at hx162_0); (try rw [Addr.add_zero'] at hx162_0); (try rw [show ((0 : Int)).toNat = 0 from rfl] at hx162_1); (try rw [show 0 * 3 = 0 from rfl] at hx162_1); (try rw [Addr.add_zero'] at hx162_1); (try rw [show ((0 : Int)).toNat = 0 from rfl] at hx162_2); (try rw [show 0 * 3 = 0 from rfl] at hx162_2); (try rw [Addr.add_zero'] at hx162_2); replace hx162_0 := (HB.out.cell (World.block_lt_of_cell? w _ hx162_0)).trans hx162_0; replace hx162_1 := (HB.out.cell (World.block_lt_of_cell? w _ hx162_1)).trans hx162_1; replace hx162_2 := (HB.out.cell (World.block_lt_of_cell? w _ hx162_2)).trans hx162_2; replace p162 := eq_true p162; replace q162 := eq_true q162; have p164 : 0 ≤ (0 : Int) := (by omega); have q164 : 0 < (l0.length : Int) := of_decide_eq_true (by first | (with_reducible assumption) | assumption); obtain ⟨ad164, e164, hx164_0, hx164_1, hx164_2⟩ := at_T43 HR0.out 0 p164 q164; obtain rfl : ad162 = ad164 := (by injection e164); have qi164 : (0 < l0.length) = True := eq_true (by omega); (try rw [show ((0 : Int)).toNat = 0 from rfl] at hx164_0); (try rw [show 0 * 3 = 0 from rfl] at hx164_0); (try rw [Addr.add_zero'] at hx164_0); (try rw [show ((0 : Int)).toNat = 0 from rfl] at hx164_1); (try rw [show 0 * 3 = 0 from rfl] at hx164_1); (try rw [Addr.add_zero'] at hx164_1); (try rw [show ((0 : Int)).toNat = 0 from rfl] at hx164_2); (try rw [show 0 * 3 = 0 from rfl] at hx164_2); (try rw [Addr.add_zero'] at hx164_2); replace hx164_0 := (HB.out.cell (World.block_lt_of_cell? w _ hx164_0)).trans hx164_0; replace hx164_1 := (HB.out.cell (World.block_lt_of_cell? w _ hx164_1)).trans hx164_1; replace hx164_2 := (HB.out.cell (World.block_lt_of_cell? w _ hx164_2)).trans hx164_2; replace p164 := eq_true p164; replace q164 := eq_true q164) | ((with_reducible refine gate_dst (N := 3) rfl ?_); refine box_event ?hg (N := 3) ?hd (cs := #[.bool false, .int .u8 0, .string (⟨#[]⟩ : ByteArray), .int .i64 0, .slice none 0 0]) (t := 46) ?hr ?_; (case hd => rfl); (case hg => rfl); (case hr => first | (go_simp; done) | (go_simp; rfl)); intro gb165 hg w5 hbox hb; have n0_ := Aside0.mk (blk_below (g := gb161) (o := .cells #[.bool false, .int .u8 0, .string (⟨#[]⟩ : ByteArray), .int .i64 0, .slice none 0 0] 46 (0, 0)) (by (with_reducible repeat (first | refine blk_drewN ?_ _ | refine blk_drew ?_ | refine blk_alloc ?_ _)); exact BK161.out) hb); have n1_ := Aside0.mk (below_step (by repeat (first | (with_reducible first | exact HB.out | apply below_alloc | apply pw_below_drewN | apply below_drew1 | refine below_set ?_ GE161.out) | exact HB.out)) hb); have n2_ := Aside0.mk (hbox); have n3_ := Aside0.mk ((by rw [hg]; exact (below_size (by repeat (first | (with_reducible first | exact HB.out | apply below_alloc | apply pw_below_drewN | apply below_drew1 | refine below_set ?_ GE161.out) | exact HB.out))) : w.heap.size ≤ gb165)); have n4_ := Aside0.mk ((by rw [hg]; exact (below_size (by repeat (first | (with_reducible first | exact HB.out | apply below_alloc | apply pw_below_drewN | apply below_drew1 | refine below_set ?_ GE161.out) | exact HB.out))) : w.heap.size ≤ gb165)); have n5_ := Aside0.mk ((by rw [hg]; exact Nat.ne_of_lt (blk_lt (g := gb161) (o := .cells #[.bool false, .int .u8 0, .string (⟨#[]⟩ : ByteArray), .int .i64 0, .slice none 0 0] 46 (0, 0)) (by (with_reducible repeat (first | refine blk_drewN ?_ _ | refine blk_drew ?_ | refine blk_alloc ?_ _)); exact BK161.out)) : gb161 ≠ gb165)); have n6_ := Aside0.mk ((by rw [hg]; exact Nat.ne_of_gt (blk_lt (g := gb161) (o := .cells #[.bool false, .int .u8 0, .string (⟨#[]⟩ : ByteArray), .int .i64 0, .slice none 0 0] 46 (0, 0)) (by (with_reducible repeat (first | refine blk_drewN ?_ _ | refine blk_drew ?_ | refine blk_alloc ?_ _)); exact BK161.out)) : gb165 ≠ gb161)); clear BK161; clear HB; have BK161 := n0_; have HB := n1_; have BK165 := n2_; have GW165 := n3_; have GE165 := n4_; have NB161_165 := n5_; have NB165_161 := n6_; clear n0_ n1_ n2_ n3_ n4_ n5_ n6_; clear hb hbox hg; have hnb6 := NB165_161.out; have hnc6 := NB161_165.out; have hcz7_0 : w5.cell? ⟨gb165, 0, none⟩ = some (.bool false) := (blk_cell BK165.out 0).trans rfl; have hcz7_1 : w5.cell? ⟨gb165, 1, none⟩ = some (.int .u8 0) := (blk_cell BK165.out 1).trans rfl; have hcz7_2 : w5.cell? ⟨gb165, 2, none⟩ = some (.string (⟨#[]⟩ : ByteArray)) := (blk_cell BK165.out 2).trans rfl; have hcz7_3 : w5.cell? ⟨gb165, 3, none⟩ = some (.int .i64 0) := (blk_cell BK165.out 3).trans rfl; have hcz7_4 : w5.cell? ⟨gb165, 4, none⟩ = some (.slice none 0 0) := (blk_cell BK165.out 4).trans rfl; have hfz7_0 := blk_frozen BK165.out 0; have hfz7_1 := blk_frozen BK165.out 1; have hfz7_2 := blk_frozen BK165.out 2; have hfz7_3 := blk_frozen BK165.out 3; have hfz7_4 := blk_frozen BK165.out 4))
      go_loopg [4] k (fun kq v4 w' => ∃ (x4_1 : Int) (x166004_1 : List (S46)) (u166004 : Value), v4 = .int .i64 x4_1 ∧ Aside0 (juristref04_tree.l0 kq l0 x4_1 true ((rd_T43 l0 0).f0) ((rd_T43 l0 0).f1) ((rd_T43 l0 0).f2) x166004_1 = some (r1, r2, r3, r4, r5)) ∧ Aside0 (kq ≤ k) ∧ Aside0 (Kd.R k46 46 w' w.heap.size (fun k_ => k_ ≠ gb161 ∧ k_ ≠ gb165) u166004 x166004_1) ∧ Aside0 (w'.heap[gb161]? = some (.cells #[.bool false, .int .u8 0, .string (⟨#[]⟩ : ByteArray), .int .i64 0, (.slice none 0 0)] 46 (0, 0))) ∧ Aside0 (w'.heap[gb165]? = some (.cells #[.bool true, .int .u8 ((rd_T43 l0 0).f0), .string ((rd_T43 l0 0).f1), .int .i64 ((rd_T43 l0 0).f2), u166004] 46 (0, 0))) ∧ Aside0 (Below w.heap.size w w'))
      case atStart => exact ⟨(1), (([] : List (S46))), (.slice none 0 0), (by first | rfl | (simp; done) | (simp [*]; done)), H', ⟨Nat.le_refl _⟩, ⟨by first | exact Kd.R_nil _ _ _ _ _ | exact Kd.N_nil _ _ _ _ _ | exact Kd.V_nil _ _ _ _ _ | exact Kd.Q_nil _ _ _ _ _ | exact Kd.S_nil _ _ _ _ _⟩, ⟨by (with_reducible repeat (first | refine blk_drewN ?_ _ | refine blk_drew ?_ | refine blk_alloc ?_ _)); refine blk_far ?_ NB161_165.out _; (with_reducible repeat (first | refine blk_drewN ?_ _ | refine blk_drew ?_ | refine blk_alloc ?_ _)); refine blk_far ?_ NB161_165.out _; (with_reducible repeat (first | refine blk_drewN ?_ _ | refine blk_drew ?_ | refine blk_alloc ?_ _)); refine blk_far ?_ NB161_165.out _; (with_reducible repeat (first | refine blk_drewN ?_ _ | refine blk_drew ?_ | refine blk_alloc ?_ _)); refine blk_far ?_ NB161_165.out _; (with_reducible repeat (first | refine blk_drewN ?_ _ | refine blk_drew ?_ | refine blk_alloc ?_ _)); refine blk_far ?_ NB161_165.out _; (with_reducible repeat (first | refine blk_drewN ?_ _ | refine blk_drew ?_ | refine blk_alloc ?_ _)); exact BK161.out⟩, ⟨by (with_reducible repeat (first | refine blk_drewN ?_ _ | refine blk_drew ?_ | refine blk_alloc ?_ _)); refine blk_put (cs := #[.bool true, .int .u8 ((rd_T43 l0 0).f0), .string ((rd_T43 l0 0).f1), .int .i64 ((rd_T43 l0 0).f2), .slice none 0 0]) ?_ 4 _ rfl; (with_reducible repeat (first | refine blk_drewN ?_ _ | refine blk_drew ?_ | refine blk_alloc ?_ _)); refine blk_put (cs := #[.bool true, .int .u8 ((rd_T43 l0 0).f0), .string ((rd_T43 l0 0).f1), .int .i64 0, .slice none 0 0]) ?_ 3 _ rfl; (with_reducible repeat (first | refine blk_drewN ?_ _ | refine blk_drew ?_ | refine blk_alloc ?_ _)); refine blk_put (cs := #[.bool true, .int .u8 ((rd_T43 l0 0).f0), .string (⟨#[]⟩ : ByteArray), .int .i64 0, .slice none 0 0]) ?_ 2 _ rfl; (with_reducible repeat (first | refine blk_drewN ?_ _ | refine blk_drew ?_ | refine blk_alloc ?_ _)); refine blk_put (cs := #[.bool true, .int .u8 0, .string (⟨#[]⟩ : ByteArray), .int .i64 0, .slice none 0 0]) ?_ 1 _ rfl; (with_reducible repeat (first | refine blk_drewN ?_ _ | refine blk_drew ?_ | refine blk_alloc ?_ _)); refine blk_put (cs := #[.bool false, .int .u8 0, .string (⟨#[]⟩ : ByteArray), .int .i64 0, .slice none 0 0]) ?_ 0 _ rfl; (with_reducible repeat (first | refine blk_drewN ?_ _ | refine blk_drew ?_ | refine blk_alloc ?_ _)); exact BK165.out⟩, ⟨by repeat (first | (with_reducible first | exact HB.out | apply below_alloc | apply pw_below_drewN | apply below_drew1 | refine below_set ?_ GE161.out | refine below_set ?_ GE165.out) | exact HB.out)⟩⟩
      case round =>
        clear H'
        try clear p1
        try clear q1
        try clear hx1
        try clear qi1
        try clear c2
        try clear c2b0
        try clear c2b1
        try clear p2
        try clear c3
        try clear c3b0
        try clear c3b1
        try clear c4
        try clear c6
        try clear hcz7_0
        try clear hcz7_1
        try clear hcz7_2
        try clear hcz7_3
        try clear hcz7_4
        try clear hfz7_0
        try clear hfz7_1
        try clear hfz7_2
        try clear hfz7_3
        try clear hfz7_4
        try clear hx162_0
        try clear hx162_1
        try clear hx162_2
        try clear hx164_0
        try clear hx164_1
        try clear hx164_2
        try clear p162
        try clear p164
        try clear q162
        try clear q164
        obtain ⟨x4_1, x166004_1, u166004, rfl, HA, HK1, HO_166004, BK161, BK165, HB⟩ := hrel
        cases gk with
        | zero => exact absurd HA.out (by simp [juristref04_tree.l0])
        | succ k1 =>
          have H := HA.out
          clear HA
          simp only [juristref04_tree.l0] at H
          by_cases c8 : x4_1 < (wrap64 ((l0.length : Int) - 1))
          · rw [if_pos c8] at H
            have c8b0 : decide (x4_1 < (wrap64 ((l0.length : Int) - 1))) = true := decide_eq_true c8
            clear c8
            replace H := Option.bind_eq_some_iff.mp H
            obtain ⟨t166, A90, H⟩ := H
            replace H : (if 0 ≤ x4_1 then (if x4_1 ≤ t166 then (if t166 ≤ (l0.length : Int) then ((juristref04_tree.f k1 ((l0.take (t166 : Int).toNat).drop (x4_1 : Int).toNat)).bind fun bt171 => (if x166004_1.length < 2199023255552 then (juristref04_tree.l0 k1 l0 t166 true ((rd_T43 l0 0).f0) ((rd_T43 l0 0).f1) ((rd_T43 l0 0).f2) (x166004_1 ++ [(⟨bt171.1, (⟨bt171.2.1, bt171.2.2.1, bt171.2.2.2.1⟩ : S43), bt171.2.2.2.2⟩ : S46)])) else (none))) else (none)) else (none)) else (none)) = some (r1, r2, r3, r4, r5) := H
            have A9 := Aside0.mk A90
            clear A90
            by_cases c10 : 0 ≤ x4_1
            · rw [if_pos c10] at H
              have c10b0 := eq_true c10
              have c10b1 : decide (0 ≤ x4_1) = true := decide_eq_true c10
              clear c10
              by_cases c11 : x4_1 ≤ t166
              · rw [if_pos c11] at H
                have c11b0 := eq_true c11
                have c11b1 : decide (x4_1 ≤ t166) = true := decide_eq_true c11
                clear c11
                by_cases c12 : t166 ≤ (l0.length : Int)
                · rw [if_pos c12] at H
                  have c12b0 := eq_true c12
                  have c12b1 : decide (t166 ≤ (l0.length : Int)) = true := decide_eq_true c12
                  clear c12
                  obtain ⟨y167, hy167⟩ : ∃ y_ : List (S43), y_ = ((l0.take (t166 : Int).toNat).drop (x4_1 : Int).toNat) := ⟨_, rfl⟩
                  replace H : ((juristref04_tree.f k1 y167).bind fun bt171 => (if x166004_1.length < 2199023255552 then (juristref04_tree.l0 k1 l0 t166 true ((rd_T43 l0 0).f0) ((rd_T43 l0 0).f1) ((rd_T43 l0 0).f2) (x166004_1 ++ [(⟨bt171.1, (⟨bt171.2.1, bt171.2.2.1, bt171.2.2.2.1⟩ : S43), bt171.2.2.2.2⟩ : S46)])) else (none))) = some (r1, r2, r3, r4, r5) := by first | (rw [hy167]; with_reducible exact H) | (have H2_ := (Option.bind_some _ _).symm.trans H; rw [hy167]; with_reducible exact H2_) | (have H2_ := (Option.bind_some _ _).symm.trans H; with_reducible exact H2_) | with_reducible exact H | (rw [hy167]; exact H) | exact H
                  have Ny167 := Aside0.mk hy167
                  clear hy167
                  replace H := Option.bind_eq_some_iff.mp H
                  obtain ⟨⟨t171, t172, t173, t174, t175⟩, A130, H⟩ := H
                  replace H : (if x166004_1.length < 2199023255552 then (juristref04_tree.l0 k1 l0 t166 true ((rd_T43 l0 0).f0) ((rd_T43 l0 0).f1) ((rd_T43 l0 0).f2) (x166004_1 ++ [(⟨t171, (⟨t172, t173, t174⟩ : S43), t175⟩ : S46)])) else (none)) = some (r1, r2, r3, r4, r5) := H
                  have A13 := Aside0.mk A130
                  clear A130
                  by_cases c14 : x166004_1.length < 2199023255552
                  · rw [if_pos c14] at H
                    have LMc14 := Aside0.mk c14
                    clear c14
                    obtain ⟨y178, hy178⟩ : ∃ y_ : List (S46), y_ = (x166004_1 ++ [(⟨t171, (⟨t172, t173, t174⟩ : S43), t175⟩ : S46)]) := ⟨_, rfl⟩
                    replace H : (juristref04_tree.l0 k1 l0 t166 true ((rd_T43 l0 0).f0) ((rd_T43 l0 0).f1) ((rd_T43 l0 0).f2) y178) = some (r1, r2, r3, r4, r5) := by first | (rw [hy178]; with_reducible exact H) | (have H2_ := (Option.bind_some _ _).symm.trans H; rw [hy178]; with_reducible exact H2_) | (have H2_ := (Option.bind_some _ _).symm.trans H; with_reducible exact H2_) | with_reducible exact H | (rw [hy178]; exact H) | exact H
                    have Ny178 := Aside0.mk hy178
                    clear hy178
                    have H' := Aside0.mk H
                    clear H
                    try go_wp2_with (first | ((with_reducible refine gate_callee (f := 44) rfl ?_); refine goesL_ (some 26) rfl rfl Tryz.func44 (by kernel_rfl) rfl #[.slice (some ad162) l0.length c0, .int .i64 x4_1] rfl (by (try simp only [List.map_toArray, List.map_cons, List.map_nil]); first | done | rfl | (simp only [List.length_drop, List.length_take]; rfl)) ?_; (with_reducible refine (juristref04_end.calls k1 _ _ l0 x4_1 t166 _ ?side1 ?side2 A9.out).mono ?_); (case side1 => repeat (first | exact (Kd.C_below HR0.out HB.out) | (with_reducible refine Kd.C_alloc ?_ _) | (with_reducible refine Kd.C_drewN ?_ _) | (with_reducible refine Kd.C_drew ?_))); (case side2 => exact HC0.out); rintro e w' ⟨rfl, ⟨nd, rfl⟩⟩; refine ⟨_, rfl, ?_⟩; (try (rw [drewN_self wr]; generalize hq_ : World.drewN wr _ = wr; have n0_ : Aside0 (Kd.R k46 46 wr w.heap.size (fun k_ => k_ ≠ gb161 ∧ k_ ≠ gb165) u166004 x166004_1) := ⟨by rw [← hq_]; exact (by (with_reducible repeat (first | apply Kd.R_alloc | apply Kd.R_drewN | apply Kd.R_drew)); exact HO_166004.out)⟩; have n1_ : Aside0 (wr.heap[gb161]? = some (.cells #[.bool false, .int .u8 0, .string (⟨#[]⟩ : ByteArray), .int .i64 0, .slice none 0 0] 46 (0, 0))) := ⟨by rw [← hq_]; exact (by (with_reducible repeat (first | refine blk_drewN ?_ _ | refine blk_drew ?_ | refine blk_alloc ?_ _)); exact BK161.out)⟩; have n2_ : Aside0 (wr.heap[gb165]? = some (.cells #[.bool true, .int .u8 ((rd_T43 l0 0).f0), .string ((rd_T43 l0 0).f1), .int .i64 ((rd_T43 l0 0).f2), u166004] 46 (0, 0))) := ⟨by rw [← hq_]; exact (by (with_reducible repeat (first | refine blk_drewN ?_ _ | refine blk_drew ?_ | refine blk_alloc ?_ _)); exact BK165.out)⟩; have n3_ : Aside0 (Below w.heap.size w wr) := ⟨by rw [← hq_]; exact (by repeat (first | (with_reducible first | exact HB.out | apply below_alloc | apply pw_below_drewN | apply below_drew1 | refine below_set ?_ GE161.out | refine below_set ?_ GE165.out) | exact HB.out))⟩; clear HO_166004 BK161 BK165 HB hq_; have HO_166004 := n0_; have BK161 := n1_; have BK165 := n2_; have HB := n3_; clear n0_ n1_ n2_ n3_))))
                    have n0_ := Aside0.mk (Kd.R_drew HO_166004.out)
                    have n1_ := Aside0.mk (blk_drew BK161.out)
                    have n2_ := Aside0.mk (blk_drew BK165.out)
                    have n3_ := Aside0.mk (below_drew1 HB.out)
                    clear HO_166004
                    clear BK161
                    clear BK165
                    clear HB
                    have HO_166004 := n0_
                    have BK161 := n1_
                    have BK165 := n2_
                    have HB := n3_
                    clear n0_ n1_ n2_ n3_
                    have q16 : (t166 : Int) ≤ ((l0.length : Int) : Int) := of_decide_eq_true (by first | (with_reducible assumption) | assumption)
                    obtain ⟨i016, hi016, _, hsz16, _⟩ := info_parts info43
                    have hroom16 : l0.length ≤ c0 := HC0.out
                    have hC16 : Kd.C k43 _ (some ad162) l0.length l0 := HR0.out
                    have ql16 : (x4_1 : Int) ≤ (t166 : Int) := of_decide_eq_true (by first | (with_reducible assumption) | assumption)
                    have q016 : (0 : Int) ≤ (x4_1 : Int) := of_decide_eq_true (by first | (with_reducible assumption) | assumption)
                    have hcut16 := cut_mid (P := Tryz.prog) 63 43 .i64 .i64 Tryz.underlying63 hi016 3 hsz16 (some ad162) l0.length c0 x4_1 t166 q016 ql16 q16 hroom16
                    have hr16 := Kd.C_mid (lo := (x4_1 : Int).toNat) (hi := (t166 : Int).toNat) (c := c0) hC16 (by omega) (by omega) hroom16
                    obtain ⟨A16, hA16⟩ : ∃ A1, A1 = (if c0 = (x4_1 : Int).toNat then (some ad162) else ((some ad162) : Option Addr).map (·.add ((x4_1 : Int).toNat * 3))) := ⟨_, rfl⟩
                    obtain ⟨c16, hc16⟩ : ∃ c1, c1 = c0 - (x4_1 : Int).toNat := ⟨_, rfl⟩
                    have hy16 : y167.length = (t166 : Int).toNat - (x4_1 : Int).toNat := (by rw [Ny167.out, List.length_drop, List.length_take] <;> omega)
                    rw [show ((l0).take (t166 : Int).toNat).drop (x4_1 : Int).toNat = y167 from Ny167.out.symm] at hr16
                    replace hr16 : Kd.C k43 _ A16 y167.length y167 := (by rw [hA16]; exact hr16)
                    rw [← hy16, ← hA16, ← hc16] at hcut16
                    have HR170 := Aside0.mk hr16
                    have HC170 := Aside0.mk (show y167.length ≤ c16 from by rw [hy16, hc16]; exact Nat.sub_le_sub_right (Nat.le_trans (by omega) hroom16) _)
                    clear hr16 hC16 hroom16 hi016 hsz16 hc16
                    have KY16 := Aside0.mk hy16
                    have KA16 := Aside0.mk hA16
                    clear hy16 hA16
                    replace q16 := eq_true q16
                    refine start_ (n := 11) (S := fun w' => w'.cell? ⟨gb165, 0, none⟩ = some (.bool true) ∧ w'.cell? ⟨gb165, 1, none⟩ = some (.int .u8 ((rd_T43 l0 0).f0)) ∧ w'.cell? ⟨gb165, 2, none⟩ = some (.string ((rd_T43 l0 0).f1)) ∧ w'.cell? ⟨gb165, 3, none⟩ = some (.int .i64 ((rd_T43 l0 0).f2)) ∧ w'.cell? ⟨gb165, 4, none⟩ = some (u166004)) (ds := [10]) #[false, false, false, false, false, false, false, false, false, false, false] (by kernel_rfl) rfl rfl ⟨(blk_cell BK165.out 0).trans rfl, (blk_cell BK165.out 1).trans rfl, (blk_cell BK165.out 2).trans rfl, (blk_cell BK165.out 3).trans rfl, (blk_cell BK165.out 4).trans rfl⟩ (fun hHeld => ?_); refine with_tabW juristref04_tree.tab7 juristref04_tree.bits7 (fun HT_ HW_ => ?_)
                    generalize wr.drew = w15 at HO_166004 BK161 BK165 HB HR170 hHeld ⊢
                    refine pure_ (i := 0) (N := some 27) (v := ?_) (a' := ?_) #[true, false, false, false, false, false, false, false, false, false, false] rfl rfl (any_of HT_.out (by kernel_rfl)) (fun _ _ _ h => h) (Or.inl ⟨by rfl, ?_⟩) ?_ ?_
                    rotate_left
                    · intro w'
                      go_simp
                      with_reducible rfl
                    rotate_left
                    · simp only [Act.put, List.setIfInBounds_toArray, List.set_cons_zero, List.set_cons_succ, i64_w, i32_w]
                      rfl
                    refine pure_ (i := 2) (N := some 29) (v := ?_) (a' := ?_) #[true, false, true, false, false, false, false, false, false, false, false] rfl rfl (any_of HT_.out (by kernel_rfl)) (fun _ _ _ h => h) (Or.inl ⟨by rfl, ?_⟩) ?_ ?_
                    rotate_left
                    · intro w'
                      go_simp
                      with_reducible rfl
                    rotate_left
                    · simp only [Act.put, List.setIfInBounds_toArray, List.set_cons_zero, List.set_cons_succ, i64_w, i32_w]
                      rfl
                    refine pure_ (i := 3) (N := some 30) (v := ?_) (a' := ?_) #[true, false, true, true, false, false, false, false, false, false, false] rfl rfl (any_of HT_.out (by kernel_rfl)) (fun _ _ _ h => h) (Or.inl ⟨by rfl, ?_⟩) ?_ ?_
                    rotate_left
                    · intro w'
                      go_simp
                      with_reducible rfl
                    rotate_left
                    · simp only [Act.put, List.setIfInBounds_toArray, List.set_cons_zero, List.set_cons_succ, i64_w, i32_w]
                      rfl
                    refine pure_ (i := 4) (N := some 31) (v := ?_) (a' := ?_) #[true, false, true, true, true, false, false, false, false, false, false] rfl rfl (any_of HT_.out (by kernel_rfl)) (fun _ _ _ h => h) (Or.inl ⟨by rfl, ?_⟩) ?_ ?_
                    rotate_left
                    · intro w'
                      go_simp
                      with_reducible rfl
                    rotate_left
                    · simp only [Act.put, List.setIfInBounds_toArray, List.set_cons_zero, List.set_cons_succ, i64_w, i32_w]
                      rfl
                    refine pure_ (i := 5) (N := some 32) (v := ?_) (a' := ?_) #[true, false, true, true, true, true, false, false, false, false, false] rfl rfl (any_of HT_.out (by kernel_rfl)) (fun _ _ _ h => h) (Or.inl ⟨by rfl, ?_⟩) ?_ ?_
                    rotate_left
                    · intro w'
                      go_simp
                      with_reducible rfl
                    rotate_left
                    · simp only [Act.put, List.setIfInBounds_toArray, List.set_cons_zero, List.set_cons_succ, i64_w, i32_w]
                      rfl
                    refine take_ (i := 1) (N := some 28) (v := ?_) (a' := ?_) #[true, true, true, true, true, true, false, false, false, false, false] rfl rfl (take_ofW HT_.out HW_.out (by kernel_rfl)) (fun _ _ _ h => h) (Or.inl ⟨by rfl, ?_⟩) hHeld ?_ ?_
                    rotate_left
                    · rintro w' ⟨s0, s1, s2, s3, s4⟩
                      go_simp
                      with_reducible rfl
                    rotate_left
                    · simp only [Act.put, List.setIfInBounds_toArray, List.set_cons_zero, List.set_cons_succ, i64_w, i32_w]
                      rfl
                    refine one_ (i := 6) (N := some 33) #[true, true, true, true, true, true, true, false, false, false, false] rfl rfl (one_of HT_.out (by kernel_rfl)) (by decide) (fun K hK => ?_)
                    refine goes_ Tryz.func46 (by kernel_rfl) rfl #[.slice A16 y167.length c16] (by rfl) rfl rfl (by (try simp only [List.map_toArray, List.map_cons, List.map_nil]); first | done | rfl | (simp only [List.length_drop, List.length_take]; rfl)) ?_
                    with_reducible refine (ih k1 (by have := HK1.out; omega) _ _ y167 t171 t172 t173 t174 t175 _ ?side1 ?side2 A13.out).mono ?_
                    (case side1 => repeat (first | exact (Kd.C_below HR170.out HB.out) | (with_reducible refine Kd.C_alloc ?_ _) | (with_reducible refine Kd.C_drewN ?_ _) | (with_reducible refine Kd.C_drew ?_)))
                    (case side2 => exact HC170.out)
                    rintro e w17 ⟨v176, rfl, ho0, hb⟩
                    refine ⟨_, rfl, ?_⟩
                    have n0_ := Aside0.mk (Kd.R_elder' (by (with_reducible repeat (first | apply Kd.R_alloc | apply Kd.R_drewN | apply Kd.R_drew)); exact HO_166004.out) (Kd.R_base ho0) hb)
                    have n1_ := Aside0.mk (Kd.R_lower (Kd.R_newB (Kd.R_newB (Kd.R_new' ho0 (Kd.R_lt (by (with_reducible repeat (first | apply Kd.R_alloc | apply Kd.R_drewN | apply Kd.R_drew)); exact HO_166004.out))) (g := gb161) (o := .cells #[.bool false, .int .u8 0, .string (⟨#[]⟩ : ByteArray), .int .i64 0, .slice none 0 0] 46 (0, 0)) (by (with_reducible repeat (first | refine blk_drewN ?_ _ | refine blk_drew ?_ | refine blk_alloc ?_ _)); exact BK161.out)) (g := gb165) (o := .cells #[.bool true, .int .u8 ((rd_T43 l0 0).f0), .string ((rd_T43 l0 0).f1), .int .i64 ((rd_T43 l0 0).f2), u166004] 46 (0, 0)) (by (with_reducible repeat (first | refine blk_drewN ?_ _ | refine blk_drew ?_ | refine blk_alloc ?_ _)); exact BK165.out)) (below_size (by repeat (first | (with_reducible first | exact HB.out | apply below_alloc | apply pw_below_drewN | apply below_drew1 | refine below_set ?_ GE161.out | refine below_set ?_ GE165.out) | exact HB.out))))
                    have n2_ := Aside0.mk (blk_below (g := gb161) (o := .cells #[.bool false, .int .u8 0, .string (⟨#[]⟩ : ByteArray), .int .i64 0, .slice none 0 0] 46 (0, 0)) (by (with_reducible repeat (first | refine blk_drewN ?_ _ | refine blk_drew ?_ | refine blk_alloc ?_ _)); exact BK161.out) hb)
                    have n3_ := Aside0.mk (blk_below (g := gb165) (o := .cells #[.bool true, .int .u8 ((rd_T43 l0 0).f0), .string ((rd_T43 l0 0).f1), .int .i64 ((rd_T43 l0 0).f2), u166004] 46 (0, 0)) (by (with_reducible repeat (first | refine blk_drewN ?_ _ | refine blk_drew ?_ | refine blk_alloc ?_ _)); exact BK165.out) hb)
                    have n4_ := Aside0.mk (below_step (by repeat (first | (with_reducible first | exact HB.out | apply below_alloc | apply pw_below_drewN | apply below_drew1 | refine below_set ?_ GE161.out | refine below_set ?_ GE165.out) | exact HB.out)) hb)
                    clear HO_166004
                    clear BK161
                    clear BK165
                    clear HB
                    have HO_166004 := n0_
                    have HO177 := n1_
                    have BK161 := n2_
                    have BK165 := n3_
                    have HB := n4_
                    clear n0_ n1_ n2_ n3_ n4_
                    (try clear hb)
                    (try clear hb2)
                    (try clear hk)
                    (try clear hi)
                    (try clear ho0)
                    obtain ⟨Ao19, co19, eo19⟩ := Kd.R_slice HO177.out
                    (first | subst eo19 | (injection eo19 with f1_ f2_ f3_; have f4_ := f1_.symm; have f5_ := f3_.symm; clear f1_ f2_ f3_; subst f4_; subst f5_))
                    refine hK.out _ _ ⟨(blk_cell BK165.out 0).trans rfl, (blk_cell BK165.out 1).trans rfl, (blk_cell BK165.out 2).trans rfl, (blk_cell BK165.out 3).trans rfl, (blk_cell BK165.out 4).trans rfl⟩ (fun hHeld => ?_)
                    clear hK K
                    refine norm_ (a' := ?_) ?_ ?_
                    rotate_left
                    · show Act.put _ (some 33) _ = _
                      simp only [Act.put, List.setIfInBounds_toArray, List.set_cons_zero, List.set_cons_succ, i64_w, i32_w]
                      rfl
                    refine one_ (i := 7) (N := some 34) #[true, true, true, true, true, true, true, true, false, false, false] rfl rfl (one_of HT_.out (by kernel_rfl)) (by decide) (fun K hK => ?_)
                    refine value_ (w1 := ?_) (v := ?_) (by rfl) rfl ?_ ?_
                    rotate_left 2
                    · go_simp
                      constructor
                      · rfl
                      · rfl
                    refine hK.out _ _ ⟨(blk_cell (blk_alloc BK165.out _) 0).trans rfl, (blk_cell (blk_alloc BK165.out _) 1).trans rfl, (blk_cell (blk_alloc BK165.out _) 2).trans rfl, (blk_cell (blk_alloc BK165.out _) 3).trans rfl, (blk_cell (blk_alloc BK165.out _) 4).trans rfl⟩ (fun hHeld => ?_)
                    clear hK K
                    refine norm_ (a' := ?_) ?_ ?_
                    rotate_left
                    · show Act.put _ (some 34) _ = _
                      simp only [Act.put, List.setIfInBounds_toArray, List.set_cons_zero, List.set_cons_succ, i64_w, i32_w]
                      rfl
                    refine one_ (i := 8) (N := some 35) #[true, true, true, true, true, true, true, true, true, false, false] rfl rfl (one_of HT_.out (by kernel_rfl)) (by decide) (fun K hK => ?_)
                    refine Kd.R_append_step k46 (w0 := w) w.heap.size (by rfl) (.tmp 28) (.tmp 34) 44 46 (.agg #[(.bool false), (.int .u8 0), (.string ⟨#[]⟩), (.int .i64 0), (.slice none 0 0)]) 64 rfl Tryz.underlying44 info46 rfl (by decide) (by omega) u166004 x166004_1 (⟨t171, (⟨t172, t173, t174⟩ : S43), t175⟩ : S46) [.bool t171, .int .u8 t172, .string t173, .int .i64 t174, .slice Ao19 t175.length co19] (fun k_ => k_ ≠ gb161 ∧ k_ ≠ gb165) (fun k_ => ((fun k_ => k_ ≠ gb161 ∧ k_ ≠ gb165)) k_ ∧ some k_ ≠ (u166004 : Value).ownBlock) rfl rfl ?aP (fun _ hk => hk) ?aF ?aO ?aB ?aS ?aL ?_
                    (case aP => exact k46_mkM _ _ _ (⟨t171, (⟨t172, t173, t174⟩ : S43), t175⟩ : S46) (Kd.R_mono (HO177.out) (fun k_ hk => ⟨⟨hk.1.2, hk.2⟩, hk.1.1.2⟩)))
                    (case aB => exact (by repeat (first | (with_reducible first | exact HB.out | apply below_alloc | apply pw_below_drewN | apply below_drew1 | refine below_set ?_ GE161.out | refine below_set ?_ GE165.out) | exact HB.out)))
                    (case aF => exact (fun k_ hk => ⟨Kd.freshB (g := gb161) (o := .cells #[.bool false, .int .u8 0, .string (⟨#[]⟩ : ByteArray), .int .i64 0, .slice none 0 0] 46 (0, 0)) (by (with_reducible repeat (first | refine blk_drewN ?_ _ | refine blk_drew ?_ | refine blk_alloc ?_ _)); exact BK161.out) k_ hk, Kd.freshB (g := gb165) (o := .cells #[.bool true, .int .u8 ((rd_T43 l0 0).f0), .string ((rd_T43 l0 0).f1), .int .i64 ((rd_T43 l0 0).f2), u166004] 46 (0, 0)) (by (with_reducible repeat (first | refine blk_drewN ?_ _ | refine blk_drew ?_ | refine blk_alloc ?_ _)); exact BK165.out) k_ hk⟩))
                    (case aO => exact (by (with_reducible repeat (first | apply Kd.R_alloc | apply Kd.R_drewN | apply Kd.R_drew)); exact Kd.R_mono HO_166004.out (fun _ hk => ⟨hk.1.1, hk.1.2⟩)))
                    (case aS => exact (below_size (by repeat (first | (with_reducible first | exact HB.out | apply below_alloc | apply pw_below_drewN | apply below_drew1 | refine below_set ?_ GE161.out | refine below_set ?_ GE165.out) | exact HB.out))))
                    (case aL => have := LMc14.out; omega)
                    intro v179 w18 ho hb hg hat
                    rw [← Ny178.out] at ho
                    have n0_ := Aside0.mk (blk_grown (g := gb161) (o := .cells #[.bool false, .int .u8 0, .string (⟨#[]⟩ : ByteArray), .int .i64 0, .slice none 0 0] 46 (0, 0)) (by (with_reducible repeat (first | refine blk_drewN ?_ _ | refine blk_drew ?_ | refine blk_alloc ?_ _)); exact BK161.out) hg (Kd.R_away HO_166004.out (fun _ hk => hk.1.1)))
                    have n1_ := Aside0.mk (blk_grown (g := gb165) (o := .cells #[.bool true, .int .u8 ((rd_T43 l0 0).f0), .string ((rd_T43 l0 0).f1), .int .i64 ((rd_T43 l0 0).f2), u166004] 46 (0, 0)) (by (with_reducible repeat (first | refine blk_drewN ?_ _ | refine blk_drew ?_ | refine blk_alloc ?_ _)); exact BK165.out) hg (Kd.R_away HO_166004.out (fun _ hk => hk.1.2)))
                    have n2_ := Aside0.mk (hb)
                    have n3_ := Aside0.mk (ho)
                    clear BK161
                    clear BK165
                    clear HB
                    clear HO_166004
                    clear HO177
                    have BK161 := n0_
                    have BK165 := n1_
                    have HB := n2_
                    have HO180 := n3_
                    clear n0_ n1_ n2_ n3_
                    clear ho hb hg hat
                    obtain ⟨Ao20, co20, eo20⟩ := Kd.R_slice HO180.out
                    (first | subst eo20 | (injection eo20 with f1_ f2_ f3_; have f4_ := f1_.symm; have f5_ := f3_.symm; clear f1_ f2_ f3_; subst f4_; subst f5_))
                    refine hK.out _ _ ⟨(blk_cell BK165.out 0).trans rfl, (blk_cell BK165.out 1).trans rfl, (blk_cell BK165.out 2).trans rfl, (blk_cell BK165.out 3).trans rfl, (blk_cell BK165.out 4).trans rfl⟩ (fun hHeld => ?_)
                    clear hK K
                    refine norm_ (a' := ?_) ?_ ?_
                    rotate_left
                    · show Act.put _ (some 35) _ = _
                      simp only [Act.put, List.setIfInBounds_toArray, List.set_cons_zero, List.set_cons_succ, i64_w, i32_w]
                      rfl
                    refine pure_ (i := 9) (N := some 36) (v := ?_) (a' := ?_) #[true, true, true, true, true, true, true, true, true, true, false] rfl rfl (any_of HT_.out (by kernel_rfl)) (fun _ _ _ h => h) (Or.inl ⟨by rfl, ?_⟩) ?_ ?_
                    rotate_left
                    · intro w'
                      go_simp
                      with_reducible rfl
                    rotate_left
                    · simp only [Act.put, List.setIfInBounds_toArray, List.set_cons_zero, List.set_cons_succ, i64_w, i32_w]
                      rfl
                    refine last_ (i := 10) (N := none) #[true, true, true, true, true, true, true, true, true, true, true] rfl rfl (one_of HT_.out (by kernel_rfl)) (by decide) (fun K hK => ?_)
                    have hs21 : w18.cell? ⟨gb165, 4, none⟩ = some (u166004) := (blk_cell BK165.out 4).trans rfl
                    have hfs21 := blk_frozen BK165.out 4
                    have hns21_0 := NB161_165.out
                    have hms21_0 := NB165_161.out
                    refine skip_ (w1 := ?_) (by rfl) rfl ?_ ?_
                    rotate_left
                    · go_simp
                      rfl
                    refine hK.out _ _ ?_
                    clear hK K
                    refine done_ (done_of HT_.out (by kernel_rfl)) ?_
                    try go_wp2
                    go_roundg k1
                    case measure => have := HK1.out; omega
                    case rel => exact ⟨(t166), (y178), (.slice Ao20 y178.length co20), (by first | rfl | (simp; done) | (simp [*]; done)), H', ⟨by have := HK1.out; omega⟩, ⟨by (with_reducible repeat (first | apply Kd.R_alloc | apply Kd.R_drewN | apply Kd.R_drew)); exact Kd.R_mono (Kd.R_far (p := ⟨gb165, 4, none⟩) (Kd.R_mono HO180.out (fun k_ hk => (⟨hk, hk.2⟩ : _ ∧ k_ ≠ gb165))) (fun _ hk => hk.2) (.slice Ao20 y178.length co20)) (fun _ hk => ⟨hk.1.1, hk.1.2⟩)⟩, ⟨by (with_reducible repeat (first | refine blk_drewN ?_ _ | refine blk_drew ?_ | refine blk_alloc ?_ _)); refine blk_far ?_ NB161_165.out _; (with_reducible repeat (first | refine blk_drewN ?_ _ | refine blk_drew ?_ | refine blk_alloc ?_ _)); exact BK161.out⟩, ⟨by (with_reducible repeat (first | refine blk_drewN ?_ _ | refine blk_drew ?_ | refine blk_alloc ?_ _)); refine blk_put (cs := #[.bool true, .int .u8 ((rd_T43 l0 0).f0), .string ((rd_T43 l0 0).f1), .int .i64 ((rd_T43 l0 0).f2), u166004]) ?_ 4 _ rfl; (with_reducible repeat (first | refine blk_drewN ?_ _ | refine blk_drew ?_ | refine blk_alloc ?_ _)); exact BK165.out⟩, ⟨by repeat (first | (with_reducible first | exact HB.out | apply below_alloc | apply pw_below_drewN | apply below_drew1 | refine below_set ?_ GE161.out | refine below_set ?_ GE165.out) | exact HB.out)⟩⟩
                  · rw [if_neg c14] at H
                    exact absurd H (by simp)
                · rw [if_neg c12] at H
                  exact absurd H (by simp)
              · rw [if_neg c11] at H
                exact absurd H (by simp)
            · rw [if_neg c10] at H
              exact absurd H (by simp)
          · rw [if_neg c8] at H
            have c8b0 : decide (x4_1 < (wrap64 ((l0.length : Int) - 1))) = false := decide_eq_false c8
            clear c8
            simp only [Option.some.injEq, Prod.mk.injEq] at H
            obtain ⟨rfl, rfl, rfl, rfl, rfl⟩ := H
            have hnb22 := NB165_161.out
            have hnc22 := NB161_165.out
            have hcz23_0 : wr.cell? ⟨gb165, 0, none⟩ = some (.bool true) := (blk_cell BK165.out 0).trans rfl
            have hcz23_1 : wr.cell? ⟨gb165, 1, none⟩ = some (.int .u8 ((rd_T43 l0 0).f0)) := (blk_cell BK165.out 1).trans rfl
            have hcz23_2 : wr.cell? ⟨gb165, 2, none⟩ = some (.string ((rd_T43 l0 0).f1)) := (blk_cell BK165.out 2).trans rfl
            have hcz23_3 : wr.cell? ⟨gb165, 3, none⟩ = some (.int .i64 ((rd_T43 l0 0).f2)) := (blk_cell BK165.out 3).trans rfl
            have hcz23_4 : wr.cell? ⟨gb165, 4, none⟩ = some (u166004) := (blk_cell BK165.out 4).trans rfl
            have hfz23_0 := blk_frozen BK165.out 0
            have hfz23_1 := blk_frozen BK165.out 1
            have hfz23_2 := blk_frozen BK165.out 2
            have hfz23_3 := blk_frozen BK165.out 3
            have hfz23_4 := blk_frozen BK165.out 4
            have hcz24_0 : wr.cell? ⟨gb161, 0, none⟩ = some (.bool false) := (blk_cell BK161.out 0).trans rfl
            have hcz24_1 : wr.cell? ⟨gb161, 1, none⟩ = some (.int .u8 0) := (blk_cell BK161.out 1).trans rfl
            have hcz24_2 : wr.cell? ⟨gb161, 2, none⟩ = some (.string (⟨#[]⟩ : ByteArray)) := (blk_cell BK161.out 2).trans rfl
            have hcz24_3 : wr.cell? ⟨gb161, 3, none⟩ = some (.int .i64 0) := (blk_cell BK161.out 3).trans rfl
            have hcz24_4 : wr.cell? ⟨gb161, 4, none⟩ = some (.slice none 0 0) := (blk_cell BK161.out 4).trans rfl
            have hfz24_0 := blk_frozen BK161.out 0
            have hfz24_1 := blk_frozen BK161.out 1
            have hfz24_2 := blk_frozen BK161.out 2
            have hfz24_3 := blk_frozen BK161.out 3
            have hfz24_4 := blk_frozen BK161.out 4
            obtain ⟨Ao25, co25, eo25⟩ := Kd.R_slice HO_166004.out
            subst eo25
            go_wp2
            refine bodyPost_ret (results_cell_row rfl _ _ gb161 46 #[.bool true, .int .u8 ((rd_T43 l0 0).f0), .string ((rd_T43 l0 0).f1), .int .i64 ((rd_T43 l0 0).f2), .slice Ao25 x166004_1.length co25] (0, 0) _ rfl (by (with_reducible repeat (first | refine blk_drewN ?_ _ | refine blk_drew ?_ | refine blk_alloc ?_ _)); refine blk_put (cs := #[.bool true, .int .u8 ((rd_T43 l0 0).f0), .string ((rd_T43 l0 0).f1), .int .i64 ((rd_T43 l0 0).f2), .slice none 0 0]) ?_ 4 _ rfl; (with_reducible repeat (first | refine blk_drewN ?_ _ | refine blk_drew ?_ | refine blk_alloc ?_ _)); refine blk_put (cs := #[.bool true, .int .u8 ((rd_T43 l0 0).f0), .string ((rd_T43 l0 0).f1), .int .i64 0, .slice none 0 0]) ?_ 3 _ rfl; (with_reducible repeat (first | refine blk_drewN ?_ _ | refine blk_drew ?_ | refine blk_alloc ?_ _)); refine blk_put (cs := #[.bool true, .int .u8 ((rd_T43 l0 0).f0), .string (⟨#[]⟩ : ByteArray), .int .i64 0, .slice none 0 0]) ?_ 2 _ rfl; (with_reducible repeat (first | refine blk_drewN ?_ _ | refine blk_drew ?_ | refine blk_alloc ?_ _)); refine blk_put (cs := #[.bool true, .int .u8 0, .string (⟨#[]⟩ : ByteArray), .int .i64 0, .slice none 0 0]) ?_ 1 _ rfl; (with_reducible repeat (first | refine blk_drewN ?_ _ | refine blk_drew ?_ | refine blk_alloc ?_ _)); refine blk_put (cs := #[.bool false, .int .u8 0, .string (⟨#[]⟩ : ByteArray), .int .i64 0, .slice none 0 0]) ?_ 0 _ rfl; (with_reducible repeat (first | refine blk_drewN ?_ _ | refine blk_drew ?_ | refine blk_alloc ?_ _)); exact BK161.out) Tryz.underlying46 rfl (by kernel_rfl)) rfl ?_
            exact ⟨_, by first | rfl | (simp [errW_none, errW_some] <;> rfl) | (simp [*, errW_none, errW_some] <;> rfl), by (with_reducible repeat (first | apply Kd.R_alloc | apply Kd.R_drewN | apply Kd.R_drew)); exact Kd.R_mono (Kd.R_far (p := ⟨gb161, 4, none⟩) (Kd.R_far (p := ⟨gb161, 3, none⟩) (Kd.R_far (p := ⟨gb161, 2, none⟩) (Kd.R_far (p := ⟨gb161, 1, none⟩) (Kd.R_far (p := ⟨gb161, 0, none⟩) (Kd.R_mono HO_166004.out (fun k_ hk => (⟨hk, hk.1⟩ : _ ∧ k_ ≠ gb161))) (fun _ hk => hk.2) (.bool true)) (fun _ hk => hk.2) (.int .u8 ((rd_T43 l0 0).f0))) (fun _ hk => hk.2) (.string ((rd_T43 l0 0).f1))) (fun _ hk => hk.2) (.int .i64 ((rd_T43 l0 0).f2))) (fun _ hk => hk.2) (.slice Ao25 x166004_1.length co25)) (fun _ hk => trivial), by repeat (first | (with_reducible first | exact HB.out | apply below_alloc | apply pw_below_drewN | apply below_drew1 | refine below_set ?_ GE161.out | refine below_set ?_ GE165.out) | exact HB.out)⟩
    · rw [if_neg c3] at H
      have c3b0 : (((rd_T43 l0 0).f0) == 1) = false := beq_eq_false_iff_ne.mpr c3
      have c3b1 : (((rd_T43 l0 0).f0) != 1) = true := bne_iff_ne.mpr c3
      simp only [Option.some.injEq, Prod.mk.injEq] at H
      obtain ⟨rfl, rfl, rfl, rfl, rfl⟩ := H
      go_enter Tryz.func46, Tryz.ntmps46
      go_wp2_with (first | ((with_reducible refine gate_dst (N := 2) rfl ?_); refine box_event ?hg (N := 2) ?hd (cs := #[.bool false, .int .u8 0, .string (⟨#[]⟩ : ByteArray), .int .i64 0, .slice none 0 0]) (t := 46) ?hr ?_; (case hd => rfl); (case hg => rfl); (case hr => first | (go_simp; done) | (go_simp; rfl)); intro gb161 hg w26 hbox hb; have n0_ := Aside0.mk (below_step (by repeat (first | (with_reducible first | exact HB.out | apply below_alloc | apply pw_below_drewN | apply below_drew1) | exact HB.out)) hb); have n1_ := Aside0.mk (hbox); have n2_ := Aside0.mk ((by rw [hg]; exact (below_size (by repeat (first | (with_reducible first | exact HB.out | apply below_alloc | apply pw_below_drewN | apply below_drew1) | exact HB.out))) : w.heap.size ≤ gb161)); have n3_ := Aside0.mk ((by rw [hg]; exact (below_size (by repeat (first | (with_reducible first | exact HB.out | apply below_alloc | apply pw_below_drewN | apply below_drew1) | exact HB.out))) : w.heap.size ≤ gb161)); clear HB; have HB := n0_; have BK161 := n1_; have GW161 := n2_; have GE161 := n3_; clear n0_ n1_ n2_ n3_; clear hb hbox hg; have p162 : 0 ≤ (0 : Int) := (by omega); have q162 : 0 < (l0.length : Int) := of_decide_eq_true (by first | (with_reducible assumption) | assumption); obtain ⟨ad162, e162, hx162_0, hx162_1, hx162_2⟩ := at_T43 HR0.out 0 p162 q162; cases e162; have qi162 : (0 < l0.length) = True := eq_true (by omega); (try rw [show ((0 : Int)).toNat = 0 from rfl] at hx162_0); (try rw [show 0 * 3 = 0 from rfl] at hx162_0); (try rw [Addr.add_zero'] at hx162_0); (try rw [show ((0 : Int)).toNat = 0 from rfl] at hx162_1); (try rw [show 0 * 3 = 0 from rfl] at hx162_1); (try rw [Addr.add_zero'] at hx162_1); (try rw [show ((0 : Int)).toNat = 0 from rfl] at hx162_2); (try rw [show 0 * 3 = 0 from rfl] at hx162_2); (try rw [Addr.add_zero'] at hx162_2); replace hx162_0 := (HB.out.cell (World.block_lt_of_cell? w _ hx162_0)).trans hx162_0; replace hx162_1 := (HB.out.cell (World.block_lt_of_cell? w _ hx162_1)).trans hx162_1; replace hx162_2 := (HB.out.cell (World.block_lt_of_cell? w _ hx162_2)).trans hx162_2; replace p162 := eq_true p162; replace q162 := eq_true q162; have p163 : 0 ≤ (0 : Int) := (by omega); have q163 : 0 < (l0.length : Int) := of_decide_eq_true (by first | (with_reducible assumption) | assumption); obtain ⟨ad163, e163, hx163_0, hx163_1, hx163_2⟩ := at_T43 HR0.out 0 p163 q163; obtain rfl : ad162 = ad163 := (by injection e163); have qi163 : (0 < l0.length) = True := eq_true (by omega); (try rw [show ((0 : Int)).toNat = 0 from rfl] at hx163_0); (try rw [show 0 * 3 = 0 from rfl] at hx163_0); (try rw [Addr.add_zero'] at hx163_0); (try rw [show ((0 : Int)).toNat = 0 from rfl] at hx163_1); (try rw [show 0 * 3 = 0 from rfl] at hx163_1); (try rw [Addr.add_zero'] at hx163_1); (try rw [show ((0 : Int)).toNat = 0 from rfl] at hx163_2); (try rw [show 0 * 3 = 0 from rfl] at hx163_2); (try rw [Addr.add_zero'] at hx163_2); replace hx163_0 := (HB.out.cell (World.block_lt_of_cell? w _ hx163_0)).trans hx163_0; replace hx163_1 := (HB.out.cell (World.block_lt_of_cell? w _ hx163_1)).trans hx163_1; replace hx163_2 := (HB.out.cell (World.block_lt_of_cell? w _ hx163_2)).trans hx163_2; replace p163 := eq_true p163; replace q163 := eq_true q163; have hcz27_0 : w26.cell? ⟨gb161, 0, none⟩ = some (.bool false) := (blk_cell BK161.out 0).trans rfl; have hcz27_1 : w26.cell? ⟨gb161, 1, none⟩ = some (.int .u8 0) := (blk_cell BK161.out 1).trans rfl; have hcz27_2 : w26.cell? ⟨gb161, 2, none⟩ = some (.string (⟨#[]⟩ : ByteArray)) := (blk_cell BK161.out 2).trans rfl; have hcz27_3 : w26.cell? ⟨gb161, 3, none⟩ = some (.int .i64 0) := (blk_cell BK161.out 3).trans rfl; have hcz27_4 : w26.cell? ⟨gb161, 4, none⟩ = some (.slice none 0 0) := (blk_cell BK161.out 4).trans rfl; have hfz27_0 := blk_frozen BK161.out 0; have hfz27_1 := blk_frozen BK161.out 1; have hfz27_2 := blk_frozen BK161.out 2; have hfz27_3 := blk_frozen BK161.out 3; have hfz27_4 := blk_frozen BK161.out 4))
      refine bodyPost_ret (results_cell_row rfl _ _ gb161 46 #[.bool false, .int .u8 ((rd_T43 l0 0).f0), .string ((rd_T43 l0 0).f1), .int .i64 ((rd_T43 l0 0).f2), .slice none 0 0] (0, 0) _ rfl (by (with_reducible repeat (first | refine blk_drewN ?_ _ | refine blk_drew ?_ | refine blk_alloc ?_ _)); refine blk_put (cs := #[.bool false, .int .u8 ((rd_T43 l0 0).f0), .string ((rd_T43 l0 0).f1), .int .i64 ((rd_T43 l0 0).f2), .slice none 0 0]) ?_ 4 _ rfl; (with_reducible repeat (first | refine blk_drewN ?_ _ | refine blk_drew ?_ | refine blk_alloc ?_ _)); refine blk_put (cs := #[.bool false, .int .u8 ((rd_T43 l0 0).f0), .string ((rd_T43 l0 0).f1), .int .i64 0, .slice none 0 0]) ?_ 3 _ rfl; (with_reducible repeat (first | refine blk_drewN ?_ _ | refine blk_drew ?_ | refine blk_alloc ?_ _)); refine blk_put (cs := #[.bool false, .int .u8 ((rd_T43 l0 0).f0), .string (⟨#[]⟩ : ByteArray), .int .i64 0, .slice none 0 0]) ?_ 2 _ rfl; (with_reducible repeat (first | refine blk_drewN ?_ _ | refine blk_drew ?_ | refine blk_alloc ?_ _)); refine blk_put (cs := #[.bool false, .int .u8 0, .string (⟨#[]⟩ : ByteArray), .int .i64 0, .slice none 0 0]) ?_ 1 _ rfl; (with_reducible repeat (first | refine blk_drewN ?_ _ | refine blk_drew ?_ | refine blk_alloc ?_ _)); refine blk_put (cs := #[.bool false, .int .u8 0, .string (⟨#[]⟩ : ByteArray), .int .i64 0, .slice none 0 0]) ?_ 0 _ rfl; (with_reducible repeat (first | refine blk_drewN ?_ _ | refine blk_drew ?_ | refine blk_alloc ?_ _)); exact BK161.out) Tryz.underlying46 rfl (by kernel_rfl)) rfl ?_
      exact ⟨_, by first | rfl | (simp [errW_none, errW_some] <;> rfl) | (simp [*, errW_none, errW_some] <;> rfl), by first | exact Kd.R_nil _ _ _ _ _ | exact Kd.N_nil _ _ _ _ _ | exact Kd.V_nil _ _ _ _ _ | exact Kd.Q_nil _ _ _ _ _ | exact Kd.S_nil _ _ _ _ _, by repeat (first | (with_reducible first | exact HB.out | apply below_alloc | apply pw_below_drewN | apply below_drew1 | refine below_set ?_ GE161.out) | exact HB.out)⟩
  · rw [if_neg c2] at H
    exact absurd H (by simp)

/-! ### juristref04_Next: function 25 -/
def juristref04_Next.j0 : Nat → List (S43) → Int → Bool → Option (Bool × Int × ByteArray × Int × (List (S46)) × Int × Int)
  | 0, _, _, _ => none
  | k + 1, x0, x1, x8 => if x8 = true then (some (false, 0, (⟨#[]⟩ : ByteArray), 0, ([] : List (S46)), x1, 2)) else (if x1 = (x0.length : Int) then (some (false, 0, (⟨#[]⟩ : ByteArray), 0, ([] : List (S46)), x1, 4)) else (if 0 ≤ x1 then (if x1 < (x0.length : Int) then (if ((rd_T43 x0 x1).f0) = 2 then (some (false, 0, (⟨#[]⟩ : ByteArray), 0, ([] : List (S46)), x1, 41)) else ((juristref04_end.f k x0 x1).bind fun t183 => (if t183 < 0 then (some (false, 0, (⟨#[]⟩ : ByteArray), 0, ([] : List (S46)), (x0.length : Int), 4)) else (if x1 ≤ t183 then (if t183 ≤ (x0.length : Int) then ((juristref04_most.f k ((x0.take (t183 : Int).toNat).drop (x1 : Int).toNat)).bind fun t188 => (if t188 > 200 then (some (false, 0, (⟨#[]⟩ : ByteArray), 0, ([] : List (S46)), t183, 40)) else ((juristref04_tree.f k ((x0.take (t183 : Int).toNat).drop (x1 : Int).toNat)).bind fun bt193 => (some (bt193.1, bt193.2.1, bt193.2.2.1, bt193.2.2.2.1, bt193.2.2.2.2, t183, 0))))) else (none)) else (none))))) else (none)) else (none)))
def juristref04_Next.f (k : Nat) (l0 : List (S43)) (a1 : Int) : Option (Bool × Int × ByteArray × Int × (List (S46)) × Int × Int) := if a1 < 0 then (juristref04_Next.j0 k l0 a1 true) else (juristref04_Next.j0 k l0 a1 (decide (a1 > (l0.length : Int))))
theorem juristref04_Next.mono_l : ∀ k, (∀ y0 y1 y2, LeO (juristref04_Next.j0 k y0 y1 y2) (juristref04_Next.j0 (k + 1) y0 y1 y2))
  | 0 => fun _ _ _ r h => by simp [juristref04_Next.j0] at h
  | k + 1 => by
    have ih0 := juristref04_Next.mono_l k
    · intro y0 y1 y2
      unfold juristref04_Next.j0
      repeat' first
      | (with_reducible exact ih0 _ _ _)
      | (with_reducible exact juristref04_end.mono _ _ _)
      | (with_reducible exact juristref04_most.mono _ _)
      | (with_reducible exact juristref04_tree.mono _ _)
      | (with_reducible exact LeO.refl _)
      | (with_reducible exact LeO.none _)
      | (with_reducible refine LeO.ite ?_ ?_)
      | (with_reducible refine LeO.bind ?_ (fun _ => ?_))
      | exact ih0 _ _ _
      | exact juristref04_end.mono _ _ _
      | exact juristref04_most.mono _ _
      | exact juristref04_tree.mono _ _
      | exact LeO.none _
      | refine LeO.ite ?_ ?_
      | refine LeO.bind ?_ (fun _ => ?_)
theorem juristref04_Next.mono : ∀ a0 a1 k, LeO (juristref04_Next.f k a0 a1) (juristref04_Next.f (k + 1) a0 a1) := by
  intro a0 a1 k
  have ih0 := juristref04_Next.mono_l k
  unfold juristref04_Next.f
  repeat' first
      | (with_reducible exact ih0 _ _ _)
      | (with_reducible exact juristref04_end.mono _ _ _)
      | (with_reducible exact juristref04_most.mono _ _)
      | (with_reducible exact juristref04_tree.mono _ _)
      | (with_reducible exact LeO.refl _)
      | (with_reducible exact LeO.none _)
      | (with_reducible refine LeO.ite ?_ ?_)
      | (with_reducible refine LeO.bind ?_ (fun _ => ?_))
      | exact ih0 _ _ _
      | exact juristref04_end.mono _ _ _
      | exact juristref04_most.mono _ _
      | exact juristref04_tree.mono _ _
      | exact LeO.none _
      | refine LeO.ite ?_ ?_
      | refine LeO.bind ?_ (fun _ => ?_)
end Go.Proofs.YtmlkfgoiakcnhaaGreatDoor.PStackNone
