/- The world package (2). -/
import Derived.Test.YtendekbckfpmgaaGreatMc
import Derived.Test.YtendekbckfpmgaaGreatMa
import Derived.Test.YtendekbckfpmgaaGreatLw
namespace Go.Proofs.YtendekbckfpmgaaGreat
open Go Go.RowKit Go.Proofs.YtendekbckfpmgaaGreatW.PrintWords Go.Proofs.YtendekbckfpmgaaGreat.PWorldMay
attribute [local go_sem high] eqA47
def ZE6 (rb sb k bb oo bb2 oo2 : Nat) (vl vm vx vy : Value) : Nat → Value → Prop
 | 0, v => v = .pointer (some ⟨rb, 0, none⟩)
 | 1, v => v = vl
 | 2, v => v = .int .i64 k
 | 3, v => v = .pointer (some ⟨bb, oo, none⟩)
 | 4, v => v = vx
 | 5, v => v = .pointer (some ⟨sb, 0, none⟩)
 | 6, v => v = vm
 | 7, v => v = .int .i64 k
 | 8, v => v = .pointer (some ⟨bb2, oo2, none⟩)
 | _, v => v = vy
set_option maxRecDepth 100000 in
set_option maxHeartbeats 1000000 in
theorem sameRow_any (w : World) (r s : S84) (hlen : r.f0.length ≤ maxLen) (A : Option Addr) (c : Nat) (hl : k47.C w A r.f0.length r.f0) (A2 : Option Addr) (c2 : Nat) (hm : k47.C w A2 s.f0.length s.f0) :
 Calls Tryz.prog 39 #[.agg #[.slice A r.f0.length c, .int .i64 r.f1.f0, .bool r.f1.f1, .int .i64 r.f1.f2.f0, .int .i64 r.f1.f2.f1, .int .i64 r.f1.f3], .agg #[.slice A2 s.f0.length c2, .int .i64 s.f1.f0, .bool s.f1.f1, .int .i64 s.f1.f2.f0, .int .i64 s.f1.f2.f1, .int .i64 s.f1.f3]] w fun e w' => e = .returned (.bool (eqRow r s)) ∧ Below w.heap.size w w' := by
 obtain ⟨la, ⟨x0, x1, ⟨x2, x3⟩, x4⟩⟩ := r
 obtain ⟨lb, ⟨y0, y1, ⟨y2, y3⟩, y4⟩⟩ := s
 simp only at hlen hl hm ⊢
 have hmx : maxLen ≤ 9223372036854775807 := by decide
 have HL := Lib.hid hl
 have HM := Lib.hid hm
 clear hl hm
 have HB := Lib.hid (show Below w.heap.size w ((w.alloc (.cells #[.slice A la.length c, .int .i64 x0, .bool x1, .int .i64 x2, .int .i64 x3, .int .i64 x4] 84)).alloc (.cells #[.slice A2 lb.length c2, .int .i64 y0, .bool y1, .int .i64 y2, .int .i64 y3, .int .i64 y4] 84)) from ((Below.refl _ w).alloc (Nat.le_refl _) _).alloc (by simp) _)
 have HR1 := Lib.hid (show RowB ((w.alloc (.cells #[.slice A la.length c, .int .i64 x0, .bool x1, .int .i64 x2, .int .i64 x3, .int .i64 x4] 84)).alloc (.cells #[.slice A2 lb.length c2, .int .i64 y0, .bool y1, .int .i64 y2, .int .i64 y3, .int .i64 y4] 84)) w.heap.size 84 [.slice A la.length c, .int .i64 x0, .bool x1, .int .i64 x2, .int .i64 x3, .int .i64 x4] from RowB.kept (S := fun _ => False) (RowB.new w [.slice A la.length c, .int .i64 x0, .bool x1, .int .i64 x2, .int .i64 x3, .int .i64 x4] 84) ((Ch.refl _ _).alloc _) (fun e => e))
 have HR2 := Lib.hid (show RowB ((w.alloc (.cells #[.slice A la.length c, .int .i64 x0, .bool x1, .int .i64 x2, .int .i64 x3, .int .i64 x4] 84)).alloc (.cells #[.slice A2 lb.length c2, .int .i64 y0, .bool y1, .int .i64 y2, .int .i64 y3, .int .i64 y4] 84)) (w.heap.size + 1) 84 [.slice A2 lb.length c2, .int .i64 y0, .bool y1, .int .i64 y2, .int .i64 y3, .int .i64 y4] by
  have := RowB.new (w.alloc (.cells #[.slice A la.length c, .int .i64 x0, .bool x1, .int .i64 x2, .int .i64 x3, .int .i64 x4] 84)) [.slice A2 lb.length c2, .int .i64 y0, .bool y1, .int .i64 y2, .int .i64 y3, .int .i64 y4] 84
  rw [show (w.alloc (.cells #[.slice A la.length c, .int .i64 x0, .bool x1, .int .i64 x2, .int .i64 x3, .int .i64 x4] 84)).heap.size = w.heap.size + 1 by simp] at this
  exact this)
 cases hr : eqVal ⟨x0, x1, ⟨x2, x3⟩, x4⟩ ⟨y0, y1, ⟨y2, y3⟩, y4⟩
 case false =>
  have HX := Lib.hid (show eqRow ⟨la, ⟨x0, x1, ⟨x2, x3⟩, x4⟩⟩ ⟨lb, ⟨y0, y1, ⟨y2, y3⟩, y4⟩⟩ = false by unfold eqRow; simp only; rw [hr]; rfl)
  have hr' := hr
  unfold eqVal at hr'
  simp only at hr'
  have hr2 : ¬ (x0 = y0 ∧ x1 = y1 ∧ (x2 = y2 ∧ x3 = y3) ∧ x4 = y4) := by rintro ⟨rfl, rfl, ⟨rfl, rfl⟩, rfl⟩; simp at hr'
  clear hr
  go_enter Tryz.func39, Tryz.ntmps39
  go_wp2_with fail
  go_ret
  exact ⟨by rw [HX.out]; rfl, HB.out⟩
 case true =>
 have hr2 : (x0 = y0 ∧ x1 = y1 ∧ (x2 = y2 ∧ x3 = y3) ∧ x4 = y4) := by unfold eqVal at hr; simpa using hr
 obtain ⟨rfl, rfl, ⟨rfl, rfl⟩, rfl⟩ := hr2
 have HE0 := Lib.hid (show eqRow ⟨la, ⟨x0, x1, ⟨x2, x3⟩, x4⟩⟩ ⟨lb, ⟨x0, x1, ⟨x2, x3⟩, x4⟩⟩ = listB eqVal la lb by unfold eqRow; simp only; rw [hr]; rfl)
 clear hr
 by_cases hll : la.length = lb.length
 case neg =>
  have hq : ((la.length : Int) != (lb.length : Int)) = true := by simp; omega
  have HX := Lib.hid (show eqRow ⟨la, ⟨x0, x1, ⟨x2, x3⟩, x4⟩⟩ ⟨lb, ⟨x0, x1, ⟨x2, x3⟩, x4⟩⟩ = false by rw [HE0.out, listB_len _ _ _ hll])
  go_enter Tryz.func39, Tryz.ntmps39
  go_wp2_with fail
  go_ret
  exact ⟨by rw [HX.out]; rfl, HB.out⟩
 case pos =>
 have HLL := Lib.hid hll
 rw [← hll] at HR2 HB HR1 ⊢
 clear hll
 go_enter Tryz.func39, Tryz.ntmps39
 go_wp2_with fail
 have hr1 := HR1.out
 have hr2 := HR2.out
 clear HR1 HR2
 generalize (w.alloc (.cells #[.slice A la.length c, .int .i64 x0, .bool x1, .int .i64 x2, .int .i64 x3, .int .i64 x4] 84)).alloc (.cells #[.slice A2 la.length c2, .int .i64 x0, .bool x1, .int .i64 x2, .int .i64 x3, .int .i64 x4] 84) = w1 at *
 generalize w.heap.size + 1 = sb at *
 generalize hrb : w.heap.size = rb at hr1 ⊢
 have HRB := Lib.hid hrb
 have HR1 := Lib.hid hr1
 have HR2 := Lib.hid hr2
 have r0 : w1.cell? ⟨rb, 0, none⟩ = some (.slice A la.length c) := hr1.cell 0
 clear hrb hr1 hr2
 go_loopw [5] (fun vi wr => ∃ k : Nat, vi = .int .i64 k ∧ k ≤ la.length ∧ Hid (Below w1.heap.size w1 wr ∧ listB eqVal la lb = listB eqVal (la.drop k) (lb.drop k))) (fun vi _ => la.length - (intOf vi).toNat)
 case atStart => exact ⟨0, rfl, by omega, Lib.hid ⟨Below.refl _ _, rfl⟩⟩
 case round =>
  clear r0
  obtain ⟨k, rfl, hk, hh⟩ := hrel
  have HB1 := Lib.hid hh.out.1
  have HQ := Lib.hid hh.out.2
  have HBW := Lib.hid (HB.out.trans (hh.out.1.mono HB.out.size))
  have hr1 := HR1.out.kept (S := fun _ => False) (Ch.ofBelow hh.out.1) (fun e => e)
  have hr2 := HR2.out.kept (S := fun _ => False) (Ch.ofBelow hh.out.1) (fun e => e)
  have r0 : wr.cell? ⟨rb, 0, none⟩ = some (.slice A la.length c) := hr1.cell 0
  have s0 : wr.cell? ⟨sb, 0, none⟩ = some (.slice A2 la.length c2) := hr2.cell 0
  have hrl : rb < wr.heap.size := hr1.lt
  have hsl : sb < wr.heap.size := hr2.lt
  clear hh hr1 hr2
  by_cases hkl : k < la.length
  case neg =>
   have hkl' : ¬ (k : Int) < la.length := by omega
   have HX := Lib.hid (show eqRow ⟨la, ⟨x0, x1, ⟨x2, x3⟩, x4⟩⟩ ⟨lb, ⟨x0, x1, ⟨x2, x3⟩, x4⟩⟩ = true by rw [HE0.out, HQ.out, List.drop_of_length_le (by omega), List.drop_of_length_le (by have := HLL.out; omega)]; rfl)
   go_wp2_with fail
   go_ret
   exact ⟨by rw [HX.out]; rfl, HBW.out⟩
  case pos =>
   have hkl' : (k : Int) < la.length := by omega
   have hk2 : k < lb.length := by have := HLL.out; omega
   have HE := Lib.hid (show listB eqVal la lb = (eqVal (la.getD k z47) (lb.getD k z47) && listB eqVal (la.drop (k + 1)) (lb.drop (k + 1))) by rw [HQ.out]; exact listB_step eqVal la lb z47 z47 k hkl hk2)
   obtain ⟨ad, bb, oo, cs, hA, hadd, hK, hc, hbl⟩ := cells_at z47 HL.out k hkl (by decide)
   subst hA
   obtain rfl := k47_open hK
   replace hadd : ad.add (k * 5) = ⟨bb, oo, none⟩ := hadd
   obtain ⟨ad2, bb2, oo2, cs2, hA2, hadd2, hK2, hc2, hbl2⟩ := cells_at z47 HM.out k hk2 (by decide)
   subst hA2
   obtain rfl := k47_open hK2
   replace hadd2 : ad2.add (k * 5) = ⟨bb2, oo2, none⟩ := hadd2
   generalize la.getD k z47 = v at *
   generalize lb.getD k z47 = u at *
   obtain ⟨a0, a1, ⟨a2, a3⟩, a4⟩ := v
   obtain ⟨b0, b1, ⟨b2, b3⟩, b4⟩ := u
   simp only at hc hc2
   have hcc := (bcell HBW.out).1
   have q0 : wr.cell? ⟨bb, oo, none⟩ = some (.int .i64 a0) := (hcc bb _ hbl).trans (by have := hc 0 _ rfl; simpa using this)
   have q1 : wr.cell? ⟨bb, oo + 1, none⟩ = some (.bool a1) := (hcc bb _ hbl).trans (hc 1 _ rfl)
   have q2 : wr.cell? ⟨bb, oo + 2, none⟩ = some (.int .i64 a2) := (hcc bb _ hbl).trans (hc 2 _ rfl)
   have q3 : wr.cell? ⟨bb, oo + 3, none⟩ = some (.int .i64 a3) := (hcc bb _ hbl).trans (hc 3 _ rfl)
   have q4 : wr.cell? ⟨bb, oo + 4, none⟩ = some (.int .i64 a4) := (hcc bb _ hbl).trans (hc 4 _ rfl)
   have p0 : wr.cell? ⟨bb2, oo2, none⟩ = some (.int .i64 b0) := (hcc bb2 _ hbl2).trans (by have := hc2 0 _ rfl; simpa using this)
   have p1 : wr.cell? ⟨bb2, oo2 + 1, none⟩ = some (.bool b1) := (hcc bb2 _ hbl2).trans (hc2 1 _ rfl)
   have p2 : wr.cell? ⟨bb2, oo2 + 2, none⟩ = some (.int .i64 b2) := (hcc bb2 _ hbl2).trans (hc2 2 _ rfl)
   have p3 : wr.cell? ⟨bb2, oo2 + 3, none⟩ = some (.int .i64 b3) := (hcc bb2 _ hbl2).trans (hc2 3 _ rfl)
   have p4 : wr.cell? ⟨bb2, oo2 + 4, none⟩ = some (.int .i64 b4) := (hcc bb2 _ hbl2).trans (hc2 4 _ rfl)
   have hbr : bb < wr.heap.size := Nat.lt_of_lt_of_le hbl HBW.out.size
   have hbr2 : bb2 < wr.heap.size := Nat.lt_of_lt_of_le hbl2 HBW.out.size
   clear hK hK2 hc hc2 hcc HQ hk2 hbl hbl2
   go_wp2_with fail
   refine wp_region_flow3 10 (by kernel_rfl) (by kernel_rfl) ?_ (fun iz _ v => (ZE6 rb sb k bb oo bb2 oo2 (.slice (some ad) la.length c) (.slice (some ad2) la.length c2) (.agg #[.int .i64 a0, .bool a1, .int .i64 a2, .int .i64 a3, .int .i64 a4]) (.agg #[.int .i64 b0, .bool b1, .int .i64 b2, .int .i64 b3, .int .i64 b4])) iz v) (fun w' => Below wr.heap.size wr w') (Below.drew (Below.refl _ wr)) ?_ ?_
   · intro i o' d hi ho hd
     have : i = 0 ∨ i = 1 ∨ i = 2 ∨ i = 3 ∨ i = 4 ∨ i = 5 ∨ i = 6 ∨ i = 7 ∨ i = 8 ∨ i = 9 := by omega
     rcases this with rfl | rfl | rfl | rfl | rfl | rfl | rfl | rfl | rfl | rfl <;> (simp at ho; subst ho; simp at hd; subst hd; simp)
   · intro i o' hi ho
     have : i = 0 ∨ i = 1 ∨ i = 2 ∨ i = 3 ∨ i = 4 ∨ i = 5 ∨ i = 6 ∨ i = 7 ∨ i = 8 ∨ i = 9 := by omega
     rcases this with rfl | rfl | rfl | rfl | rfl | rfl | rfl | rfl | rfl | rfl <;> (simp at ho; subst ho; intro a w' hC hd hr)
     · rw [if_pos (by rfl)]; have e2 : a.tmps[2]?.getD undef = .pointer (some ⟨rb, 0, none⟩) := gd (hr 2 (free_of (by rfl))); exact flow_val (by go_simp; try rfl) ⟨rfl, hC, fun _ _ _ h => h⟩
     · rw [if_pos (by rfl)]; have e27 : a.tmps[27]?.getD undef = .pointer (some ⟨rb, 0, none⟩) := gd (hd ⟨0, .data⟩ (by simp) rfl _ _ rfl rfl); have g0 := bget hC r0 hrl; exact flow_val (by go_simp; try rfl) ⟨rfl, hC, fun _ _ _ h => h⟩
     · rw [if_pos (by rfl)]; have e5 : a.tmps[5]?.getD undef = .int .i64 k := gd (hr 5 (free_of (by rfl))); exact flow_val (by go_simp; try rfl) ⟨rfl, hC, fun _ _ _ h => h⟩
     · rw [if_pos (by rfl)]; have e28 : a.tmps[28]?.getD undef = .slice (some ad) la.length c := gd (hd ⟨1, .data⟩ (by simp) rfl _ _ rfl rfl); have e29 : a.tmps[29]?.getD undef = .int .i64 k := gd (hd ⟨2, .data⟩ (by simp) rfl _ _ rfl rfl); have hx := hadd; exact flow_val (by go_simp; try rfl) ⟨rfl, hC, fun _ _ _ h => h⟩
     · rw [if_pos (by rfl)]; have e30 : a.tmps[30]?.getD undef = .pointer (some ⟨bb, oo, none⟩) := gd (hd ⟨3, .data⟩ (by simp) rfl _ _ rfl rfl); have g0 := bget hC q0 hbr; have g1 := bget hC q1 hbr; have g2 := bget hC q2 hbr; have g3 := bget hC q3 hbr; have g4 := bget hC q4 hbr; exact flow_val (by go_simp; try rfl) ⟨rfl, hC, fun _ _ _ h => h⟩
     · rw [if_pos (by rfl)]; have e3 : a.tmps[3]?.getD undef = .pointer (some ⟨sb, 0, none⟩) := gd (hr 3 (free_of (by rfl))); exact flow_val (by go_simp; try rfl) ⟨rfl, hC, fun _ _ _ h => h⟩
     · rw [if_pos (by rfl)]; have e32 : a.tmps[32]?.getD undef = .pointer (some ⟨sb, 0, none⟩) := gd (hd ⟨5, .data⟩ (by simp) rfl _ _ rfl rfl); have g0 := bget hC s0 hsl; exact flow_val (by go_simp; try rfl) ⟨rfl, hC, fun _ _ _ h => h⟩
     · rw [if_pos (by rfl)]; have e5 : a.tmps[5]?.getD undef = .int .i64 k := gd (hr 5 (free_of (by rfl))); exact flow_val (by go_simp; try rfl) ⟨rfl, hC, fun _ _ _ h => h⟩
     · rw [if_pos (by rfl)]; have e33 : a.tmps[33]?.getD undef = .slice (some ad2) la.length c2 := gd (hd ⟨6, .data⟩ (by simp) rfl _ _ rfl rfl); have e34 : a.tmps[34]?.getD undef = .int .i64 k := gd (hd ⟨7, .data⟩ (by simp) rfl _ _ rfl rfl); have hx := hadd2; exact flow_val (by go_simp; try rfl) ⟨rfl, hC, fun _ _ _ h => h⟩
     · rw [if_pos (by rfl)]; have e35 : a.tmps[35]?.getD undef = .pointer (some ⟨bb2, oo2, none⟩) := gd (hd ⟨8, .data⟩ (by simp) rfl _ _ rfl rfl); have g0 := bget hC p0 hbr2; have g1 := bget hC p1 hbr2; have g2 := bget hC p2 hbr2; have g3 := bget hC p3 hbr2; have g4 := bget hC p4 hbr2; exact flow_val (by go_simp; try rfl) ⟨rfl, hC, fun _ _ _ h => h⟩
   intro vs' w4 hb4 hZ
   have v4 : vs' 4 = .agg #[.int .i64 a0, .bool a1, .int .i64 a2, .int .i64 a3, .int .i64 a4] := hZ 4 _ _ (by omega) rfl rfl
   have v9 : vs' 9 = .agg #[.int .i64 b0, .bool b1, .int .i64 b2, .int .i64 b3, .int .i64 b4] := hZ 9 _ _ (by omega) rfl rfl
   clear hZ r0 s0 q0 q1 q2 q3 q4 p0 p1 p2 p3 p4
   simp only [List.drop_succ_cons, List.drop_zero, List.take_succ_cons, List.take_zero, putAll, v4, v9]
   have HB5 := Lib.hid (HB1.out.trans (hb4.mono HB1.out.size))
   have HBW5 := Lib.hid (HBW.out.trans (hb4.mono HBW.out.size))
   clear hb4 hrl hsl hbr hbr2
   cases hr : eqVal ⟨a0, a1, ⟨a2, a3⟩, a4⟩ ⟨b0, b1, ⟨b2, b3⟩, b4⟩
   case false =>
    have HX := Lib.hid (show eqRow ⟨la, ⟨x0, x1, ⟨x2, x3⟩, x4⟩⟩ ⟨lb, ⟨x0, x1, ⟨x2, x3⟩, x4⟩⟩ = false by rw [HE0.out, HE.out, hr]; rfl)
    have hr' := hr
    unfold eqVal at hr'
    simp only at hr'
    have hr2 : ¬ (a0 = b0 ∧ a1 = b1 ∧ (a2 = b2 ∧ a3 = b3) ∧ a4 = b4) := by rintro ⟨rfl, rfl, ⟨rfl, rfl⟩, rfl⟩; simp at hr'
    clear hr
    go_wp2_with fail
    go_ret
    exact ⟨by rw [HX.out]; rfl, HBW5.out⟩
   case true =>
    have HX := Lib.hid (show listB eqVal la lb = listB eqVal (la.drop (k + 1)) (lb.drop (k + 1)) by rw [HE.out, hr]; rfl)
    have hr2 : (a0 = b0 ∧ a1 = b1 ∧ (a2 = b2 ∧ a3 = b3) ∧ a4 = b4) := by unfold eqVal at hr; simpa using hr
    obtain ⟨rfl, rfl, ⟨rfl, rfl⟩, rfl⟩ := hr2
    clear hr
    go_wp2_with fail
    go_roundw
    case rel => exact ⟨k + 1, by go_num, by omega, Lib.hid ⟨HB5.out, HX.out⟩⟩
    case measure => simp [intOf]; omega
end Go.Proofs.YtendekbckfpmgaaGreat
namespace Go.Proofs.YtendekbckfpmgaaGreat
open Go
section
variable {P : Program}
theorem wp_region_all {id : Nat} {Q : Exit → Act → World → Prop} {a0 : Act} {w0 : World} {ops : Array Oper} (hm : P.follows .mixedOrders = true) (hlow : lowB .any ops ops.size = true)
 (I : Array Bool → Act → World → Prop) (h0 : I (Array.replicate ops.size false) a0 { w0 with drawn := w0.drawn + 1 })
 (hstep : ∀ s a w i o, s.size = ops.size → i < ops.size → I s a w → ops[i]? = some o → s.getD i false = false → (∀ e ∈ o.after, Region.binds .any e = true → s.getD e.on false = true) →
  Region.wanted o (yielded ops a.tmps) = true ∧ Oper.flowA P o a w (fun v w' => I (s.setIfInBounds i true) (a.put o.dst v) w'))
 (hend : ∀ s a w, (∀ i, i < ops.size → s.getD i false = true) → I s a w → Q .normal a w) : (Code.region id ops true).wp P Q a0 w0 := by
 refine wp_region_inv hm (fun s a w => s.size = ops.size ∧ I s a w) ⟨by simp, h0⟩ ?_ ?_
 · intro s a w i ⟨hs, hI⟩ hi
   obtain ⟨hun, o, ho, hdeps⟩ := mem_ready.1 hi
   have hio : i < ops.size := by
    rcases Nat.lt_or_ge i ops.size with h | h
    · exact h
    · rw [Array.getElem?_eq_none h] at ho; cases ho
   obtain ⟨hw, hf⟩ := hstep s a w i o hs hio hI ho (getD_both hun) (fun e he hb => hdeps e he hb)
   unfold wpOp
   simp only [ho]
   rw [if_pos hw]
   exact .inl (Oper.wp_of_flowA hf fun v w' h => ⟨by simp [hs], h⟩)
 · intro s a w ⟨hs, hI⟩ hr
   refine hend s a w ?_ hI
   have hz : unh s ops.size = 0 := by
    rcases Nat.eq_zero_or_pos (unh s ops.size) with h | h
    · exact h
    exfalso
    obtain ⟨i, hi, hf, hb⟩ := unh_pos h
    obtain ⟨o, ho⟩ : ∃ o, ops[i]? = some o := ⟨_, Array.getElem?_eq_getElem hi⟩
    have hm : i ∈ Region.ready .any ops s := mem_ready.2 ⟨getD_in (by omega) hf, o, ho, fun e he hbd => by
     have h1 := List.all_eq_true.1 hlow i (List.mem_range.2 hi)
     simp only [ho] at h1
     have h2 := Array.all_eq_true_iff_forall_mem.1 h1 e he
     simp only [hbd, Bool.not_true, Bool.false_or, decide_eq_true_eq] at h2
     have h3 := hb _ h2
     first | exact h3 | (have : e.on < s.size := (by omega); simp [this] at h3 ⊢; exact h3)⟩
    rw [hr] at hm
    cases hm
   exact unh_zero hz
end
end Go.Proofs.YtendekbckfpmgaaGreat
namespace Go.Proofs.YtendekbckfpmgaaGreat
open Go Go.RowKit Go.Proofs.YtendekbckfpmgaaGreatW.PrintWords Go.Proofs.YtendekbckfpmgaaGreat.PWorldMay
def zTab : List Value := [.int .i64 0, .slice none 0 0, .int .i64 0, .bool false, .int .i64 0, .int .i64 0, .int .i64 0]
structure PairI (wr : World) (a0 : Act) (V : Nat → Value) (M N : List Value) (s : Array Bool) (a : Act) (w : World) : Prop where
 df : a.defers = a0.defers
 sz : a.tmps.size = a0.tmps.size
 rest : ∀ d, d < 51 ∨ 60 < d → d ≠ 7 → d ≠ 8 → a.tmps.getD d undef = a0.tmps.getD d undef
 val : ∀ i, i < 10 → s.getD i false = true → a.tmps.getD (51 + i) undef = V i
 wb : Below wr.heap.size wr w
 al : ∃ p q, (s.getD 10 false = true → a.tmps.getD 7 undef = .pointer (some ⟨p, 0, none⟩) ∧ wr.heap.size ≤ p ∧ RowB w p 81 (if s.getD 12 false = true then M else zTab)) ∧
  (s.getD 11 false = true → a.tmps.getD 8 undef = .pointer (some ⟨q, 0, none⟩) ∧ wr.heap.size ≤ q ∧ RowB w q 81 (if s.getD 13 false = true then N else zTab)) ∧ (s.getD 10 false = true → s.getD 11 false = true → p ≠ q)
 ord : (s.getD 12 false = true → s.getD 10 false = true) ∧ (s.getD 13 false = true → s.getD 11 false = true)
section
variable {wr : World} {a0 : Act} {V : Nat → Value} {M N : List Value} {s : Array Bool} {a : Act} {w : World}
theorem set_get (s : Array Bool) (i j : Nat) (hi : i < s.size) : (s.setIfInBounds i true).getD j false = if i = j then true else s.getD j false := by
 by_cases e : i = j
 · subst e; simp [hi]
 · rw [if_neg e, getD_set_ne false e]
theorem PairI.read (h : PairI wr a0 V M N s a w) (h60 : 60 < a0.tmps.size) (hs : s.size = 14) {i : Nat} (hi : i < 10) : PairI wr a0 V M N (s.setIfInBounds i true) (a.put (some (51 + i)) (V i)) w := by
 obtain ⟨p, q, h1, h2, h3⟩ := h.al
 have g : ∀ j, (s.setIfInBounds i true).getD j false = if i = j then true else s.getD j false := fun j => set_get s i j (by omega)
 have o : ∀ d, d ≠ 51 + i → (a.put (some (51 + i)) (V i)).tmps.getD d undef = a.tmps.getD d undef := fun d hd => put_other (by simpa using Ne.symm hd)
 refine ⟨h.df, by rw [put_size, h.sz], fun d hd h7 h8 => by rw [o d (by omega)]; exact h.rest d hd h7 h8, fun j hj hd => ?_, h.wb, ⟨p, q, ?_, ?_, ?_⟩, by rw [g 12, g 13, g 10, g 11, if_neg (show ¬ i = 12 by omega), if_neg (show ¬ i = 13 by omega), if_neg (show ¬ i = 10 by omega), if_neg (show ¬ i = 11 by omega)]; exact h.ord⟩
 · by_cases e : i = j
   · subst e; exact put_same (by rw [h.sz]; omega)
   · rw [g j, if_neg e] at hd
     rw [o _ (by omega)]; exact h.val j hj hd
 · rw [g 10, if_neg (show ¬ i = 10 by omega), g 12, if_neg (show ¬ i = 12 by omega), o 7 (by omega)]; exact h1
 · rw [g 11, if_neg (show ¬ i = 11 by omega), g 13, if_neg (show ¬ i = 13 by omega), o 8 (by omega)]; exact h2
 · rw [g 10, if_neg (show ¬ i = 10 by omega), g 11, if_neg (show ¬ i = 11 by omega)]; exact h3
theorem RowB.alloc {w : World} {b : Nat} {t : TypeId} {vs : List Value} (h : RowB w b t vs) (o : Obj) : RowB (w.alloc o) b t vs := by
 unfold RowB at h ⊢
 have := h
 show (w.heap.push o)[b]? = _
 rw [Array.getElem?_push_lt (lt_of_block h)]
 have hl := lt_of_block h
 rw [Array.getElem?_eq_getElem hl] at h
 exact h
theorem PairI.new1 (h : PairI wr a0 V M N s a w) (h60 : 60 < a0.tmps.size) (hs : s.size = 14) (h10 : s.getD 10 false = false) :
 PairI wr a0 V M N (s.setIfInBounds 10 true) (a.put (some 7) (.pointer (some ⟨w.heap.size, 0, none⟩))) (w.alloc (.cells zTab.toArray 81)) := by
 have h12 : s.getD 12 false = false := by
  cases e : s.getD 12 false
  · rfl
  · rw [h.ord.1 e] at h10; cases h10
 obtain ⟨p, q, h1, h2, h3⟩ := h.al
 have g : ∀ j, (s.setIfInBounds 10 true).getD j false = if 10 = j then true else s.getD j false := fun j => set_get s 10 j (by omega)
 have o : ∀ d, d ≠ 7 → (a.put (some 7) (.pointer (some ⟨w.heap.size, 0, none⟩))).tmps.getD d undef = a.tmps.getD d undef := fun d hd => put_other (by simpa using Ne.symm hd)
 refine ⟨h.df, by rw [put_size, h.sz], fun d hd h7 h8 => by rw [o d h7]; exact h.rest d hd h7 h8, fun j hj hd => ?_, h.wb.alloc h.wb.size _, ⟨w.heap.size, q, fun _ => ⟨put_same (by rw [h.sz]; omega), h.wb.size, ?_⟩, ?_, ?_⟩, by rw [g 12, g 13, g 10, g 11, if_neg (show ¬ (10 : Nat) = 12 by omega), if_neg (show ¬ (10 : Nat) = 13 by omega), if_pos rfl, if_neg (show ¬ (10 : Nat) = 11 by omega)]; exact ⟨fun _ => rfl, h.ord.2⟩⟩
 · rw [g j, if_neg (by omega)] at hd
   rw [o _ (by omega)]; exact h.val j hj hd
 · rw [g 12, if_neg (show ¬ (10 : Nat) = 12 by omega), h12, if_neg (by decide)]; exact RowB.new w zTab _
 · rw [g 11, if_neg (show ¬ (10 : Nat) = 11 by omega), g 13, if_neg (show ¬ (10 : Nat) = 13 by omega), o 8 (by omega)]
   intro e
   obtain ⟨e1, e2, e3⟩ := h2 e
   exact ⟨e1, e2, e3.alloc _⟩
 · rw [g 11, if_neg (show ¬ (10 : Nat) = 11 by omega)]
   intro _ e
   obtain ⟨e1, e2, e3⟩ := h2 e
   have := e3.lt
   omega
theorem PairI.new2 (h : PairI wr a0 V M N s a w) (h60 : 60 < a0.tmps.size) (hs : s.size = 14) (h11 : s.getD 11 false = false) :
 PairI wr a0 V M N (s.setIfInBounds 11 true) (a.put (some 8) (.pointer (some ⟨w.heap.size, 0, none⟩))) (w.alloc (.cells zTab.toArray 81)) := by
 have h13 : s.getD 13 false = false := by
  cases e : s.getD 13 false
  · rfl
  · rw [h.ord.2 e] at h11; cases h11
 obtain ⟨p, q, h1, h2, h3⟩ := h.al
 have g : ∀ j, (s.setIfInBounds 11 true).getD j false = if 11 = j then true else s.getD j false := fun j => set_get s 11 j (by omega)
 have o : ∀ d, d ≠ 8 → (a.put (some 8) (.pointer (some ⟨w.heap.size, 0, none⟩))).tmps.getD d undef = a.tmps.getD d undef := fun d hd => put_other (by simpa using Ne.symm hd)
 refine ⟨h.df, by rw [put_size, h.sz], fun d hd h7 h8 => by rw [o d h8]; exact h.rest d hd h7 h8, fun j hj hd => ?_, h.wb.alloc h.wb.size _, ⟨p, w.heap.size, ?_, fun _ => ⟨put_same (by rw [h.sz]; omega), h.wb.size, ?_⟩, ?_⟩, by rw [g 12, g 13, g 10, g 11, if_neg (show ¬ (11 : Nat) = 12 by omega), if_neg (show ¬ (11 : Nat) = 13 by omega), if_neg (show ¬ (11 : Nat) = 10 by omega), if_pos rfl]; exact ⟨h.ord.1, fun _ => rfl⟩⟩
 · rw [g j, if_neg (by omega)] at hd
   rw [o _ (by omega)]; exact h.val j hj hd
 · rw [g 10, if_neg (show ¬ (11 : Nat) = 10 by omega), g 12, if_neg (show ¬ (11 : Nat) = 12 by omega), o 7 (by omega)]
   intro e
   obtain ⟨e1, e2, e3⟩ := h1 e
   exact ⟨e1, e2, e3.alloc _⟩
 · rw [g 13, if_neg (show ¬ (11 : Nat) = 13 by omega), h13, if_neg (by decide)]; exact RowB.new w zTab _
 · rw [g 10, if_neg (show ¬ (11 : Nat) = 10 by omega)]
   intro e _
   obtain ⟨e1, e2, e3⟩ := h1 e
   have := e3.lt
   omega
def laid (w : World) (p : Nat) : Nat → List Value → World
 | _, [] => w
 | k, v :: r => laid (w.setCell ⟨p, k, none⟩ v) p (k + 1) r
theorem laid_ch {S : Nat → Prop} {p : Nat} (hp : S p) : ∀ (vs : List Value) (k : Nat) (w0 w : World), Ch S w0 w → Ch S w0 (laid w p k vs)
 | [], _, _, _, h => h
 | v :: r, k, w0, _, h => laid_ch hp r (k + 1) w0 _ (h.setC p k hp v)
def setFrom : Nat → List Value → List Value → List Value
 | _, cs, [] => cs
 | k, cs, v :: r => setFrom (k + 1) (cs.set k v) r
theorem laid_row {t : TypeId} {p : Nat} : ∀ (vs : List Value) (k : Nat) (w : World) (cs : List Value), RowB w p t cs → RowB (laid w p k vs) p t (setFrom k cs vs)
 | [], _, _, _, h => h
 | v :: r, k, _, _, h => laid_row r (k + 1) _ _ (h.set k v)
theorem Ch.below_new {B p : Nat} {w0 w : World} (h : Ch (fun k => k = p) w0 w) (hp : B ≤ p) (hB : B ≤ w0.heap.size) : Below B w0 w :=
 ⟨h.os, h.tape, h.output, h.size, fun k hk => h.block k (by omega) (by omega)⟩
theorem PairI.put1 (h : PairI wr a0 V M N s a w) (hs : s.size = 14) (h12 : s.getD 12 false = false) (h10 : s.getD 10 false = true) (hM : setFrom 0 zTab M = M) {p : Nat} (hp : a.tmps.getD 7 undef = .pointer (some ⟨p, 0, none⟩)) :
 PairI wr a0 V M N (s.setIfInBounds 12 true) (a.put none undef) (laid w p 0 M) := by
 obtain ⟨p', q, h1, h2, h3⟩ := h.al
 obtain ⟨e1, e2, e3⟩ := h1 h10
 have : p' = p := by rw [e1] at hp; simpa using hp
 subst this
 rw [h12, if_neg (by decide)] at e3
 have g : ∀ j, (s.setIfInBounds 12 true).getD j false = if 12 = j then true else s.getD j false := fun j => set_get s 12 j (by omega)
 have hch : Ch (fun k => k = p') w (laid w p' 0 M) := laid_ch (S := fun k => k = p') rfl M 0 w w (Ch.refl _ w)
 refine ⟨h.df, h.sz, h.rest, fun j hj hd => ?_, h.wb.trans (Ch.below_new hch e2 h.wb.size), ⟨p', q, fun _ => ⟨e1, e2, ?_⟩, ?_, ?_⟩, ?_⟩
 · rw [g j, if_neg (show ¬ 12 = j by omega)] at hd; exact h.val j hj hd
 · rw [g 12, if_pos rfl, if_pos rfl]
   have := laid_row M 0 w zTab e3
   rwa [hM] at this
 · rw [g 11, if_neg (show ¬ (12 : Nat) = 11 by omega), g 13, if_neg (show ¬ (12 : Nat) = 13 by omega)]
   intro e
   obtain ⟨d1, d2, d3⟩ := h2 e
   exact ⟨d1, d2, d3.kept hch (fun e' => h3 h10 e e'.symm)⟩
 · rw [g 10, if_neg (show ¬ (12 : Nat) = 10 by omega), g 11, if_neg (show ¬ (12 : Nat) = 11 by omega)]; exact h3
 · rw [g 12, if_pos rfl, g 13, if_neg (show ¬ (12 : Nat) = 13 by omega), g 10, if_neg (show ¬ (12 : Nat) = 10 by omega), g 11, if_neg (show ¬ (12 : Nat) = 11 by omega)]; exact ⟨fun _ => h10, h.ord.2⟩
theorem PairI.put2 (h : PairI wr a0 V M N s a w) (hs : s.size = 14) (h13 : s.getD 13 false = false) (h11 : s.getD 11 false = true) (hN : setFrom 0 zTab N = N) {q : Nat} (hq : a.tmps.getD 8 undef = .pointer (some ⟨q, 0, none⟩)) :
 PairI wr a0 V M N (s.setIfInBounds 13 true) (a.put none undef) (laid w q 0 N) := by
 obtain ⟨p, q', h1, h2, h3⟩ := h.al
 obtain ⟨e1, e2, e3⟩ := h2 h11
 have : q' = q := by rw [e1] at hq; simpa using hq
 subst this
 rw [h13, if_neg (by decide)] at e3
 have g : ∀ j, (s.setIfInBounds 13 true).getD j false = if 13 = j then true else s.getD j false := fun j => set_get s 13 j (by omega)
 have hch : Ch (fun k => k = q') w (laid w q' 0 N) := laid_ch (S := fun k => k = q') rfl N 0 w w (Ch.refl _ w)
 refine ⟨h.df, h.sz, h.rest, fun j hj hd => ?_, h.wb.trans (Ch.below_new hch e2 h.wb.size), ⟨p, q', ?_, fun _ => ⟨e1, e2, ?_⟩, ?_⟩, ?_⟩
 · rw [g j, if_neg (show ¬ 13 = j by omega)] at hd; exact h.val j hj hd
 · rw [g 10, if_neg (show ¬ (13 : Nat) = 10 by omega), g 12, if_neg (show ¬ (13 : Nat) = 12 by omega)]
   intro e
   obtain ⟨d1, d2, d3⟩ := h1 e
   exact ⟨d1, d2, d3.kept hch (fun e' => h3 e h11 e')⟩
 · rw [g 13, if_pos rfl, if_pos rfl]
   have := laid_row N 0 w zTab e3
   rwa [hN] at this
 · rw [g 10, if_neg (show ¬ (13 : Nat) = 10 by omega), g 11, if_neg (show ¬ (13 : Nat) = 11 by omega)]; exact h3
 · rw [g 13, if_pos rfl, g 12, if_neg (show ¬ (13 : Nat) = 12 by omega), g 10, if_neg (show ¬ (13 : Nat) = 10 by omega), g 11, if_neg (show ¬ (13 : Nat) = 11 by omega)]; exact ⟨h.ord.1, fun _ => h11⟩
theorem PairI.init (wr : World) (a0 : Act) (V : Nat → Value) (M N : List Value) : PairI wr a0 V M N (Array.replicate 14 false) a0 { wr with drawn := wr.drawn + 1 } := by
 have g : ∀ j, (Array.replicate 14 false).getD j false = false := fun j => by simp [Array.getElem?_replicate]; split <;> rfl
 have n : ∀ {j : Nat} {X : Prop}, (Array.replicate 14 false).getD j false = true → X := fun {j} {_} h => by rw [g j] at h; cases h
 exact ⟨rfl, rfl, fun _ _ _ _ => rfl, fun j _ h => n h, (Below.refl _ wr).drew, ⟨0, 0, fun h => n h, fun h => n h, fun h => n h⟩, ⟨fun h => n h, fun h => n h⟩⟩
def putV (V : Nat → Value) : Nat → Act → Act
 | 0, a => a
 | k + 1, a => (putV V k a).put (some (51 + k)) (V k)
theorem putV_size (V : Nat → Value) : ∀ n a, (putV V n a).tmps.size = a.tmps.size
 | 0, _ => rfl
 | n + 1, a => by rw [putV, put_size, putV_size V n a]
theorem putV_df (V : Nat → Value) : ∀ n a, (putV V n a).defers = a.defers
 | 0, _ => rfl
 | n + 1, a => by rw [putV, put_defers, putV_df V n a]
theorem putV_get (V : Nat → Value) (d : Nat) : ∀ n a, 51 + n ≤ a.tmps.size → (putV V n a).tmps.getD d undef = if 51 ≤ d ∧ d < 51 + n then V (d - 51) else a.tmps.getD d undef
 | 0, _, _ => by rw [if_neg (by omega)]; rfl
 | n + 1, a, h => by
  rw [putV]
  by_cases e : d = 51 + n
  · subst e
    rw [put_same (by rw [putV_size]; omega), if_pos (by omega), show 51 + n - 51 = n by omega]
  · rw [put_other (by simpa using Ne.symm e), putV_get V d n a (by omega)]
    by_cases c : 51 ≤ d ∧ d < 51 + n
    · rw [if_pos c, if_pos (by omega)]
    · rw [if_neg c, if_neg (by omega)]
theorem act_eq {a b : Act} (hd : a.defers = b.defers) (hs : a.tmps.size = b.tmps.size) (h : ∀ d, a.tmps.getD d undef = b.tmps.getD d undef) : a = b := by
 obtain ⟨x, y⟩ := a
 obtain ⟨x', y'⟩ := b
 simp only at hd hs h
 subst hd
 congr 1
 apply Array.ext hs
 intro i h1 h2
 have := h i
 simpa [h1, h2] using this
theorem PairI.done (h : PairI wr a0 V M N s a w) (h60 : 60 < a0.tmps.size) (hall : ∀ i, i < 14 → s.getD i false = true) :
 ∃ p q, a = ((putV V 10 a0).put (some 7) (.pointer (some ⟨p, 0, none⟩))).put (some 8) (.pointer (some ⟨q, 0, none⟩)) ∧ p ≠ q ∧ wr.heap.size ≤ p ∧ wr.heap.size ≤ q ∧ RowB w p 81 M ∧ RowB w q 81 N ∧ Below wr.heap.size wr w := by
 obtain ⟨p, q, h1, h2, h3⟩ := h.al
 obtain ⟨e1, e2, e3⟩ := h1 (hall 10 (by omega))
 obtain ⟨d1, d2, d3⟩ := h2 (hall 11 (by omega))
 rw [if_pos (hall 12 (by omega))] at e3
 rw [if_pos (hall 13 (by omega))] at d3
 refine ⟨p, q, act_eq (by rw [put_defers, put_defers, putV_df]; exact h.df) (by rw [put_size, put_size, putV_size]; exact h.sz) fun d => ?_, h3 (hall 10 (by omega)) (hall 11 (by omega)), e2, d2, e3, d3, h.wb⟩
 by_cases c8 : d = 8
 · subst c8; rw [put_same (by rw [put_size, putV_size]; omega)]; exact d1
 rw [put_other (by simpa using Ne.symm c8)]
 by_cases c7 : d = 7
 · subst c7; rw [put_same (by rw [putV_size]; omega)]; exact e1
 rw [put_other (by simpa using Ne.symm c7), putV_get V d 10 a0 (by omega)]
 by_cases c : 51 ≤ d ∧ d < 51 + 10
 · rw [if_pos c]
   have := h.val (d - 51) (by omega) (hall _ (by omega))
   rwa [show 51 + (d - 51) = d by omega] at this
 · rw [if_neg c]; exact h.rest d (by omega) c7 c8
theorem flow_skipA {P : Program} {o : Oper} {a : Act} {w w' : World} {R : Value → World → Prop} (h : (execOp a.eval o).run P w = .ok .skip w') (hR : R undef w') : Oper.flowA P o a w R := by
 unfold Oper.flowA; rw [h]; exact hR
end
end Go.Proofs.YtendekbckfpmgaaGreat
namespace Go.Proofs.YtendekbckfpmgaaGreat
open Go Go.RowKit Go.Proofs.YtendekbckfpmgaaGreatW.PrintWords Go.Proofs.YtendekbckfpmgaaGreat.PWorldMay
attribute [local go_sem high] eqA47 eqA78
def ZS6 (b1 b2 : Nat) (ad ad2 : Addr) (n c1 c3 k bb oo bb2 oo2 : Nat) (v0 v1 u0 u1 : Int) : Nat → Value → Prop
 | 0, v => v = .pointer (some ⟨b1, 0, none⟩)
 | 1, v => v = .slice (some ad) n c1
 | 2, v => v = .int .i64 k
 | 3, v => v = .pointer (some ⟨bb, oo, none⟩)
 | 4, v => v = .agg #[.int .i64 v0, .int .i64 v1]
 | 5, v => v = .pointer (some ⟨b2, 0, none⟩)
 | 6, v => v = .slice (some ad2) n c3
 | 7, v => v = .int .i64 k
 | 8, v => v = .pointer (some ⟨bb2, oo2, none⟩)
 | _, v => v = .agg #[.int .i64 u0, .int .i64 u1]
def VS11 (b1 b2 : Nat) (ad ad2 : Addr) (n c2 c6 k bb oo bb2 oo2 : Nat) (vt ut : Value) : Nat → Value
 | 0 => .pointer (some ⟨b1, 1, none⟩)
 | 1 => .slice (some ad) n c2
 | 2 => .int .i64 k
 | 3 => .pointer (some ⟨bb, oo, none⟩)
 | 4 => vt
 | 5 => .pointer (some ⟨b2, 1, none⟩)
 | 6 => .slice (some ad2) n c6
 | 7 => .int .i64 k
 | 8 => .pointer (some ⟨bb2, oo2, none⟩)
 | _ => ut
def ZS17 (t1 t2 : Nat) (ad ad2 : Addr) (n c4 c42 j bb oo bb2 oo2 : Nat) (vt ut : Value) (ans : Bool) : Nat → Value → Prop
 | 0, v => v = .pointer (some ⟨t1, 1, none⟩)
 | 1, v => v = .slice (some ad) n c4
 | 2, v => v = .int .i64 j
 | 3, v => v = .pointer (some ⟨bb, oo, none⟩)
 | 4, v => v = vt
 | 5, v => v = .pointer (some ⟨t2, 1, none⟩)
 | 6, v => v = .slice (some ad2) n c42
 | 7, v => v = .int .i64 j
 | 8, v => v = .pointer (some ⟨bb2, oo2, none⟩)
 | 9, v => v = ut
 | _, v => v = .bool ans
def SBox (w : World) (b1 b2 : Nat) (s1 s2 s3 s4 : Value) : Prop :=
 w.cell? ⟨b1, 0, none⟩ = some s1 ∧ w.cell? ⟨b1, 1, none⟩ = some s2 ∧ w.cell? ⟨b2, 0, none⟩ = some s3 ∧ w.cell? ⟨b2, 1, none⟩ = some s4 ∧ b1 < w.heap.size ∧ b2 < w.heap.size
theorem SBox.below {w w' : World} {b1 b2 : Nat} {s1 s2 s3 s4 : Value} (h : SBox w b1 b2 s1 s2 s3 s4) (hb : Below w.heap.size w w') : SBox w' b1 b2 s1 s2 s3 s4 := by
 obtain ⟨h1, h2, h3, h4, h5, h6⟩ := h
 have hc := (bcell hb).1
 exact ⟨(hc b1 0 h5).trans h1, (hc b1 1 h5).trans h2, (hc b2 0 h6).trans h3, (hc b2 1 h6).trans h4, Nat.lt_of_lt_of_le h5 hb.size, Nat.lt_of_lt_of_le h6 hb.size⟩
set_option maxRecDepth 100000 in
set_option maxHeartbeats 4000000 in
theorem rsame_any (w : World) (A1 : Option Addr) (c1 : Nat) (z1 : List S78) (A2 : Option Addr) (c2 : Nat) (f1 : List S81) (A3 : Option Addr) (c3 : Nat) (z2 : List S78) (A6 : Option Addr) (c6 : Nat) (f2 : List S81)
 (h1 : k78.C w A1 z1.length z1) (h2 : k81.C w A2 f1.length f1) (h3 : k78.C w A3 z2.length z2) (h4 : k81.C w A6 f2.length f2) (hz : z1.length ≤ maxLen) (hf : ShortT f1) :
 Calls Tryz.prog 10 #[.agg #[.slice A1 z1.length c1, .slice A2 f1.length c2], .agg #[.slice A3 z2.length c3, .slice A6 f2.length c6]] w fun e w' => e = .returned (.bool (eqWorld z1 z2 f1 f2)) ∧ Below w.heap.size w w' := by
 by_cases hlz : z1.length = z2.length
 case neg =>
  have hlz' : ((z1.length : Int) != (z2.length : Int)) = true := by simp; omega
  have HX := Lib.hid (show eqWorld z1 z2 f1 f2 = false by unfold eqWorld; rw [listB_len _ _ _ hlz]; rfl)
  clear h1 h2 h3 h4
  go_enter Tryz.func10, Tryz.ntmps10
  go_wp2_with fail
  go_ret
  exact ⟨by rw [HX.out]; rfl, by (repeat (first | (with_reducible exact Below.refl _ _) | ((with_reducible refine Below.alloc ?_ ?_ _); rotate_left; focus (first | (simp; done) | (simp; omega))) | ((with_reducible refine Below.setCell ?_ ?_ _); rotate_left; focus (first | (simp; done) | (simp; omega))) | (with_reducible refine Below.drew ?_) | (with_reducible refine Below.drewN' ?_ _)))⟩
 by_cases hlf : f1.length = f2.length
 case neg =>
  have hlf' : ((f1.length : Int) != (f2.length : Int)) = true := by simp; omega
  have HX := Lib.hid (show eqWorld z1 z2 f1 f2 = false by unfold eqWorld; rw [listB_len eqTab _ _ hlf, Bool.and_false])
  clear h1 h2 h3 h4
  rw [← hlz]
  go_enter Tryz.func10, Tryz.ntmps10
  go_wp2_with fail
  go_ret
  exact ⟨by rw [HX.out]; rfl, by (repeat (first | (with_reducible exact Below.refl _ _) | ((with_reducible refine Below.alloc ?_ ?_ _); rotate_left; focus (first | (simp; done) | (simp; omega))) | ((with_reducible refine Below.setCell ?_ ?_ _); rotate_left; focus (first | (simp; done) | (simp; omega))) | (with_reducible refine Below.drew ?_) | (with_reducible refine Below.drewN' ?_ _)))⟩
 have hmx : maxLen ≤ 9223372036854775807 := by decide
 rw [← hlz, ← hlf]
 have HLZ := Lib.hid hlz
 have HLF := Lib.hid hlf
 have H1 := Lib.hid h1
 have H2 := Lib.hid h2
 have H3 := Lib.hid h3
 have H4 := Lib.hid h4
 have hfl := hf.1
 have HS := Lib.hid hf.2
 clear hlz hlf h1 h2 h3 h4 hf
 go_enter Tryz.func10, Tryz.ntmps10
 go_wp2_with fail
 have HS0 : ∀ b1 b2, b1 = w.heap.size → b2 = w.heap.size + 1 → Hid (Below w.heap.size w (((w.alloc (.cells #[.slice A1 z1.length c1, .slice A2 f1.length c2] 37)).alloc (.cells #[.slice A3 z1.length c3, .slice A6 f1.length c6] 37))) ∧ SBox (((w.alloc (.cells #[.slice A1 z1.length c1, .slice A2 f1.length c2] 37)).alloc (.cells #[.slice A3 z1.length c3, .slice A6 f1.length c6] 37))) b1 b2 (.slice A1 z1.length c1) (.slice A2 f1.length c2) (.slice A3 z1.length c3) (.slice A6 f1.length c6) ∧ listB eqSize z1 z2 = listB eqSize (z1.drop 0) (z2.drop 0)) := by
  intro b1 b2 e1 e2
  subst e1 e2
  exact Lib.hid ⟨by (repeat (first | (with_reducible exact Below.refl _ _) | ((with_reducible refine Below.alloc ?_ ?_ _); rotate_left; focus (first | (simp; done) | (simp; omega))) | ((with_reducible refine Below.setCell ?_ ?_ _); rotate_left; focus (first | (simp; done) | (simp; omega))) | (with_reducible refine Below.drew ?_) | (with_reducible refine Below.drewN' ?_ _))), ⟨by rw [World.cell?_alloc_past _ _ _ (by simp), World.cell?_alloc_at _ _ _ _ rfl]; rfl, by rw [World.cell?_alloc_past _ _ _ (by simp), World.cell?_alloc_at _ _ _ _ rfl]; rfl, by rw [World.cell?_alloc_at _ _ _ _ (by simp)]; rfl, by rw [World.cell?_alloc_at _ _ _ _ (by simp)]; rfl, by simp; omega, by simp⟩, rfl⟩
 generalize hB1 : w.heap.size = b1
 generalize hB2 : b1 + 1 = b2
 replace HS0 := HS0 b1 b2 hB1.symm (by omega)
 clear hB1 hB2
 go_loopw [5] (fun vi wr => ∃ k : Nat, vi = .int .i64 k ∧ k ≤ z1.length ∧ Hid (Below w.heap.size w wr ∧ SBox wr b1 b2 (.slice A1 z1.length c1) (.slice A2 f1.length c2) (.slice A3 z1.length c3) (.slice A6 f1.length c6) ∧ listB eqSize z1 z2 = listB eqSize (z1.drop k) (z2.drop k))) (fun vi _ => z1.length - (intOf vi).toNat)
 case atStart => exact ⟨0, rfl, by omega, HS0⟩
 case round =>
  obtain ⟨k, rfl, hk, hh⟩ := hrel
  have HB := Lib.hid hh.out.1
  have HX0 := Lib.hid hh.out.2.1
  have HQ := Lib.hid hh.out.2.2
  obtain ⟨cb1, cb1', cb2, cb2', hb1l, hb2l⟩ := hh.out.2.1
  clear hh
  by_cases hkl : k < z1.length
  case pos =>
   have hkl' : (k : Int) < z1.length := by omega
   have hk2 : k < z2.length := by have := HLZ.out; omega
   have HE := Lib.hid (show listB eqSize z1 z2 = (eqSize (z1.getD k z78) (z2.getD k z78) && listB eqSize (z1.drop (k + 1)) (z2.drop (k + 1))) by rw [HQ.out]; exact listB_step eqSize z1 z2 _ _ k hkl hk2)
   obtain ⟨ad, bb, oo, cs, hA, hadd, hK, hc, hbl⟩ := cells_at z78 H1.out k hkl (by decide)
   subst hA
   obtain rfl := k78_open hK
   replace hadd : ad.add (k * 2) = ⟨bb, oo, none⟩ := hadd
   obtain ⟨ad2, bb2, oo2, cs2, hA2, hadd2, hK2, hc2, hbl2⟩ := cells_at z78 H3.out k hk2 (by decide)
   subst hA2
   obtain rfl := k78_open hK2
   replace hadd2 : ad2.add (k * 2) = ⟨bb2, oo2, none⟩ := hadd2
   generalize z1.getD k z78 = v at *
   generalize z2.getD k z78 = u at *
   obtain ⟨v0, v1⟩ := v
   obtain ⟨u0, u1⟩ := u
   simp only at hc hc2
   have hcc := (bcell HB.out).1
   have q0 : wr.cell? ⟨bb, oo, none⟩ = some (.int .i64 v0) := (hcc bb _ hbl).trans (by have := hc 0 _ rfl; simpa using this)
   have q1 : wr.cell? ⟨bb, oo + 1, none⟩ = some (.int .i64 v1) := (hcc bb _ hbl).trans (hc 1 _ rfl)
   have p0 : wr.cell? ⟨bb2, oo2, none⟩ = some (.int .i64 u0) := (hcc bb2 _ hbl2).trans (by have := hc2 0 _ rfl; simpa using this)
   have p1 : wr.cell? ⟨bb2, oo2 + 1, none⟩ = some (.int .i64 u1) := (hcc bb2 _ hbl2).trans (hc2 1 _ rfl)
   have hbr : bb < wr.heap.size := Nat.lt_of_lt_of_le hbl HB.out.size
   have hbr2 : bb2 < wr.heap.size := Nat.lt_of_lt_of_le hbl2 HB.out.size
   clear hK hK2 hc hc2 hcc HQ hk2 cb1' cb2'
   have HXX := HX0
   cases hr : eqSize ⟨v0, v1⟩ ⟨u0, u1⟩
   · have hr' := hr
     unfold eqSize at hr'
     simp only at hr'
     have HX := Lib.hid (show eqWorld z1 z2 f1 f2 = false by unfold eqWorld; rw [HE.out, hr]; rfl)
     clear hr
     go_wp2_with fail
     refine wp_region_flow3 10 (by kernel_rfl) (by kernel_rfl) ?_ (fun iz _ v => (ZS6 b1 b2 ad ad2 z1.length c1 c3 k bb oo bb2 oo2 v0 v1 u0 u1) iz v) (fun w' => Below wr.heap.size wr w') (Below.drew (Below.refl _ wr)) ?_ ?_
     · intro i o' d hi ho hd
       have : i = 0 ∨ i = 1 ∨ i = 2 ∨ i = 3 ∨ i = 4 ∨ i = 5 ∨ i = 6 ∨ i = 7 ∨ i = 8 ∨ i = 9 := by omega
       rcases this with rfl | rfl | rfl | rfl | rfl | rfl | rfl | rfl | rfl | rfl <;> (simp at ho; subst ho; simp at hd; subst hd; simp)
     · intro i o' hi ho
       have : i = 0 ∨ i = 1 ∨ i = 2 ∨ i = 3 ∨ i = 4 ∨ i = 5 ∨ i = 6 ∨ i = 7 ∨ i = 8 ∨ i = 9 := by omega
       rcases this with rfl | rfl | rfl | rfl | rfl | rfl | rfl | rfl | rfl | rfl <;> (simp at ho; subst ho; intro a w' hC hd hr)
       · rw [if_pos (by rfl)]; have e2 : a.tmps[2]?.getD undef = .pointer (some ⟨b1, 0, none⟩) := gd (hr 2 (free_of (by rfl))); exact flow_val (by go_simp; try rfl) ⟨rfl, hC, fun _ _ _ h => h⟩
       · rw [if_pos (by rfl)]; have e33 : a.tmps[33]?.getD undef = .pointer (some ⟨b1, 0, none⟩) := gd (hd ⟨0, .data⟩ (by simp) rfl _ _ rfl rfl); have g0 := bget hC cb1 hb1l; exact flow_val (by go_simp; try rfl) ⟨rfl, hC, fun _ _ _ h => h⟩
       · rw [if_pos (by rfl)]; have e5 : a.tmps[5]?.getD undef = .int .i64 k := gd (hr 5 (free_of (by rfl))); exact flow_val (by go_simp; try rfl) ⟨rfl, hC, fun _ _ _ h => h⟩
       · rw [if_pos (by rfl)]; have e34 : a.tmps[34]?.getD undef = .slice (some ad) z1.length c1 := gd (hd ⟨1, .data⟩ (by simp) rfl _ _ rfl rfl); have e35 : a.tmps[35]?.getD undef = .int .i64 k := gd (hd ⟨2, .data⟩ (by simp) rfl _ _ rfl rfl); have hx := hadd; exact flow_val (by go_simp; try rfl) ⟨rfl, hC, fun _ _ _ h => h⟩
       · rw [if_pos (by rfl)]; have e36 : a.tmps[36]?.getD undef = .pointer (some ⟨bb, oo, none⟩) := gd (hd ⟨3, .data⟩ (by simp) rfl _ _ rfl rfl); have g0 := bget hC q0 hbr; have g1 := bget hC q1 hbr; exact flow_val (by go_simp; try rfl) ⟨rfl, hC, fun _ _ _ h => h⟩
       · rw [if_pos (by rfl)]; have e3 : a.tmps[3]?.getD undef = .pointer (some ⟨b2, 0, none⟩) := gd (hr 3 (free_of (by rfl))); exact flow_val (by go_simp; try rfl) ⟨rfl, hC, fun _ _ _ h => h⟩
       · rw [if_pos (by rfl)]; have e38 : a.tmps[38]?.getD undef = .pointer (some ⟨b2, 0, none⟩) := gd (hd ⟨5, .data⟩ (by simp) rfl _ _ rfl rfl); have g0 := bget hC cb2 hb2l; exact flow_val (by go_simp; try rfl) ⟨rfl, hC, fun _ _ _ h => h⟩
       · rw [if_pos (by rfl)]; have e5 : a.tmps[5]?.getD undef = .int .i64 k := gd (hr 5 (free_of (by rfl))); exact flow_val (by go_simp; try rfl) ⟨rfl, hC, fun _ _ _ h => h⟩
       · rw [if_pos (by rfl)]; have e39 : a.tmps[39]?.getD undef = .slice (some ad2) z1.length c3 := gd (hd ⟨6, .data⟩ (by simp) rfl _ _ rfl rfl); have e40 : a.tmps[40]?.getD undef = .int .i64 k := gd (hd ⟨7, .data⟩ (by simp) rfl _ _ rfl rfl); have hx := hadd2; exact flow_val (by go_simp; try rfl) ⟨rfl, hC, fun _ _ _ h => h⟩
       · rw [if_pos (by rfl)]; have e41 : a.tmps[41]?.getD undef = .pointer (some ⟨bb2, oo2, none⟩) := gd (hd ⟨8, .data⟩ (by simp) rfl _ _ rfl rfl); have g0 := bget hC p0 hbr2; have g1 := bget hC p1 hbr2; exact flow_val (by go_simp; try rfl) ⟨rfl, hC, fun _ _ _ h => h⟩
     intro vs' w4 hb4 hZ
     have v4 : vs' 4 = .agg #[.int .i64 v0, .int .i64 v1] := hZ 4 _ _ (by omega) rfl rfl
     have v9 : vs' 9 = .agg #[.int .i64 u0, .int .i64 u1] := hZ 9 _ _ (by omega) rfl rfl
     clear hZ cb1 cb2 q0 q1 p0 p1
     simp only [List.drop_succ_cons, List.drop_zero, List.take_succ_cons, List.take_zero, putAll, v4, v9]
     have HB4 := Lib.hid (HB.out.trans (hb4.mono HB.out.size))
     have HX4 := Lib.hid (HX0.out.below hb4)
     clear hb4 HX0
     go_wp2_with fail
     go_ret
     exact ⟨by rw [HX.out]; rfl, HB4.out⟩
   · have hr' := hr
     unfold eqSize at hr'
     simp only at hr'
     have HX := Lib.hid (show listB eqSize z1 z2 = listB eqSize (z1.drop (k + 1)) (z2.drop (k + 1)) by rw [HE.out, hr]; rfl)
     clear hr
     go_wp2_with fail
     refine wp_region_flow3 10 (by kernel_rfl) (by kernel_rfl) ?_ (fun iz _ v => (ZS6 b1 b2 ad ad2 z1.length c1 c3 k bb oo bb2 oo2 v0 v1 u0 u1) iz v) (fun w' => Below wr.heap.size wr w') (Below.drew (Below.refl _ wr)) ?_ ?_
     · intro i o' d hi ho hd
       have : i = 0 ∨ i = 1 ∨ i = 2 ∨ i = 3 ∨ i = 4 ∨ i = 5 ∨ i = 6 ∨ i = 7 ∨ i = 8 ∨ i = 9 := by omega
       rcases this with rfl | rfl | rfl | rfl | rfl | rfl | rfl | rfl | rfl | rfl <;> (simp at ho; subst ho; simp at hd; subst hd; simp)
     · intro i o' hi ho
       have : i = 0 ∨ i = 1 ∨ i = 2 ∨ i = 3 ∨ i = 4 ∨ i = 5 ∨ i = 6 ∨ i = 7 ∨ i = 8 ∨ i = 9 := by omega
       rcases this with rfl | rfl | rfl | rfl | rfl | rfl | rfl | rfl | rfl | rfl <;> (simp at ho; subst ho; intro a w' hC hd hr)
       · rw [if_pos (by rfl)]; have e2 : a.tmps[2]?.getD undef = .pointer (some ⟨b1, 0, none⟩) := gd (hr 2 (free_of (by rfl))); exact flow_val (by go_simp; try rfl) ⟨rfl, hC, fun _ _ _ h => h⟩
       · rw [if_pos (by rfl)]; have e33 : a.tmps[33]?.getD undef = .pointer (some ⟨b1, 0, none⟩) := gd (hd ⟨0, .data⟩ (by simp) rfl _ _ rfl rfl); have g0 := bget hC cb1 hb1l; exact flow_val (by go_simp; try rfl) ⟨rfl, hC, fun _ _ _ h => h⟩
       · rw [if_pos (by rfl)]; have e5 : a.tmps[5]?.getD undef = .int .i64 k := gd (hr 5 (free_of (by rfl))); exact flow_val (by go_simp; try rfl) ⟨rfl, hC, fun _ _ _ h => h⟩
       · rw [if_pos (by rfl)]; have e34 : a.tmps[34]?.getD undef = .slice (some ad) z1.length c1 := gd (hd ⟨1, .data⟩ (by simp) rfl _ _ rfl rfl); have e35 : a.tmps[35]?.getD undef = .int .i64 k := gd (hd ⟨2, .data⟩ (by simp) rfl _ _ rfl rfl); have hx := hadd; exact flow_val (by go_simp; try rfl) ⟨rfl, hC, fun _ _ _ h => h⟩
       · rw [if_pos (by rfl)]; have e36 : a.tmps[36]?.getD undef = .pointer (some ⟨bb, oo, none⟩) := gd (hd ⟨3, .data⟩ (by simp) rfl _ _ rfl rfl); have g0 := bget hC q0 hbr; have g1 := bget hC q1 hbr; exact flow_val (by go_simp; try rfl) ⟨rfl, hC, fun _ _ _ h => h⟩
       · rw [if_pos (by rfl)]; have e3 : a.tmps[3]?.getD undef = .pointer (some ⟨b2, 0, none⟩) := gd (hr 3 (free_of (by rfl))); exact flow_val (by go_simp; try rfl) ⟨rfl, hC, fun _ _ _ h => h⟩
       · rw [if_pos (by rfl)]; have e38 : a.tmps[38]?.getD undef = .pointer (some ⟨b2, 0, none⟩) := gd (hd ⟨5, .data⟩ (by simp) rfl _ _ rfl rfl); have g0 := bget hC cb2 hb2l; exact flow_val (by go_simp; try rfl) ⟨rfl, hC, fun _ _ _ h => h⟩
       · rw [if_pos (by rfl)]; have e5 : a.tmps[5]?.getD undef = .int .i64 k := gd (hr 5 (free_of (by rfl))); exact flow_val (by go_simp; try rfl) ⟨rfl, hC, fun _ _ _ h => h⟩
       · rw [if_pos (by rfl)]; have e39 : a.tmps[39]?.getD undef = .slice (some ad2) z1.length c3 := gd (hd ⟨6, .data⟩ (by simp) rfl _ _ rfl rfl); have e40 : a.tmps[40]?.getD undef = .int .i64 k := gd (hd ⟨7, .data⟩ (by simp) rfl _ _ rfl rfl); have hx := hadd2; exact flow_val (by go_simp; try rfl) ⟨rfl, hC, fun _ _ _ h => h⟩
       · rw [if_pos (by rfl)]; have e41 : a.tmps[41]?.getD undef = .pointer (some ⟨bb2, oo2, none⟩) := gd (hd ⟨8, .data⟩ (by simp) rfl _ _ rfl rfl); have g0 := bget hC p0 hbr2; have g1 := bget hC p1 hbr2; exact flow_val (by go_simp; try rfl) ⟨rfl, hC, fun _ _ _ h => h⟩
     intro vs' w4 hb4 hZ
     have v4 : vs' 4 = .agg #[.int .i64 v0, .int .i64 v1] := hZ 4 _ _ (by omega) rfl rfl
     have v9 : vs' 9 = .agg #[.int .i64 u0, .int .i64 u1] := hZ 9 _ _ (by omega) rfl rfl
     clear hZ cb1 cb2 q0 q1 p0 p1
     simp only [List.drop_succ_cons, List.drop_zero, List.take_succ_cons, List.take_zero, putAll, v4, v9]
     have HB4 := Lib.hid (HB.out.trans (hb4.mono HB.out.size))
     have HX4 := Lib.hid (HX0.out.below hb4)
     clear hb4 HX0
     go_wp2_with fail
     go_roundw
     case rel => exact ⟨k + 1, by go_num, by omega, Lib.hid ⟨HB4.out, HX4.out, HX.out⟩⟩
     case measure => simp [intOf]; omega
  case neg =>
   have hkl' : ¬ (k : Int) < z1.length := by omega
   have HZ := Lib.hid (show listB eqSize z1 z2 = true by rw [HQ.out, List.drop_of_length_le (by omega), List.drop_of_length_le (by have := HLZ.out; omega)]; rfl)
   have HW0 := Lib.hid (show eqWorld z1 z2 f1 f2 = listB eqTab f1 f2 by unfold eqWorld; rw [HZ.out]; rfl)
   clear HQ HZ HLZ H1 H3 hkl hk
   go_wp2_with fail
   go_loopw [6] (fun vi wr => ∃ k : Nat, vi = .int .i64 k ∧ k ≤ f1.length ∧ Hid (Below w.heap.size w wr ∧ SBox wr b1 b2 (.slice A1 z1.length c1) (.slice A2 f1.length c2) (.slice A3 z1.length c3) (.slice A6 f1.length c6) ∧ listB eqTab f1 f2 = listB eqTab (f1.drop k) (f2.drop k))) (fun vi _ => f1.length - (intOf vi).toNat)
   case atStart => exact ⟨0, rfl, by omega, Lib.hid ⟨HB.out, HX0.out, rfl⟩⟩
   case round =>
    clear HB HX0 cb1 cb1' cb2 cb2' hb1l hb2l
    rename_i wr
    obtain ⟨k, rfl, hk, hh⟩ := hrel
    have HB := Lib.hid hh.out.1
    have HX0 := Lib.hid hh.out.2.1
    have HQ := Lib.hid hh.out.2.2
    obtain ⟨cb1', cb1, cb2', cb2, hb1l, hb2l⟩ := hh.out.2.1
    clear hh
    by_cases hkl : k < f1.length
    case neg =>
     have hkl' : ¬ (k : Int) < f1.length := by omega
     have HX := Lib.hid (show eqWorld z1 z2 f1 f2 = true by rw [HW0.out, HQ.out, List.drop_of_length_le (by omega), List.drop_of_length_le (by have := HLF.out; omega)]; rfl)
     go_wp2_with fail
     go_ret
     exact ⟨by rw [HX.out]; rfl, HB.out⟩
    case pos =>
     have hkl' : (k : Int) < f1.length := by omega
     have hk2 : k < f2.length := by have := HLF.out; omega
     have HE := Lib.hid (show eqWorld z1 z2 f1 f2 = (eqTab (f1.getD k z81) (f2.getD k z81) && listB eqTab (f1.drop (k + 1)) (f2.drop (k + 1))) by rw [HW0.out, HQ.out]; exact listB_step eqTab f1 f2 _ _ k hkl hk2)
     have HE2 := Lib.hid (show listB eqTab f1 f2 = (eqTab (f1.getD k z81) (f2.getD k z81) && listB eqTab (f1.drop (k + 1)) (f2.drop (k + 1))) by rw [HQ.out]; exact listB_step eqTab f1 f2 _ _ k hkl hk2)
     have HSx := Lib.hid (HS.out (f1.getD k z81) (by rw [show f1.getD k z81 = f1[k] by simp [hkl]]; exact List.getElem_mem hkl))
     obtain ⟨ad, bb, oo, cs, hA, hadd, hK, hc, hbl⟩ := cells_at z81 H2.out k hkl (by decide)
     subst hA
     obtain ⟨A4, c4, rfl, hle4, hC4⟩ := k81_open hK
     replace hadd : ad.add (k * 7) = ⟨bb, oo, none⟩ := hadd
     obtain ⟨ad2, bb2, oo2, cs2, hA2, hadd2, hK2, hc2, hbl2⟩ := cells_at z81 H4.out k hk2 (by decide)
     subst hA2
     obtain ⟨A42, c42, rfl, hle42, hC42⟩ := k81_open hK2
     replace hadd2 : ad2.add (k * 7) = ⟨bb2, oo2, none⟩ := hadd2
     have HC4 := Lib.hid hC4
     have HC42 := Lib.hid hC42
     have HLE := Lib.hid (And.intro hle4 hle42)
     clear hC4 hC42 hle4 hle42
     generalize f1.getD k z81 = m at *
     generalize f2.getD k z81 = n at *
     obtain ⟨mn, ml, ⟨m0, m1, ⟨m2, m3⟩, m4⟩⟩ := m
     obtain ⟨nn, nl, ⟨n0, n1, ⟨n2, n3⟩, n4⟩⟩ := n
     simp only at hc hc2 HC4 HC42 HSx HLE
     have hcc := (bcell HB.out).1
     have q0 : wr.cell? ⟨bb, oo, none⟩ = some (.int .i64 mn) := (hcc bb _ hbl).trans (by have := hc 0 _ rfl; simpa using this)
     have q1 : wr.cell? ⟨bb, oo + 1, none⟩ = some (.slice A4 ml.length c4) := (hcc bb _ hbl).trans (hc 1 _ rfl)
     have q2 : wr.cell? ⟨bb, oo + 2, none⟩ = some (.int .i64 m0) := (hcc bb _ hbl).trans (hc 2 _ rfl)
     have q3 : wr.cell? ⟨bb, oo + 3, none⟩ = some (.bool m1) := (hcc bb _ hbl).trans (hc 3 _ rfl)
     have q4 : wr.cell? ⟨bb, oo + 4, none⟩ = some (.int .i64 m2) := (hcc bb _ hbl).trans (hc 4 _ rfl)
     have q5 : wr.cell? ⟨bb, oo + 5, none⟩ = some (.int .i64 m3) := (hcc bb _ hbl).trans (hc 5 _ rfl)
     have q6 : wr.cell? ⟨bb, oo + 6, none⟩ = some (.int .i64 m4) := (hcc bb _ hbl).trans (hc 6 _ rfl)
     have p0 : wr.cell? ⟨bb2, oo2, none⟩ = some (.int .i64 nn) := (hcc bb2 _ hbl2).trans (by have := hc2 0 _ rfl; simpa using this)
     have p1 : wr.cell? ⟨bb2, oo2 + 1, none⟩ = some (.slice A42 nl.length c42) := (hcc bb2 _ hbl2).trans (hc2 1 _ rfl)
     have p2 : wr.cell? ⟨bb2, oo2 + 2, none⟩ = some (.int .i64 n0) := (hcc bb2 _ hbl2).trans (hc2 2 _ rfl)
     have p3 : wr.cell? ⟨bb2, oo2 + 3, none⟩ = some (.bool n1) := (hcc bb2 _ hbl2).trans (hc2 3 _ rfl)
     have p4 : wr.cell? ⟨bb2, oo2 + 4, none⟩ = some (.int .i64 n2) := (hcc bb2 _ hbl2).trans (hc2 4 _ rfl)
     have p5 : wr.cell? ⟨bb2, oo2 + 5, none⟩ = some (.int .i64 n3) := (hcc bb2 _ hbl2).trans (hc2 5 _ rfl)
     have p6 : wr.cell? ⟨bb2, oo2 + 6, none⟩ = some (.int .i64 n4) := (hcc bb2 _ hbl2).trans (hc2 6 _ rfl)
     have hbr : bb < wr.heap.size := Nat.lt_of_lt_of_le hbl HB.out.size
     have hbr2 : bb2 < wr.heap.size := Nat.lt_of_lt_of_le hbl2 HB.out.size
     clear hK hK2 hc hc2 hcc HQ hk2 cb1' cb2' hbl hbl2
     go_wp2_with fail
     refine wp_region_all (by kernel_rfl) (by kernel_rfl) (PairI wr _ (VS11 b1 b2 ad ad2 f1.length c2 c6 k bb oo bb2 oo2 (.agg #[.int .i64 mn, .slice A4 ml.length c4, .int .i64 m0, .bool m1, .int .i64 m2, .int .i64 m3, .int .i64 m4]) (.agg #[.int .i64 nn, .slice A42 nl.length c42, .int .i64 n0, .bool n1, .int .i64 n2, .int .i64 n3, .int .i64 n4])) [.int .i64 mn, .slice A4 ml.length c4, .int .i64 m0, .bool m1, .int .i64 m2, .int .i64 m3, .int .i64 m4] [.int .i64 nn, .slice A42 nl.length c42, .int .i64 n0, .bool n1, .int .i64 n2, .int .i64 n3, .int .i64 n4]) (PairI.init _ _ _ _ _) ?_ ?_
     · intro s a w' i o' hs hi hI ho hun hdeps
       have hi' : i < 14 := hi
       have hC := hI.wb
       have : i = 0 ∨ i = 1 ∨ i = 2 ∨ i = 3 ∨ i = 4 ∨ i = 5 ∨ i = 6 ∨ i = 7 ∨ i = 8 ∨ i = 9 ∨ i = 10 ∨ i = 11 ∨ i = 12 ∨ i = 13 := by omega
       rcases this with rfl | rfl | rfl | rfl | rfl | rfl | rfl | rfl | rfl | rfl | rfl | rfl | rfl | rfl <;> (simp at ho; subst ho; refine ⟨by rfl, ?_⟩)
       · have e2 : a.tmps.getD 2 undef = .pointer (some ⟨b1, 0, none⟩) := hI.rest 2 (by omega) (by decide) (by decide)
         have e2' : a.tmps[2]?.getD undef = .pointer (some ⟨b1, 0, none⟩) := by simpa using e2
         exact flow_val (v := .pointer (some ⟨b1, 1, none⟩)) (by go_simp; try rfl) (hI.read (by simp) hs (by omega))
       · have e51 : a.tmps.getD 51 undef = .pointer (some ⟨b1, 1, none⟩) := hI.val 0 (by omega) (hdeps ⟨0, .data⟩ (by simp) rfl)
         have e51' : a.tmps[51]?.getD undef = .pointer (some ⟨b1, 1, none⟩) := by simpa using e51
         have g0 := (bcell hC).1 b1 1 hb1l
         rw [cb1] at g0
         exact flow_val (v := .slice (some ad) f1.length c2) (by go_simp; try rfl) (hI.read (by simp) hs (by omega))
       · have e6 : a.tmps.getD 6 undef = .int .i64 k := hI.rest 6 (by omega) (by decide) (by decide)
         have e6' : a.tmps[6]?.getD undef = .int .i64 k := by simpa using e6
         exact flow_val (v := .int .i64 k) (by go_simp; try rfl) (hI.read (by simp) hs (by omega))
       · have e52 : a.tmps.getD 52 undef = .slice (some ad) f1.length c2 := hI.val 1 (by omega) (hdeps ⟨1, .data⟩ (by simp) rfl)
         have e52' : a.tmps[52]?.getD undef = .slice (some ad) f1.length c2 := by simpa using e52
         have e53 : a.tmps.getD 53 undef = .int .i64 k := hI.val 2 (by omega) (hdeps ⟨2, .data⟩ (by simp) rfl)
         have e53' : a.tmps[53]?.getD undef = .int .i64 k := by simpa using e53
         have hx := hadd
         exact flow_val (v := .pointer (some ⟨bb, oo, none⟩)) (by go_simp; try rfl) (hI.read (by simp) hs (by omega))
       · have e54 : a.tmps.getD 54 undef = .pointer (some ⟨bb, oo, none⟩) := hI.val 3 (by omega) (hdeps ⟨3, .data⟩ (by simp) rfl)
         have e54' : a.tmps[54]?.getD undef = .pointer (some ⟨bb, oo, none⟩) := by simpa using e54
         have g0 := (bcell hC).1 bb (oo) hbr
         rw [q0] at g0
         have g1 := (bcell hC).1 bb (oo + 1) hbr
         rw [q1] at g1
         have g2 := (bcell hC).1 bb (oo + 2) hbr
         rw [q2] at g2
         have g3 := (bcell hC).1 bb (oo + 3) hbr
         rw [q3] at g3
         have g4 := (bcell hC).1 bb (oo + 4) hbr
         rw [q4] at g4
         have g5 := (bcell hC).1 bb (oo + 5) hbr
         rw [q5] at g5
         have g6 := (bcell hC).1 bb (oo + 6) hbr
         rw [q6] at g6
         exact flow_val (v := .agg #[.int .i64 mn, .slice A4 ml.length c4, .int .i64 m0, .bool m1, .int .i64 m2, .int .i64 m3, .int .i64 m4]) (by go_simp; try rfl) (hI.read (by simp) hs (by omega))
       · have e3 : a.tmps.getD 3 undef = .pointer (some ⟨b2, 0, none⟩) := hI.rest 3 (by omega) (by decide) (by decide)
         have e3' : a.tmps[3]?.getD undef = .pointer (some ⟨b2, 0, none⟩) := by simpa using e3
         exact flow_val (v := .pointer (some ⟨b2, 1, none⟩)) (by go_simp; try rfl) (hI.read (by simp) hs (by omega))
       · have e56 : a.tmps.getD 56 undef = .pointer (some ⟨b2, 1, none⟩) := hI.val 5 (by omega) (hdeps ⟨5, .data⟩ (by simp) rfl)
         have e56' : a.tmps[56]?.getD undef = .pointer (some ⟨b2, 1, none⟩) := by simpa using e56
         have g0 := (bcell hC).1 b2 1 hb2l
         rw [cb2] at g0
         exact flow_val (v := .slice (some ad2) f1.length c6) (by go_simp; try rfl) (hI.read (by simp) hs (by omega))
       · have e6 : a.tmps.getD 6 undef = .int .i64 k := hI.rest 6 (by omega) (by decide) (by decide)
         have e6' : a.tmps[6]?.getD undef = .int .i64 k := by simpa using e6
         exact flow_val (v := .int .i64 k) (by go_simp; try rfl) (hI.read (by simp) hs (by omega))
       · have e57 : a.tmps.getD 57 undef = .slice (some ad2) f1.length c6 := hI.val 6 (by omega) (hdeps ⟨6, .data⟩ (by simp) rfl)
         have e57' : a.tmps[57]?.getD undef = .slice (some ad2) f1.length c6 := by simpa using e57
         have e58 : a.tmps.getD 58 undef = .int .i64 k := hI.val 7 (by omega) (hdeps ⟨7, .data⟩ (by simp) rfl)
         have e58' : a.tmps[58]?.getD undef = .int .i64 k := by simpa using e58
         have hx := hadd2
         exact flow_val (v := .pointer (some ⟨bb2, oo2, none⟩)) (by go_simp; try rfl) (hI.read (by simp) hs (by omega))
       · have e59 : a.tmps.getD 59 undef = .pointer (some ⟨bb2, oo2, none⟩) := hI.val 8 (by omega) (hdeps ⟨8, .data⟩ (by simp) rfl)
         have e59' : a.tmps[59]?.getD undef = .pointer (some ⟨bb2, oo2, none⟩) := by simpa using e59
         have g0 := (bcell hC).1 bb2 (oo2) hbr2
         rw [p0] at g0
         have g1 := (bcell hC).1 bb2 (oo2 + 1) hbr2
         rw [p1] at g1
         have g2 := (bcell hC).1 bb2 (oo2 + 2) hbr2
         rw [p2] at g2
         have g3 := (bcell hC).1 bb2 (oo2 + 3) hbr2
         rw [p3] at g3
         have g4 := (bcell hC).1 bb2 (oo2 + 4) hbr2
         rw [p4] at g4
         have g5 := (bcell hC).1 bb2 (oo2 + 5) hbr2
         rw [p5] at g5
         have g6 := (bcell hC).1 bb2 (oo2 + 6) hbr2
         rw [p6] at g6
         exact flow_val (v := .agg #[.int .i64 nn, .slice A42 nl.length c42, .int .i64 n0, .bool n1, .int .i64 n2, .int .i64 n3, .int .i64 n4]) (by go_simp; try rfl) (hI.read (by simp) hs (by omega))
       · exact flow_new (v := .pointer (some ⟨w'.heap.size, 0, none⟩)) (w' := w'.alloc (.cells zTab.toArray 81)) (by go_simp; try rfl) (hI.new1 (by simp) hs hun)
       · exact flow_new (v := .pointer (some ⟨w'.heap.size, 0, none⟩)) (w' := w'.alloc (.cells zTab.toArray 81)) (by go_simp; try rfl) (hI.new2 (by simp) hs hun)
       · obtain ⟨p, q, h1, h2, h3⟩ := hI.al
         have hd10 := hdeps ⟨10, .data⟩ (by simp) rfl
         obtain ⟨e1, e2, e3⟩ := h1 hd10
         rw [hun, if_neg (by decide)] at e3
         have e55 : a.tmps.getD 55 undef = .agg #[.int .i64 mn, .slice A4 ml.length c4, .int .i64 m0, .bool m1, .int .i64 m2, .int .i64 m3, .int .i64 m4] := hI.val 4 (by omega) (hdeps ⟨4, .data⟩ (by simp) rfl)
         have e55' : a.tmps[55]?.getD undef = .agg #[.int .i64 mn, .slice A4 ml.length c4, .int .i64 m0, .bool m1, .int .i64 m2, .int .i64 m3, .int .i64 m4] := by simpa using e55
         have e1' : a.tmps[7]?.getD undef = .pointer (some ⟨p, 0, none⟩) := by simpa using e1
         have z0 := e3.cell 0
         have y0 := e3.free 0
         have z1 := e3.cell 1
         have y1 := e3.free 1
         have z2 := e3.cell 2
         have y2 := e3.free 2
         have z3 := e3.cell 3
         have y3 := e3.free 3
         have z4 := e3.cell 4
         have y4 := e3.free 4
         have z5 := e3.cell 5
         have y5 := e3.free 5
         have z6 := e3.cell 6
         have y6 := e3.free 6
         simp [zTab] at z0 z1 z2 z3 z4 z5 z6
         exact flow_skipA (w' := laid w' p 0 [.int .i64 mn, .slice A4 ml.length c4, .int .i64 m0, .bool m1, .int .i64 m2, .int .i64 m3, .int .i64 m4]) (by go_simp; try rfl) (hI.put1 hs hun hd10 rfl e1)
       · obtain ⟨p, q, h1, h2, h3⟩ := hI.al
         have hd10 := hdeps ⟨11, .data⟩ (by simp) rfl
         obtain ⟨e1, e2, e3⟩ := h2 hd10
         rw [hun, if_neg (by decide)] at e3
         have e60 : a.tmps.getD 60 undef = .agg #[.int .i64 nn, .slice A42 nl.length c42, .int .i64 n0, .bool n1, .int .i64 n2, .int .i64 n3, .int .i64 n4] := hI.val 9 (by omega) (hdeps ⟨9, .data⟩ (by simp) rfl)
         have e60' : a.tmps[60]?.getD undef = .agg #[.int .i64 nn, .slice A42 nl.length c42, .int .i64 n0, .bool n1, .int .i64 n2, .int .i64 n3, .int .i64 n4] := by simpa using e60
         have e1' : a.tmps[8]?.getD undef = .pointer (some ⟨q, 0, none⟩) := by simpa using e1
         have z0 := e3.cell 0
         have y0 := e3.free 0
         have z1 := e3.cell 1
         have y1 := e3.free 1
         have z2 := e3.cell 2
         have y2 := e3.free 2
         have z3 := e3.cell 3
         have y3 := e3.free 3
         have z4 := e3.cell 4
         have y4 := e3.free 4
         have z5 := e3.cell 5
         have y5 := e3.free 5
         have z6 := e3.cell 6
         have y6 := e3.free 6
         simp [zTab] at z0 z1 z2 z3 z4 z5 z6
         exact flow_skipA (w' := laid w' q 0 [.int .i64 nn, .slice A42 nl.length c42, .int .i64 n0, .bool n1, .int .i64 n2, .int .i64 n3, .int .i64 n4]) (by go_simp; try rfl) (hI.put2 hs hun hd10 rfl e1)
     intro s a w4 hall hI
     obtain ⟨t1, t2, ha, htt, hp1, hp2, hr1, hr2, hb4⟩ := hI.done (by simp) hall
     subst ha
     clear hI hall q0 q1 q2 q3 q4 q5 q6 p0 p1 p2 p3 p4 p5 p6
     simp only [putV, VS11]
     have HB4 := Lib.hid (HB.out.trans (hb4.mono HB.out.size))
     have HX4 := Lib.hid (HX0.out.below hb4)
     have HR1 := Lib.hid hr1
     have HR2 := Lib.hid hr2
     have k0 := hr1.cell 0
     have k1 := hr1.cell 1
     have k2 := hr1.cell 2
     have k3 := hr1.cell 3
     have k4 := hr1.cell 4
     have k5 := hr1.cell 5
     have k6 := hr1.cell 6
     have l0 := hr2.cell 0
     have l1 := hr2.cell 1
     have l2 := hr2.cell 2
     have l3 := hr2.cell 3
     have l4 := hr2.cell 4
     have l5 := hr2.cell 5
     have l6 := hr2.cell 6
     simp at k0 l0 k1 l1 k2 l2 k3 l3 k4 l4 k5 l5 k6 l6
     have ht1l := hr1.lt
     have ht2l := hr2.lt
     clear hb4 HX0 hr1 hr2
     by_cases hn : mn = nn
     case neg =>
      have hn2 : (mn == nn) = false := by simpa using hn
      have HX := Lib.hid (show eqWorld z1 z2 f1 f2 = false by rw [HE.out]; unfold eqTab; simp only; rw [hn2]; rfl)
      go_wp2_with fail
      go_ret
      exact ⟨by rw [HX.out]; rfl, HB4.out⟩
     subst hn
     have hnn : (mn == mn) = true := by simp
     cases hr : eqVal ⟨m0, m1, ⟨m2, m3⟩, m4⟩ ⟨n0, n1, ⟨n2, n3⟩, n4⟩
     case false =>
      have HX := Lib.hid (show eqWorld z1 z2 f1 f2 = false by rw [HE.out]; unfold eqTab; simp only; rw [hr, hnn]; rfl)
      have hr' := hr
      unfold eqVal at hr'
      simp only at hr'
      have hr2 : ¬ (m0 = n0 ∧ m1 = n1 ∧ (m2 = n2 ∧ m3 = n3) ∧ m4 = n4) := by rintro ⟨rfl, rfl, ⟨rfl, rfl⟩, rfl⟩; simp at hr'
      clear hr
      go_wp2_with fail
      go_ret
      exact ⟨by rw [HX.out]; rfl, HB4.out⟩
     have HEV := Lib.hid (show eqWorld z1 z2 f1 f2 = (listB eqRow ml nl && listB eqTab (f1.drop (k + 1)) (f2.drop (k + 1))) by rw [HE.out]; unfold eqTab; simp only; rw [hr, hnn]; rfl)
     have HEV2 := Lib.hid (show listB eqTab f1 f2 = (listB eqRow ml nl && listB eqTab (f1.drop (k + 1)) (f2.drop (k + 1))) by rw [HE2.out]; unfold eqTab; simp only; rw [hr, hnn]; rfl)
     have hr' := hr
     unfold eqVal at hr'
     simp only at hr'
     have hr2 : (m0 = n0 ∧ m1 = n1 ∧ (m2 = n2 ∧ m3 = n3) ∧ m4 = n4) := by simpa using hr'
     clear hr HE HE2
     by_cases hml : ml.length = nl.length
     case neg =>
      have hml' : ((ml.length : Int) != (nl.length : Int)) = true := by simp; omega
      have HX := Lib.hid (show eqWorld z1 z2 f1 f2 = false by rw [HEV.out, listB_len _ _ _ hml]; rfl)
      go_wp2_with fail
      go_ret
      exact ⟨by rw [HX.out]; rfl, HB4.out⟩
     have HML := Lib.hid hml
     rw [← hml] at HC42 HLE HR2 l1 ⊢
     have hml' : ((ml.length : Int) != (ml.length : Int)) = false := by simp
     clear hml
     go_wp2_with fail
     obtain ⟨rfl, rfl, ⟨rfl, rfl⟩, rfl⟩ := hr2
     clear hr' hnn
     have HR2' := Lib.hid HR2.out
     go_loopw [9] (fun vi wr => ∃ j : Nat, vi = .int .i64 j ∧ j ≤ ml.length ∧ Hid (Below w.heap.size w wr ∧ SBox wr b1 b2 (.slice A1 z1.length c1) (.slice (some ad) f1.length c2) (.slice A3 z1.length c3) (.slice (some ad2) f1.length c6) ∧ RowB wr t1 81 [.int .i64 mn, .slice A4 ml.length c4, .int .i64 m0, .bool m1, .int .i64 m2, .int .i64 m3, .int .i64 m4] ∧ RowB wr t2 81 [.int .i64 mn, .slice A42 ml.length c42, .int .i64 m0, .bool m1, .int .i64 m2, .int .i64 m3, .int .i64 m4] ∧ listB eqRow ml nl = listB eqRow (ml.drop j) (nl.drop j))) (fun vi _ => ml.length - (intOf vi).toNat)
     case atStart => exact ⟨0, rfl, by omega, Lib.hid ⟨HB4.out, HX4.out, HR1.out, HR2.out, rfl⟩⟩
     case round =>
      clear HB4 HX4 HR1 HR2 HR2' k0 k1 k2 k3 k4 k5 k6 l0 l1 l2 l3 l4 l5 l6 ht1l ht2l
      obtain ⟨j, rfl, hj, hh⟩ := hrel
      have HB := Lib.hid hh.out.1
      have HX0 := Lib.hid hh.out.2.1
      have HR1 := Lib.hid hh.out.2.2.1
      have HR2 := Lib.hid hh.out.2.2.2.1
      have HQ := Lib.hid hh.out.2.2.2.2
      have ct1 : wr.cell? ⟨t1, 1, none⟩ = some (.slice A4 ml.length c4) := HR1.out.cell 1
      have ct2 : wr.cell? ⟨t2, 1, none⟩ = some (.slice A42 ml.length c42) := HR2.out.cell 1
      have ht1l := HR1.out.lt
      have ht2l := HR2.out.lt
      clear hh
      have hmlx : ml.length ≤ maxLen := HSx.out.1
      by_cases hjl : j < ml.length
      case neg =>
       have hjl' : ¬ (j : Int) < ml.length := by omega
       have HX := Lib.hid (show listB eqTab f1 f2 = listB eqTab (f1.drop (k + 1)) (f2.drop (k + 1)) by rw [HEV2.out, HQ.out, List.drop_of_length_le (by omega), List.drop_of_length_le (by have := HML.out; omega)]; rfl)
       go_wp2_with fail
       go_roundw
       case rel => exact ⟨k + 1, by go_num, by omega, Lib.hid ⟨HB.out, HX0.out, HX.out⟩⟩
       case measure => simp [intOf]; omega
      case pos =>
       have hjl' : (j : Int) < ml.length := by omega
       have hj2 : j < nl.length := by have := HML.out; omega
       have HE := Lib.hid (show listB eqRow ml nl = (eqRow (ml.getD j z84) (nl.getD j z84) && listB eqRow (ml.drop (j + 1)) (nl.drop (j + 1))) by rw [HQ.out]; exact listB_step eqRow ml nl _ _ j hjl hj2)
       have HSy := Lib.hid (HSx.out.2 (ml.getD j z84) (by rw [show ml.getD j z84 = ml[j] by simp [hjl]]; exact List.getElem_mem hjl))
       obtain ⟨ad, bb, oo, cs, hA, hadd, hK, hc, hbl⟩ := cells_at z84 HC4.out j hjl (by decide)
       subst hA
       obtain ⟨A5, c5, rfl, hle5, hC5⟩ := k84_open hK
       replace hadd : ad.add (j * 6) = ⟨bb, oo, none⟩ := hadd
       obtain ⟨ad2, bb2, oo2, cs2, hA2, hadd2, hK2, hc2, hbl2⟩ := cells_at z84 (show k84.C w A42 nl.length nl by rw [← HML.out]; exact HC42.out) j hj2 (by decide)
       subst hA2
       obtain ⟨A52, c52, rfl, hle52, hC52⟩ := k84_open hK2
       replace hadd2 : ad2.add (j * 6) = ⟨bb2, oo2, none⟩ := hadd2
       have HO0 := Lib.hid (fun w' (hb : Below wr.heap.size wr w') => sameRow_any w' (ml.getD j z84) (nl.getD j z84) HSy.out A5 c5 (Kd.C_below (Kd.C_below hC5 HB.out) hb) A52 c52 (Kd.C_below (Kd.C_below hC52 HB.out) hb))
       clear hC5 hC52 hle5 hle52 HSy
       generalize ml.getD j z84 = x at *
       generalize nl.getD j z84 = y at *
       obtain ⟨ans, hans⟩ : ∃ b, eqRow x y = b := ⟨_, rfl⟩
       rw [hans] at HE
       obtain ⟨xl, ⟨x0, x1, ⟨x2, x3⟩, x4⟩⟩ := x
       obtain ⟨yl, ⟨y0, y1, ⟨y2, y3⟩, y4⟩⟩ := y
       simp only at hc hc2
       have HO := Lib.hid (fun w' (hb : Below wr.heap.size wr w') => (HO0.out w' hb).mono (R' := fun e w'' => e = .returned (.bool ans) ∧ Below w'.heap.size w' w'') (fun e w'' h => by rw [hans] at h; exact h))
       clear HO0 hans
       have hcc := (bcell HB.out).1
       have q0 : wr.cell? ⟨bb, oo, none⟩ = some (.slice A5 xl.length c5) := (hcc bb _ hbl).trans (by have := hc 0 _ rfl; simpa using this)
       have q1 : wr.cell? ⟨bb, oo + 1, none⟩ = some (.int .i64 x0) := (hcc bb _ hbl).trans (hc 1 _ rfl)
       have q2 : wr.cell? ⟨bb, oo + 2, none⟩ = some (.bool x1) := (hcc bb _ hbl).trans (hc 2 _ rfl)
       have q3 : wr.cell? ⟨bb, oo + 3, none⟩ = some (.int .i64 x2) := (hcc bb _ hbl).trans (hc 3 _ rfl)
       have q4 : wr.cell? ⟨bb, oo + 4, none⟩ = some (.int .i64 x3) := (hcc bb _ hbl).trans (hc 4 _ rfl)
       have q5 : wr.cell? ⟨bb, oo + 5, none⟩ = some (.int .i64 x4) := (hcc bb _ hbl).trans (hc 5 _ rfl)
       have p0 : wr.cell? ⟨bb2, oo2, none⟩ = some (.slice A52 yl.length c52) := (hcc bb2 _ hbl2).trans (by have := hc2 0 _ rfl; simpa using this)
       have p1 : wr.cell? ⟨bb2, oo2 + 1, none⟩ = some (.int .i64 y0) := (hcc bb2 _ hbl2).trans (hc2 1 _ rfl)
       have p2 : wr.cell? ⟨bb2, oo2 + 2, none⟩ = some (.bool y1) := (hcc bb2 _ hbl2).trans (hc2 2 _ rfl)
       have p3 : wr.cell? ⟨bb2, oo2 + 3, none⟩ = some (.int .i64 y2) := (hcc bb2 _ hbl2).trans (hc2 3 _ rfl)
       have p4 : wr.cell? ⟨bb2, oo2 + 4, none⟩ = some (.int .i64 y3) := (hcc bb2 _ hbl2).trans (hc2 4 _ rfl)
       have p5 : wr.cell? ⟨bb2, oo2 + 5, none⟩ = some (.int .i64 y4) := (hcc bb2 _ hbl2).trans (hc2 5 _ rfl)
       have hbr : bb < wr.heap.size := Nat.lt_of_lt_of_le hbl HB.out.size
       have hbr2 : bb2 < wr.heap.size := Nat.lt_of_lt_of_le hbl2 HB.out.size
       clear hK hK2 hc hc2 hcc HQ hj2 hbl hbl2
       go_wp2_with fail
       refine wp_region_flow3 11 (by kernel_rfl) (by kernel_rfl) ?_ (fun iz _ v => (ZS17 t1 t2 ad ad2 ml.length c4 c42 j bb oo bb2 oo2 (.agg #[.slice A5 xl.length c5, .int .i64 x0, .bool x1, .int .i64 x2, .int .i64 x3, .int .i64 x4]) (.agg #[.slice A52 yl.length c52, .int .i64 y0, .bool y1, .int .i64 y2, .int .i64 y3, .int .i64 y4]) ans) iz v) (fun w' => Below wr.heap.size wr w') (Below.drew (Below.refl _ wr)) ?_ ?_
       · intro i o' d hi ho hd
         have : i = 0 ∨ i = 1 ∨ i = 2 ∨ i = 3 ∨ i = 4 ∨ i = 5 ∨ i = 6 ∨ i = 7 ∨ i = 8 ∨ i = 9 ∨ i = 10 := by omega
         rcases this with rfl | rfl | rfl | rfl | rfl | rfl | rfl | rfl | rfl | rfl | rfl <;> (simp at ho; subst ho; simp at hd; subst hd; simp)
       · intro i o' hi ho
         have : i = 0 ∨ i = 1 ∨ i = 2 ∨ i = 3 ∨ i = 4 ∨ i = 5 ∨ i = 6 ∨ i = 7 ∨ i = 8 ∨ i = 9 ∨ i = 10 := by omega
         rcases this with rfl | rfl | rfl | rfl | rfl | rfl | rfl | rfl | rfl | rfl | rfl <;> (simp at ho; subst ho; intro a w' hC hd hr)
         · rw [if_pos (by rfl)]; have e7 : a.tmps[7]?.getD undef = .pointer (some ⟨t1, 0, none⟩) := gd (hr 7 (free_of (by rfl))); exact flow_val (by go_simp; try rfl) ⟨rfl, hC, fun _ _ _ h => h⟩
         · rw [if_pos (by rfl)]; have e89 : a.tmps[89]?.getD undef = .pointer (some ⟨t1, 1, none⟩) := gd (hd ⟨0, .data⟩ (by simp) rfl _ _ rfl rfl); have g0 := bget hC ct1 ht1l; exact flow_val (by go_simp; try rfl) ⟨rfl, hC, fun _ _ _ h => h⟩
         · rw [if_pos (by rfl)]; have e9 : a.tmps[9]?.getD undef = .int .i64 j := gd (hr 9 (free_of (by rfl))); exact flow_val (by go_simp; try rfl) ⟨rfl, hC, fun _ _ _ h => h⟩
         · rw [if_pos (by rfl)]; have e90 : a.tmps[90]?.getD undef = .slice (some ad) ml.length c4 := gd (hd ⟨1, .data⟩ (by simp) rfl _ _ rfl rfl); have e91 : a.tmps[91]?.getD undef = .int .i64 j := gd (hd ⟨2, .data⟩ (by simp) rfl _ _ rfl rfl); have hx := hadd; exact flow_val (by go_simp; try rfl) ⟨rfl, hC, fun _ _ _ h => h⟩
         · rw [if_pos (by rfl)]; have e92 : a.tmps[92]?.getD undef = .pointer (some ⟨bb, oo, none⟩) := gd (hd ⟨3, .data⟩ (by simp) rfl _ _ rfl rfl); have g0 := bget hC q0 hbr; have g1 := bget hC q1 hbr; have g2 := bget hC q2 hbr; have g3 := bget hC q3 hbr; have g4 := bget hC q4 hbr; have g5 := bget hC q5 hbr; exact flow_val (by go_simp; try rfl) ⟨rfl, hC, fun _ _ _ h => h⟩
         · rw [if_pos (by rfl)]; have e8 : a.tmps[8]?.getD undef = .pointer (some ⟨t2, 0, none⟩) := gd (hr 8 (free_of (by rfl))); exact flow_val (by go_simp; try rfl) ⟨rfl, hC, fun _ _ _ h => h⟩
         · rw [if_pos (by rfl)]; have e94 : a.tmps[94]?.getD undef = .pointer (some ⟨t2, 1, none⟩) := gd (hd ⟨5, .data⟩ (by simp) rfl _ _ rfl rfl); have g0 := bget hC ct2 ht2l; exact flow_val (by go_simp; try rfl) ⟨rfl, hC, fun _ _ _ h => h⟩
         · rw [if_pos (by rfl)]; have e9 : a.tmps[9]?.getD undef = .int .i64 j := gd (hr 9 (free_of (by rfl))); exact flow_val (by go_simp; try rfl) ⟨rfl, hC, fun _ _ _ h => h⟩
         · rw [if_pos (by rfl)]; have e95 : a.tmps[95]?.getD undef = .slice (some ad2) ml.length c42 := gd (hd ⟨6, .data⟩ (by simp) rfl _ _ rfl rfl); have e96 : a.tmps[96]?.getD undef = .int .i64 j := gd (hd ⟨7, .data⟩ (by simp) rfl _ _ rfl rfl); have hx := hadd2; exact flow_val (by go_simp; try rfl) ⟨rfl, hC, fun _ _ _ h => h⟩
         · rw [if_pos (by rfl)]; have e97 : a.tmps[97]?.getD undef = .pointer (some ⟨bb2, oo2, none⟩) := gd (hd ⟨8, .data⟩ (by simp) rfl _ _ rfl rfl); have g0 := bget hC p0 hbr2; have g1 := bget hC p1 hbr2; have g2 := bget hC p2 hbr2; have g3 := bget hC p3 hbr2; have g4 := bget hC p4 hbr2; have g5 := bget hC p5 hbr2; exact flow_val (by go_simp; try rfl) ⟨rfl, hC, fun _ _ _ h => h⟩
         · rw [if_pos (by rfl)]; have e93 : a.tmps[93]?.getD undef = .agg #[.slice A5 xl.length c5, .int .i64 x0, .bool x1, .int .i64 x2, .int .i64 x3, .int .i64 x4] := gd (hd ⟨4, .data⟩ (by simp) rfl _ _ rfl rfl); have e98 : a.tmps[98]?.getD undef = .agg #[.slice A52 yl.length c52, .int .i64 y0, .bool y1, .int .i64 y2, .int .i64 y3, .int .i64 y4] := gd (hd ⟨9, .data⟩ (by simp) rfl _ _ rfl rfl); exact flow_call (by go_simp) ((HO.out w' hC).mono fun e w'' ⟨he, hb⟩ => ⟨_, he, rfl, hC.trans (hb.mono hC.size), fun _ _ _ h => h⟩)
       intro vs' w4 hb4 hZ
       have v10 : vs' 10 = .bool ans := hZ 10 _ _ (by omega) rfl rfl
       clear hZ ct1 ct2 q0 q1 q2 q3 q4 q5 p0 p1 p2 p3 p4 p5
       simp only [List.drop_succ_cons, List.drop_zero, List.take_succ_cons, List.take_zero, putAll, v10]
       have HB5 := Lib.hid (HB.out.trans (hb4.mono HB.out.size))
       have HX5 := Lib.hid (HX0.out.below hb4)
       have HR1' := Lib.hid (RowB.kept (S := fun _ => False) HR1.out (Ch.ofBelow hb4) (fun e => e))
       have HR2' := Lib.hid (RowB.kept (S := fun _ => False) HR2.out (Ch.ofBelow hb4) (fun e => e))
       clear hb4 HX0 HR1 HR2 HO
       cases ans
       · have HX := Lib.hid (show eqWorld z1 z2 f1 f2 = false by rw [HEV.out, HE.out]; rfl)
         go_wp2_with fail
         go_ret
         exact ⟨by rw [HX.out]; rfl, HB5.out⟩
       · have HX := Lib.hid (show listB eqRow ml nl = listB eqRow (ml.drop (j + 1)) (nl.drop (j + 1)) by rw [HE.out]; rfl)
         go_wp2_with fail
         go_roundw
         case rel => exact ⟨j + 1, by go_num, by omega, Lib.hid ⟨HB5.out, HX5.out, HR1'.out, HR2'.out, HX.out⟩⟩
         case measure => simp [intOf]; omega
end Go.Proofs.YtendekbckfpmgaaGreat
namespace Go.Proofs.YtendekbckfpmgaaGreat
open Go Go.RowKit Go.Proofs.YtendekbckfpmgaaGreatW.PrintWords Go.Proofs.YtendekbckfpmgaaGreat.PWorldMay
def defSum : List S119 → Nat
 | [] => 0
 | x :: r => x.f0.size + 8 * x.f2.f1.length + defSum r
theorem defSum_append : ∀ (a b : List S119), defSum (a ++ b) = defSum a + defSum b
 | [], b => by simp [defSum]
 | x :: r, b => by simp [defSum, defSum_append r b]; omega
theorem defSum_mem : ∀ (l : List S119) (x : S119), x ∈ l → x.f0.size + 8 * x.f2.f1.length ≤ defSum l
 | y :: r, x, h => by
  rcases List.mem_cons.1 h with rfl | h
  · simp [defSum]
  · have := defSum_mem r x h
    simp [defSum]; omega
theorem defSum_le : ∀ (l : List S119), (∀ x ∈ l, x.f0.size ≤ 1048576 ∧ x.f2.f1.length ≤ 1048576) → defSum l ≤ l.length * 9437184
 | [], _ => by simp [defSum]
 | x :: r, h => by
  have h1 := h x (by simp)
  have h2 := defSum_le r (fun y hy => h y (by simp [hy]))
  simp [defSum]; omega
def ZK5 (ad : Addr) (l c0 k n bb oo : Nat) (nm : ByteArray) (ln : Nat) (A4 : Option Addr) (c4 : Nat) : Nat → Value → Prop
 | 0, v => v = .int .i64 n
 | 1, v => v = .slice (some ad) l c0
 | 2, v => v = .int .i64 k
 | 3, v => v = .pointer (some ⟨bb, oo, none⟩)
 | 4, v => v = .pointer (some ⟨bb, oo, none⟩)
 | 5, v => v = .string nm
 | 6, v => v = .int .i64 (nm.size : Int)
 | 7, v => v = .int .i64 (IntKind.i64.wrap ((n : Int) + (nm.size : Int)))
 | 8, v => v = .slice (some ad) l c0
 | 9, v => v = .int .i64 k
 | 10, v => v = .pointer (some ⟨bb, oo, none⟩)
 | 11, v => v = .pointer (some ⟨bb, oo + 2, none⟩)
 | 12, v => v = .pointer (some ⟨bb, oo + 3, none⟩)
 | 13, v => v = .slice A4 ln c4
 | 14, v => v = .int .i64 (ln : Int)
 | 15, v => v = .int .i64 (IntKind.i64.wrap (8 * (ln : Int)))
 | _, v => v = .int .i64 (IntKind.i64.wrap (IntKind.i64.wrap ((n : Int) + (nm.size : Int)) + IntKind.i64.wrap (8 * (ln : Int))))
theorem wrap_sum2 (n s c : Nat) (hn : n ≤ 41 * 9437184) (h1 : s ≤ bN) (h2 : c ≤ bN) : IntKind.i64.wrap (IntKind.i64.wrap ((n : Int) + (s : Int)) + IntKind.i64.wrap (8 * (c : Int))) = ((n + (s + 8 * c) : Nat) : Int) := by
 have hbN : bN = 1048576 := rfl
 have e1 : IntKind.i64.wrap ((n : Int) + (s : Int)) = (n : Int) + s := IntWalk.i64_in _ (by constructor <;> omega)
 have e2 : IntKind.i64.wrap (8 * (c : Int)) = 8 * (c : Int) := IntWalk.i64_in _ (by constructor <;> omega)
 rw [e1, e2, IntWalk.i64_in _ (by constructor <;> omega)]
 omega
set_option maxRecDepth 100000 in
set_option maxHeartbeats 1000000 in
theorem rsize_any {w : World} {A1 : Option Addr} {c1 : Nat} {z : List S78} {A2 : Option Addr} {c2 : Nat} {f : List S81} (hw : WorldC w A1 c1 z A2 c2 f) (hin : WorldIn z f) :
 Calls Tryz.prog 45 #[.agg #[.slice A1 z.length c1, .slice A2 f.length c2]] w fun e w' => (∃ r : Int, e = .returned (.int .i64 r)) ∧ Below w.heap.size w w' := by
 have hzl : z.length ≤ bN := hin.1.1
 have hfl : f.length ≤ bN := hin.2.1
 have hbN : bN = 1048576 := rfl
 have HW := Lib.hid hw
 have HI := Lib.hid hin
 clear hw hin
 have HR := Lib.hid (RowB.new w [.slice A1 z.length c1, .slice A2 f.length c2] 37)
 have HB := Lib.hid (show Below w.heap.size w (w.alloc (.cells #[.slice A1 z.length c1, .slice A2 f.length c2] 37)) from (Below.refl _ w).alloc (Nat.le_refl _) _)
 go_enter Tryz.func45, Tryz.ntmps45
 go_wp2_with fail
 have hrw : RowB (w.alloc (.cells #[.slice A1 z.length c1, .slice A2 f.length c2] 37)) w.heap.size 37 [.slice A1 z.length c1, .slice A2 f.length c2] := HR.out
 clear HR
 generalize w.alloc (.cells #[.slice A1 z.length c1, .slice A2 f.length c2] 37) = w1 at *
 generalize hwb : w.heap.size = wb at hrw ⊢
 have HWB := Lib.hid hwb
 have h1 : w1.cell? ⟨wb, 1, none⟩ = some (.slice A2 f.length c2) := hrw.cell 1
 clear hwb hrw
 go_loopw [3, 4] (fun vn vi wr => ∃ (y : Int) (k : Nat), vn = .int .i64 y ∧ vi = .int .i64 k ∧ k ≤ f.length ∧ wr = w1) (fun _ vi _ => f.length - (intOf vi).toNat)
 case atStart => exact ⟨_, 0, rfl, rfl, by omega, rfl⟩
 case round =>
  obtain ⟨y, k, rfl, rfl, hk, rfl⟩ := hrel
  by_cases hkl : k < f.length
  case neg =>
   have hkl' : ¬ (k : Int) < f.length := by omega
   go_wp2_with fail
   go_ret
   exact ⟨⟨_, rfl⟩, HB.out⟩
  case pos =>
   have hkl' : (k : Int) < f.length := by omega
   obtain ⟨ad, bb, oo, cs, hA, hadd, hK, hc, hbl⟩ := cells_at z81 HW.out.hf k hkl (by decide)
   subst hA
   obtain ⟨A4, c4, rfl, hle4, hC4⟩ := k81_open hK
   replace hadd : ad.add (k * 7) = ⟨bb, oo, none⟩ := hadd
   have hrl := (HI.out.2.2 (f.getD k z81) (by rw [List.getD_eq_getElem?_getD, List.getElem?_eq_getElem hkl]; exact List.getElem_mem _)).2.1.1
   generalize (f.getD k z81) = t at *
   obtain ⟨tn, rows, te⟩ := t
   simp only at hc hC4 hle4 hrl
   have q1 : wr.cell? ⟨bb, oo + 1, none⟩ = some (.slice A4 rows.length c4) := ((bcell HB.out).1 bb _ hbl).trans (hc 1 _ rfl)
   have HC4 := Lib.hid hC4
   clear hK hc hC4 hle4
   go_wp2_with fail
   go_loopw [3, 5] (fun vn vj w' => ∃ (y : Int) (j : Nat), vn = .int .i64 y ∧ vj = .int .i64 j ∧ j ≤ rows.length ∧ w' = wr) (fun _ vj _ => rows.length - (intOf vj).toNat)
   case atStart => exact ⟨_, 0, rfl, rfl, by omega, rfl⟩
   case round =>
    obtain ⟨y, j, rfl, rfl, hj, rfl⟩ := hrel
    by_cases hjl : j < rows.length
    case neg =>
     have hjl' : ¬ (j : Int) < rows.length := by omega
     go_wp2_with fail
     go_roundw
     case rel => exact ⟨_, k + 1, rfl, by go_num, by omega, by first | rfl | trivial⟩
     case measure => simp [intOf]; omega
    case pos =>
     have hjl' : (j : Int) < rows.length := by omega
     obtain ⟨ad5, b5, o5, cs5, hA5, hadd5, hK5, hc5, hbl5⟩ := cells_at z84 HC4.out j hjl (by decide)
     subst hA5
     obtain ⟨A6, c6, rfl, hle6, hC6⟩ := k84_open hK5
     replace hadd5 : ad5.add (j * 6) = ⟨b5, o5, none⟩ := hadd5
     have q5 := ((bcell HB.out).1 b5 _ hbl5).trans (hc5 0 _ rfl)
     rw [Nat.add_zero] at q5
     clear hK5 hc5 hC6 hle6
     go_wp2_with fail
     go_roundw
     case rel => exact ⟨_, j + 1, rfl, by go_num, by omega, by first | rfl | trivial⟩
     case measure => simp [intOf]; omega
def TameR (w : World) (l : List S119) (e : Ending) (w' : World) : Prop :=
 (∃ b : Bool, e = .returned (.bool b) ∧ (b = true → l.length ≤ 40 ∧ ∀ x ∈ l, x.f0.size + 8 * x.f2.f1.length ≤ 4000)) ∧ Below w.heap.size w w'
set_option maxRecDepth 100000 in
set_option maxHeartbeats 1000000 in
theorem rtame_any {w : World} (A0 : Option Addr) (c0 : Nat) (l : List S119) (hl : k119.C w A0 l.length l) (hll : l.length ≤ bN) (hd : ∀ x ∈ l, x.f0.size ≤ bN ∧ x.f2.f1.length ≤ bN) {A1 : Option Addr} {c1 : Nat} {z : List S78} {A2 : Option Addr} {c2 : Nat} {f : List S81} (hw : WorldC w A1 c1 z A2 c2 f) (hin : WorldIn z f) :
 Calls Tryz.prog 14 #[.slice A0 l.length c0, .slice none 0 0, .agg #[.slice A1 z.length c1, .slice A2 f.length c2]] w (TameR w l) := by
 have hfl : f.length ≤ bN := hin.2.1
 have hbN : bN = 1048576 := rfl
 have HL := Lib.hid hl
 have HD := Lib.hid hd
 have HSZ := Lib.hid (fun W (hb : Below w.heap.size w W) => rsize_any (hw.below hb) hin)
 clear hw hin hl hd
 have hrw : RowB (w.alloc (.cells #[.slice A1 z.length c1, .slice A2 f.length c2] 37)) w.heap.size 37 [.slice A1 z.length c1, .slice A2 f.length c2] := RowB.new w [.slice A1 z.length c1, .slice A2 f.length c2] 37
 have HR := Lib.hid hrw
 have HB := Lib.hid (show Below w.heap.size w (w.alloc (.cells #[.slice A1 z.length c1, .slice A2 f.length c2] 37)) from (Below.refl _ w).alloc (Nat.le_refl _) _)
 clear hrw
 go_enter Tryz.func14, Tryz.ntmps14
 go_wp2_with fail
 generalize w.alloc (.cells #[.slice A1 z.length c1, .slice A2 f.length c2] 37) = w1 at *
 generalize hwb : w.heap.size = wb at HR ⊢
 have HWB := Lib.hid hwb
 clear hwb
 go_loopw [7, 8] (fun vn vi wr => ∃ n k : Nat, vn = .int .i64 n ∧ vi = .int .i64 k ∧ k ≤ l.length ∧ k ≤ 41 ∧ Hid (Below w1.heap.size w1 wr ∧ n = defSum (l.take k))) (fun _ vi _ => l.length - (intOf vi).toNat)
 case atStart => exact ⟨0, 0, rfl, rfl, by omega, by omega, Lib.hid ⟨Below.refl _ _, rfl⟩⟩
 case round =>
  obtain ⟨n, k, rfl, rfl, hk, hk41, hh⟩ := hrel
  have HB1 := Lib.hid hh.out.1
  have HN := Lib.hid hh.out.2
  have HBW := Lib.hid (HB.out.trans (hh.out.1.mono HB.out.size))
  have hrw := HR.out.kept (S := fun _ => False) (Ch.ofBelow hh.out.1) (fun e => e)
  have HRW := Lib.hid hrw
  clear hh
  by_cases hkl : k < l.length ∧ k < 41
  case pos =>
   obtain ⟨hkl, hk4⟩ := hkl
   have hkl' : (k : Int) < l.length := by omega
   have hk4' : (k : Int) < 41 := by omega
   obtain ⟨ad, bb, oo, cs, hA, hadd, hK, hc, hbl2⟩ := cells_at z119 HL.out k hkl (by decide)
   subst hA
   obtain ⟨A4, c4, rfl, hle4, hC4⟩ := k119_open hK
   replace hadd : ad.add (k * 6) = ⟨bb, oo, none⟩ := hadd
   have hin := HD.out (l.getD k z119) (by rw [List.getD_eq_getElem?_getD, List.getElem?_eq_getElem hkl]; exact List.getElem_mem _)
   have htk : l.take (k + 1) = l.take k ++ [l.getD k z119] := by rw [List.take_add_one]; simp [hkl]
   have hds : defSum (l.take (k + 1)) = n + ((l.getD k z119).f0.size + 8 * (l.getD k z119).f2.f1.length) := by rw [htk, defSum_append, HN.out]; simp [defSum]
   have hn : n ≤ k * 9437184 := by
    rw [HN.out]
    have h1 := defSum_le (l.take k) (fun x hx => HD.out x (List.mem_of_mem_take hx))
    have h2 : (l.take k).length ≤ k := by rw [List.length_take]; exact Nat.min_le_left _ _
    exact Nat.le_trans h1 (Nat.mul_le_mul_right _ h2)
   generalize l.getD k z119 = v at *
   obtain ⟨nm, isS, ⟨fn, la, rs, df⟩⟩ := v
   simp only at hc hC4 hle4 hin hds
   have q0 : wr.cell? ⟨bb, oo, none⟩ = some (.string nm) := ((bcell HBW.out).1 bb _ hbl2).trans (by have := hc 0 _ rfl; simpa using this)
   have q3 : wr.cell? ⟨bb, oo + 3, none⟩ = some (.slice A4 la.length c4) := ((bcell HBW.out).1 bb _ hbl2).trans (hc 3 _ rfl)
   have hbr : bb < wr.heap.size := Nat.lt_of_lt_of_le hbl2 HBW.out.size
   obtain ⟨h1, h2⟩ := hin
   have hm : n ≤ 41 * 9437184 := Nat.le_trans hn (Nat.mul_le_mul_right _ (by omega))
   have hsum : IntKind.i64.wrap (IntKind.i64.wrap ((n : Int) + (nm.size : Int)) + IntKind.i64.wrap (8 * (la.length : Int))) = ((n + (nm.size + 8 * la.length) : Nat) : Int) := wrap_sum2 n nm.size la.length hm h1 h2
   have HS := Lib.hid hsum
   have HDS := Lib.hid hds
   clear hK hc hC4 hle4 htk hds hsum hn hm h1 h2 hrw
   go_wp2_with fail
   refine wp_region_flow3 17 (by kernel_rfl) (by kernel_rfl) ?_ (fun iz _ v => (ZK5 ad l.length c0 k n bb oo nm la.length A4 c4) iz v) (fun w' => Below wr.heap.size wr w') (Below.drew (Below.refl _ wr)) ?_ ?_
   · intro i o' d hi ho hd
     have : i = 0 ∨ i = 1 ∨ i = 2 ∨ i = 3 ∨ i = 4 ∨ i = 5 ∨ i = 6 ∨ i = 7 ∨ i = 8 ∨ i = 9 ∨ i = 10 ∨ i = 11 ∨ i = 12 ∨ i = 13 ∨ i = 14 ∨ i = 15 ∨ i = 16 := by omega
     rcases this with rfl | rfl | rfl | rfl | rfl | rfl | rfl | rfl | rfl | rfl | rfl | rfl | rfl | rfl | rfl | rfl | rfl <;> (simp at ho; subst ho; simp at hd; subst hd; simp)
   · intro i o' hi ho
     have : i = 0 ∨ i = 1 ∨ i = 2 ∨ i = 3 ∨ i = 4 ∨ i = 5 ∨ i = 6 ∨ i = 7 ∨ i = 8 ∨ i = 9 ∨ i = 10 ∨ i = 11 ∨ i = 12 ∨ i = 13 ∨ i = 14 ∨ i = 15 ∨ i = 16 := by omega
     rcases this with rfl | rfl | rfl | rfl | rfl | rfl | rfl | rfl | rfl | rfl | rfl | rfl | rfl | rfl | rfl | rfl | rfl <;> (simp at ho; subst ho; intro a w' hC hd hr)
     · rw [if_pos (by rfl)]; have e7 : a.tmps[7]?.getD undef = .int .i64 n := gd (hr 7 (free_of (by rfl))); exact flow_val (by go_simp; try rfl) ⟨rfl, hC, fun _ _ _ h => h⟩
     · rw [if_pos (by rfl)]; have e0 : a.tmps[0]?.getD undef = .slice (some ad) l.length c0 := gd (hr 0 (free_of (by rfl))); exact flow_val (by go_simp; try rfl) ⟨rfl, hC, fun _ _ _ h => h⟩
     · rw [if_pos (by rfl)]; have e8 : a.tmps[8]?.getD undef = .int .i64 k := gd (hr 8 (free_of (by rfl))); exact flow_val (by go_simp; try rfl) ⟨rfl, hC, fun _ _ _ h => h⟩
     · rw [if_pos (by rfl)]; have e21 : a.tmps[21]?.getD undef = .slice (some ad) l.length c0 := gd (hd ⟨1, .data⟩ (by simp) rfl _ _ rfl rfl); have e22 : a.tmps[22]?.getD undef = .int .i64 k := gd (hd ⟨2, .data⟩ (by simp) rfl _ _ rfl rfl); have hx := hadd; exact flow_val (by go_simp; try rfl) ⟨rfl, hC, fun _ _ _ h => h⟩
     · rw [if_pos (by rfl)]; have e23 : a.tmps[23]?.getD undef = .pointer (some ⟨bb, oo, none⟩) := gd (hd ⟨3, .data⟩ (by simp) rfl _ _ rfl rfl); exact flow_val (by go_simp; try rfl) ⟨rfl, hC, fun _ _ _ h => h⟩
     · rw [if_pos (by rfl)]; have e24 : a.tmps[24]?.getD undef = .pointer (some ⟨bb, oo, none⟩) := gd (hd ⟨4, .data⟩ (by simp) rfl _ _ rfl rfl); have g0 := bget hC q0 hbr; exact flow_val (by go_simp; try rfl) ⟨rfl, hC, fun _ _ _ h => h⟩
     · rw [if_pos (by rfl)]; have e25 : a.tmps[25]?.getD undef = .string nm := gd (hd ⟨5, .data⟩ (by simp) rfl _ _ rfl rfl); exact flow_val (by go_simp; try rfl) ⟨rfl, hC, fun _ _ _ h => h⟩
     · rw [if_pos (by rfl)]; have e20 : a.tmps[20]?.getD undef = .int .i64 n := gd (hd ⟨0, .data⟩ (by simp) rfl _ _ rfl rfl); have e26 : a.tmps[26]?.getD undef = .int .i64 (nm.size : Int) := gd (hd ⟨6, .data⟩ (by simp) rfl _ _ rfl rfl); exact flow_val (by go_simp; try rfl) ⟨rfl, hC, fun _ _ _ h => h⟩
     · rw [if_pos (by rfl)]; have e0 : a.tmps[0]?.getD undef = .slice (some ad) l.length c0 := gd (hr 0 (free_of (by rfl))); exact flow_val (by go_simp; try rfl) ⟨rfl, hC, fun _ _ _ h => h⟩
     · rw [if_pos (by rfl)]; have e8 : a.tmps[8]?.getD undef = .int .i64 k := gd (hr 8 (free_of (by rfl))); exact flow_val (by go_simp; try rfl) ⟨rfl, hC, fun _ _ _ h => h⟩
     · rw [if_pos (by rfl)]; have e28 : a.tmps[28]?.getD undef = .slice (some ad) l.length c0 := gd (hd ⟨8, .data⟩ (by simp) rfl _ _ rfl rfl); have e29 : a.tmps[29]?.getD undef = .int .i64 k := gd (hd ⟨9, .data⟩ (by simp) rfl _ _ rfl rfl); have hx := hadd; exact flow_val (by go_simp; try rfl) ⟨rfl, hC, fun _ _ _ h => h⟩
     · rw [if_pos (by rfl)]; have e30 : a.tmps[30]?.getD undef = .pointer (some ⟨bb, oo, none⟩) := gd (hd ⟨10, .data⟩ (by simp) rfl _ _ rfl rfl); exact flow_val (by go_simp; try rfl) ⟨rfl, hC, fun _ _ _ h => h⟩
     · rw [if_pos (by rfl)]; have e31 : a.tmps[31]?.getD undef = .pointer (some ⟨bb, oo + 2, none⟩) := gd (hd ⟨11, .data⟩ (by simp) rfl _ _ rfl rfl); exact flow_val (by go_simp; try rfl) ⟨rfl, hC, fun _ _ _ h => h⟩
     · rw [if_pos (by rfl)]; have e32 : a.tmps[32]?.getD undef = .pointer (some ⟨bb, oo + 3, none⟩) := gd (hd ⟨12, .data⟩ (by simp) rfl _ _ rfl rfl); have g0 := bget hC q3 hbr; exact flow_val (by go_simp; try rfl) ⟨rfl, hC, fun _ _ _ h => h⟩
     · rw [if_pos (by rfl)]; have e33 : a.tmps[33]?.getD undef = .slice A4 la.length c4 := gd (hd ⟨13, .data⟩ (by simp) rfl _ _ rfl rfl); exact flow_val (by go_simp; try rfl) ⟨rfl, hC, fun _ _ _ h => h⟩
     · rw [if_pos (by rfl)]; have e34 : a.tmps[34]?.getD undef = .int .i64 (la.length : Int) := gd (hd ⟨14, .data⟩ (by simp) rfl _ _ rfl rfl); exact flow_val (by go_simp; try rfl) ⟨rfl, hC, fun _ _ _ h => h⟩
     · rw [if_pos (by rfl)]; have e27 : a.tmps[27]?.getD undef = .int .i64 (IntKind.i64.wrap ((n : Int) + (nm.size : Int))) := gd (hd ⟨7, .data⟩ (by simp) rfl _ _ rfl rfl); have e35 : a.tmps[35]?.getD undef = .int .i64 (IntKind.i64.wrap (8 * (la.length : Int))) := gd (hd ⟨15, .data⟩ (by simp) rfl _ _ rfl rfl); exact flow_val (by go_simp; try rfl) ⟨rfl, hC, fun _ _ _ h => h⟩
   intro vs' w4 hb4 hZ
   have v16 : vs' 16 = .int .i64 (IntKind.i64.wrap (IntKind.i64.wrap ((n : Int) + (nm.size : Int)) + IntKind.i64.wrap (8 * (la.length : Int)))) := hZ 16 _ _ (by omega) rfl rfl
   clear hZ q0 q3
   simp only [List.drop_succ_cons, List.drop_zero, List.take_succ_cons, List.take_zero, putAll, v16]
   rw [HS.out]
   have HX := Lib.hid (show Below w1.heap.size w1 w4 ∧ n + (nm.size + 8 * la.length) = defSum (l.take (k + 1)) from ⟨HB1.out.trans (hb4.mono HB1.out.size), HDS.out.symm⟩)
   clear hb4
   generalize n + (nm.size + 8 * la.length) = n2 at *
   go_wp2_with fail
   go_roundw
   case rel => exact ⟨n2, k + 1, rfl, by go_num, by omega, by omega, HX⟩
   case measure => simp [intOf]; omega
  case neg =>
   have x1 : wr.cell? ⟨wb, 1, none⟩ = some (.slice A2 f.length c2) := hrw.cell 1
   have x0 : wr.cell? ⟨wb, 0, none⟩ = some (.slice A1 z.length c1) := hrw.cell 0
   have hbl : wb < wr.heap.size := hrw.lt
   clear hrw
   have hend : ∀ b : Bool, (b = true → l.length ≤ 40 ∧ n ≤ 4000) → b = true → l.length ≤ 40 ∧ ∀ x ∈ l, x.f0.size + 8 * x.f2.f1.length ≤ 4000 := fun b h e => by
    obtain ⟨h1, h2⟩ := h e
    refine ⟨h1, fun x hx => ?_⟩
    have h3 := defSum_mem l x hx
    have h4 := HN.out
    rw [List.take_of_length_le (by omega)] at h4
    omega
   have HEND := Lib.hid hend
   clear hend
   have hcnd : (k < l.length → ¬ (k : Int) < 41) := by omega
   have HC := Lib.hid hcnd
   clear hcnd
   by_cases hk1 : k < l.length
   · have hk1' : (k : Int) < l.length := by omega
     have hk2' : ¬ (k : Int) < 41 := HC.out hk1
     have hl40 : ¬ (l.length : Int) ≤ 40 := by omega
     go_wp2_with fail
     go_loopw [9] (fun vi w' => vi = .int .i64 0 ∧ w' = wr) (fun _ _ => 0)
     case atStart => exact ⟨rfl, rfl⟩
     case round =>
      obtain ⟨rfl, rfl⟩ := hrel
      go_wp2_with fail
      go_ret
      exact ⟨⟨false, rfl, fun e => by cases e⟩, HBW.out⟩
   · have hk1' : ¬ (k : Int) < l.length := by omega
     go_wp2_with fail
     go_loopw [9] (fun vi w' => vi = .int .i64 0 ∧ w' = wr) (fun _ _ => 0)
     case atStart => exact ⟨rfl, rfl⟩
     case round =>
      obtain ⟨rfl, rfl⟩ := hrel
      by_cases h1 : l.length ≤ 40
      case neg =>
       have h1' : ¬ (l.length : Int) ≤ 40 := by omega
       go_wp2_with fail
       go_ret
       exact ⟨⟨false, rfl, fun e => by cases e⟩, HBW.out⟩
      case pos =>
      have h1' : (l.length : Int) ≤ 40 := by omega
      by_cases h2 : n ≤ 4000
      case neg =>
       have h2' : ¬ (n : Int) ≤ 4000 := by omega
       go_wp2_with fail
       go_ret
       exact ⟨⟨false, rfl, fun e => by cases e⟩, HBW.out⟩
      case pos =>
      have h2' : (n : Int) ≤ 4000 := by omega
      by_cases h3 : f.length < 200
      case neg =>
       have h3' : ¬ (f.length : Int) < 200 := by omega
       go_wp2_with fail
       go_ret
       exact ⟨⟨false, rfl, fun e => by cases e⟩, HBW.out⟩
      case pos =>
      have h3' : (f.length : Int) < 200 := by omega
      go_wp2_with fail
      refine (HSZ.out _ HBW.out).mono ?_; rintro e w5 ⟨⟨r, rfl⟩, hb5⟩
      have HB5 := Lib.hid (HBW.out.trans (hb5.mono HBW.out.size))
      clear hb5
      go_wp2_with fail
      go_ret
      exact ⟨⟨decide (r < 6000), rfl, HEND.out _ (fun _ => ⟨h1, h2⟩)⟩, HB5.out⟩
end Go.Proofs.YtendekbckfpmgaaGreat
namespace Go.Proofs.YtendekbckfpmgaaGreat
open Go Go.RowKit Go.Proofs.YtendekbckfpmgaaGreatW.PrintWords Go.Proofs.YtendekbckfpmgaaGreat.PWorldMay
def sortsB : List S78 → Int → Bool
 | [], _ => true
 | x :: t, i => (x.f0 == i && !decide (x.f1 < 1)) && sortsB t (i + 1)
def funsB (z : List S78) : List (En × List Int) → Int → List S81 → Bool
 | [], _, fs => fs.isEmpty
 | p :: t, i, fs => if p.1.df = true then funsB z t (i + 1) fs else match fs with
  | [] => false
  | y :: ys => (y.f0 == i && tabR z y p.1.res p.2) && funsB z t (i + 1) ys
def mayR (r : Rt) (es : List (En × List Int)) (z : List S78) (f : List S81) : Bool := decide (r.l0.length = z.length) && (sortsB z 2 && funsB z es 0 f)
def MBox (w : World) (b : Nat) (s1 s2 : Value) : Prop := w.cell? ⟨b, 0, none⟩ = some s1 ∧ w.cell? ⟨b, 1, none⟩ = some s2 ∧ b < w.heap.size
theorem MBox.below {w w' : World} {b : Nat} {s1 s2 : Value} (h : MBox w b s1 s2) (hb : Below w.heap.size w w') : MBox w' b s1 s2 :=
 ⟨((bcell hb).1 b 0 h.2.2).trans h.1, ((bcell hb).1 b 1 h.2.2).trans h.2.1, Nat.lt_of_lt_of_le h.2.2 hb.size⟩
def NumR (w : World) (t : TypeId) (v : Value) (l : List Int) : Prop := w.ownsRow 0 t 1 v l.length (l.map (Value.int .i64))
theorem NumR.below {w w' : World} {t : TypeId} {v : Value} {l : List Int} (h : NumR w t v l) (hb : Below w.heap.size w w') : NumR w' t v l := ownsRow_ch (S := fun _ => False) h (Ch.ofBelow hb) (fun _ _ e => e)
def ZM7t (b : Nat) (ad : Addr) (n c1 k bb oo sg scap : Nat) (v0 _v1 : Int) : Nat → Value → Prop
 | 0, v => v = .pointer (some ⟨b, 0, none⟩)
 | 1, v => v = .slice (some ad) n c1
 | 2, v => v = .int .i64 k
 | 3, v => v = .pointer (some ⟨bb, oo, none⟩)
 | 4, v => v = .pointer (some ⟨bb, oo, none⟩)
 | 5, v => v = .int .i64 v0
 | 6, v => v = .slice (some ⟨sg, 0, none⟩) n scap
 | 7, v => v = .int .i64 k
 | 8, v => v = .pointer (some ⟨sg, k, none⟩)
 | 9, v => v = .int .i64 ((k : Int) + 2)
 | 10, v => v = .bool true
 | 11, v => v = .bool true
 | 12, v => v = undef
 | 13, v => v = undef
 | 14, v => v = undef
 | 15, v => v = undef
 | 16, v => v = undef
 | 17, v => v = undef
 | _, v => v = undef
def ZM7f (b : Nat) (ad : Addr) (n c1 k bb oo sg scap : Nat) (v0 v1 : Int) : Nat → Value → Prop
 | 0, v => v = .pointer (some ⟨b, 0, none⟩)
 | 1, v => v = .slice (some ad) n c1
 | 2, v => v = .int .i64 k
 | 3, v => v = .pointer (some ⟨bb, oo, none⟩)
 | 4, v => v = .pointer (some ⟨bb, oo, none⟩)
 | 5, v => v = .int .i64 v0
 | 6, v => v = .slice (some ⟨sg, 0, none⟩) n scap
 | 7, v => v = .int .i64 k
 | 8, v => v = .pointer (some ⟨sg, k, none⟩)
 | 9, v => v = .int .i64 ((k : Int) + 2)
 | 10, v => v = .bool false
 | 11, v => v = .bool false
 | 12, v => v = .pointer (some ⟨b, 0, none⟩)
 | 13, v => v = .slice (some ad) n c1
 | 14, v => v = .int .i64 k
 | 15, v => v = .pointer (some ⟨bb, oo, none⟩)
 | 16, v => v = .pointer (some ⟨bb, oo + 1, none⟩)
 | 17, v => v = .int .i64 v1
 | _, v => v = .bool (decide (v1 < 1))
def ZM16A (b : Nat) (A2 : Option Addr) (l c2 n : Nat) : Nat → Value → Prop
 | 0, v => v = .int .i64 n
 | 1, v => v = .pointer (some ⟨b, 1, none⟩)
 | 2, v => v = .slice A2 l c2
 | 3, v => v = .int .i64 (l : Int)
 | 4, v => v = .bool true
 | 5, v => v = .bool true
 | 6, v => v = undef
 | 7, v => v = undef
 | 8, v => v = undef
 | 9, v => v = undef
 | 10, v => v = undef
 | 11, v => v = undef
 | 12, v => v = undef
 | 13, v => v = undef
 | 14, v => v = undef
 | 15, v => v = undef
 | 16, v => v = undef
 | 17, v => v = .bool true
 | 18, v => v = .bool true
 | 19, v => v = undef
 | 20, v => v = undef
 | 21, v => v = undef
 | 22, v => v = undef
 | 23, v => v = undef
 | 24, v => v = undef
 | 25, v => v = undef
 | 26, v => v = undef
 | _, v => v = undef
def ZM16B (b : Nat) (ad : Addr) (l c2 n k bb oo sg m fcap : Nat) (yn : Int) : Nat → Value → Prop
 | 0, v => v = .int .i64 n
 | 1, v => v = .pointer (some ⟨b, 1, none⟩)
 | 2, v => v = .slice (some ad) l c2
 | 3, v => v = .int .i64 (l : Int)
 | 4, v => v = .bool false
 | 5, v => v = .bool false
 | 6, v => v = .pointer (some ⟨b, 1, none⟩)
 | 7, v => v = .slice (some ad) l c2
 | 8, v => v = .int .i64 n
 | 9, v => v = .pointer (some ⟨bb, oo, none⟩)
 | 10, v => v = .pointer (some ⟨bb, oo, none⟩)
 | 11, v => v = .int .i64 yn
 | 12, v => v = .slice (some ⟨sg, 0, none⟩) m fcap
 | 13, v => v = .int .i64 k
 | 14, v => v = .pointer (some ⟨sg, k, none⟩)
 | 15, v => v = .int .i64 k
 | 16, v => v = .bool true
 | 17, v => v = .bool true
 | 18, v => v = .bool true
 | 19, v => v = undef
 | 20, v => v = undef
 | 21, v => v = undef
 | 22, v => v = undef
 | 23, v => v = undef
 | 24, v => v = undef
 | 25, v => v = undef
 | 26, v => v = undef
 | _, v => v = undef
def ZM16C (b : Nat) (A1 : Option Addr) (c1 zl : Nat) (ad : Addr) (l c2 n k bb oo sg m fcap _q : Nat) (vt vf : Value) (ans : Bool) : Nat → Value → Prop
 | 0, v => v = .int .i64 n
 | 1, v => v = .pointer (some ⟨b, 1, none⟩)
 | 2, v => v = .slice (some ad) l c2
 | 3, v => v = .int .i64 (l : Int)
 | 4, v => v = .bool false
 | 5, v => v = .bool false
 | 6, v => v = .pointer (some ⟨b, 1, none⟩)
 | 7, v => v = .slice (some ad) l c2
 | 8, v => v = .int .i64 n
 | 9, v => v = .pointer (some ⟨bb, oo, none⟩)
 | 10, v => v = .pointer (some ⟨bb, oo, none⟩)
 | 11, v => v = .int .i64 k
 | 12, v => v = .slice (some ⟨sg, 0, none⟩) m fcap
 | 13, v => v = .int .i64 k
 | 14, v => v = .pointer (some ⟨sg, k, none⟩)
 | 15, v => v = .int .i64 k
 | 16, v => v = .bool false
 | 17, v => v = .bool false
 | 18, v => v = .bool false
 | 19, v => v = .agg #[.slice A1 zl c1, .slice (some ad) l c2]
 | 20, v => v = .pointer (some ⟨b, 1, none⟩)
 | 21, v => v = .slice (some ad) l c2
 | 22, v => v = .int .i64 n
 | 23, v => v = .pointer (some ⟨bb, oo, none⟩)
 | 24, v => v = vt
 | 25, v => v = vf
 | 26, v => v = .bool ans
 | _, v => v = .bool (!ans)
set_option maxRecDepth 100000 in
set_option maxHeartbeats 4000000 in
theorem rmay_any {B : Nat} {w : World} {g : Nat} {r : Rt} (h : RTab B w g r) (hst0 : ∀ e ∈ r.l0, e.st = true) (hst1 : ∀ e ∈ r.l1, e.st = true) {A1 : Option Addr} {c1 : Nat} {z : List S78} {A2 : Option Addr} {c2 : Nat} {f : List S81}
 (es : List (En × List Int)) (hes : es.map Prod.fst = r.l1) (hargs : ∀ p ∈ es, p.2.length ≤ 40 ∧ ArOk w p.2 p.1.ar) (hw : WorldC w A1 c1 z A2 c2 f) (hin : WorldIn z f) :
 Calls Tryz.prog 19 #[.pointer (some ⟨g, 0, none⟩), .agg #[.slice A1 z.length c1, .slice A2 f.length c2]] w fun e w' => e = .returned (.bool (mayR r es z f)) ∧ Below w.heap.size w w' := by
 have HA := Lib.hid hargs
 have HES := Lib.hid hes
 clear hes hargs
 have HW := Lib.hid hw
 have HI := Lib.hid hin
 have HT := Lib.hid h
 have HS := Lib.hid (And.intro hst0 hst1)
 have hs0 := h.s0
 clear h hw hin hst0 hst1
 go_enter Tryz.func19, Tryz.ntmps19
 go_wp2_with fail
 refine (rsorts_any (HT.out.below (by (repeat (first | (with_reducible exact Below.refl _ _) | ((with_reducible refine Below.alloc ?_ ?_ _); rotate_left; focus (first | (simp; done) | (simp; omega))) | ((with_reducible refine Below.setCell ?_ ?_ _); rotate_left; focus (first | (simp; done) | (simp; omega))) | (with_reducible refine Below.drew ?_) | (with_reducible refine Below.drewN' ?_ _))))) HS.out.1).mono ?_; rintro e w1 ⟨sv, rfl, hso, hb1⟩
 rw [rangeI_len] at hso
 have HB1 := Lib.hid (show Below w.heap.size w w1 by (repeat (first | (with_reducible exact Below.refl _ _) | ((with_reducible refine Below.alloc ?_ ?_ _); rotate_left; focus (first | (simp; done) | (simp; omega) | (have q0 := hb1.size; (try simp at q0); (try simp); omega))) | ((with_reducible refine Below.setCell ?_ ?_ _); rotate_left; focus (first | (simp; done) | (simp; omega) | (have q0 := hb1.size; (try simp at q0); (try simp); omega))) | (with_reducible refine Below.drew ?_) | (with_reducible refine Below.drewN' ?_ _) | (with_reducible refine Below.trans ?_ (hb1.mono ?_); rotate_left; focus (first | (simp; done) | (simp; omega) | (have q0 := hb1.size; (try simp at q0); (try simp); omega))))))
 have cb0 : w1.cell? ⟨w.heap.size, 0, none⟩ = some (.slice A1 z.length c1) := ((bcell hb1).1 w.heap.size 0 (by simp)).trans (by rw [World.cell?_alloc_at _ _ _ _ rfl]; rfl)
 have cb1 : w1.cell? ⟨w.heap.size, 1, none⟩ = some (.slice A2 f.length c2) := ((bcell hb1).1 w.heap.size 1 (by simp)).trans (by rw [World.cell?_alloc_at _ _ _ _ rfl]; rfl)
 have hbl : w.heap.size < w1.heap.size := by have := hb1.size; simp at this; omega
 obtain ⟨sa, scap, rfl, _⟩ := own_slice hso
 have HSO := Lib.hid hso
 clear hb1 hso
 by_cases hlz : r.l0.length = z.length
 case neg =>
  have hlz' : ((r.l0.length : Int) != (z.length : Int)) = true := by simp; omega
  have HX := Lib.hid (show mayR r es z f = false by unfold mayR; rw [decide_eq_false hlz]; rfl)
  go_wp2_with fail
  go_ret
  exact ⟨by rw [HX.out]; rfl, HB1.out⟩
 have hlz' := hlz
 rw [hlz] at HSO ⊢
 have hlz2 : ((z.length : Int) != (z.length : Int)) = false := by simp
 have HNR := Lib.hid (show NumR w1 43 (.slice sa z.length scap) (rangeI 2 z.length) by unfold NumR; rw [rangeI_len]; exact own_lower HSO.out (Nat.zero_le _))
 have HMB := Lib.hid (show MBox w1 w.heap.size (.slice A1 z.length c1) (.slice A2 f.length c2) from ⟨cb0, cb1, hbl⟩)
 have hzl : z.length ≤ bN := HI.out.1.1
 have hbN : bN = 1048576 := rfl
 clear HSO
 go_wp2_with fail
 clear cb0 cb1 hbl
 generalize hb : w.heap.size = b at HMB ⊢
 have HBE := Lib.hid hb
 clear hb
 go_loopw [6] (fun vi wr => ∃ k : Nat, vi = .int .i64 k ∧ k ≤ z.length ∧ Hid (Below w.heap.size w wr ∧ MBox wr b (.slice A1 z.length c1) (.slice A2 f.length c2) ∧ NumR wr 43 (.slice sa z.length scap) (rangeI 2 z.length) ∧ sortsB z 2 = sortsB (z.drop k) ((k : Int) + 2))) (fun vi _ => z.length - (intOf vi).toNat)
 case atStart => exact ⟨0, rfl, by omega, Lib.hid ⟨HB1.out, HMB.out, HNR.out, rfl⟩⟩
 case round =>
  clear HB1 HMB HNR
  obtain ⟨k, rfl, hk, hh⟩ := hrel
  have HB := Lib.hid hh.out.1
  have HMB := Lib.hid hh.out.2.1
  have HNR := Lib.hid hh.out.2.2.1
  have HQ := Lib.hid hh.out.2.2.2
  obtain ⟨cb0, cb1, hbl⟩ := hh.out.2.1
  clear hh
  by_cases hkl : k < z.length
  case neg =>
   have hkl' : ¬ (k : Int) < z.length := by omega
   have HSB := Lib.hid (show sortsB z 2 = true by rw [HQ.out, List.drop_of_length_le (by omega)]; rfl)
   have HM0 := Lib.hid (show mayR r es z f = funsB z es 0 f by unfold mayR; rw [HSB.out, decide_eq_true hlz']; rfl)
   have hs1 := HT.out.s1
   clear HQ HSB HNR cb0 cb1 hbl
   go_wp2_with fail
   refine (rfuns_any (HT.out.below HB.out) HS.out.2).mono ?_; rintro e w2 ⟨fv, rfl, hfo, hb2⟩
   rw [rangeI_len] at hfo
   obtain ⟨fa, fcap, rfl, _⟩ := own_slice hfo
   have HB2 := Lib.hid (HB.out.trans (hb2.mono HB.out.size))
   have HMB2 := Lib.hid (HMB.out.below hb2)
   have HFN := Lib.hid (show NumR w2 3 (.slice fa r.l1.length fcap) (rangeI 0 r.l1.length) by unfold NumR; rw [rangeI_len]; exact own_lower hfo (Nat.zero_le _))
   clear hb2 hfo HB HMB
   go_wp2_with fail
   go_loopw [7, 9] (fun vn vi wr => ∃ n k : Nat, vn = .int .i64 n ∧ vi = .int .i64 k ∧ k ≤ r.l1.length ∧ n ≤ k ∧ n ≤ f.length ∧ Hid (Below w.heap.size w wr ∧ MBox wr b (.slice A1 z.length c1) (.slice A2 f.length c2) ∧ NumR wr 3 (.slice fa r.l1.length fcap) (rangeI 0 r.l1.length) ∧ funsB z es 0 f = funsB z (es.drop k) k (f.drop n))) (fun _ vi _ => r.l1.length - (intOf vi).toNat)
   case atStart => exact ⟨0, 0, rfl, rfl, by omega, by omega, by omega, Lib.hid ⟨HB2.out, HMB2.out, HFN.out, rfl⟩⟩
   case round =>
    clear HB2 HMB2 HFN
    obtain ⟨n, k, rfl, rfl, hk, hnk, hnf, hh⟩ := hrel
    have HB := Lib.hid hh.out.1
    have HMB := Lib.hid hh.out.2.1
    have HNR := Lib.hid hh.out.2.2.1
    have HQ := Lib.hid hh.out.2.2.2
    obtain ⟨cb0, cb1, hbl⟩ := hh.out.2.1
    clear hh
    have hel : es.length = r.l1.length := by rw [← HES.out]; simp
    by_cases hkl : k < r.l1.length
    case neg =>
     have hkl' : ¬ (k : Int) < r.l1.length := by omega
     have HX := Lib.hid (show mayR r es z f = (f.drop n).isEmpty by rw [HM0.out, HQ.out, List.drop_of_length_le (by omega)]; rfl)
     by_cases hnl : n = f.length
     · subst hnl
       have HXX := Lib.hid (show mayR r es z f = true by rw [HX.out]; simp)
       go_wp2_with fail
       go_ret
       exact ⟨by rw [HXX.out]; rfl, HB.out⟩
     · have hnl2 : ((n : Int) == (f.length : Int)) = false := by simp; omega
       have HXX := Lib.hid (show mayR r es z f = false by rw [HX.out]; simp; omega)
       go_wp2_with fail
       go_ret
       exact ⟨by rw [HXX.out]; rfl, HB.out⟩
    case pos =>
     have hkl' : (k : Int) < r.l1.length := by omega
     obtain ⟨⟨x, la⟩, hx2⟩ : ∃ p, es[k]? = some p := ⟨_, List.getElem?_eq_getElem (by omega)⟩
     have hx : r.l1[k]? = some x := by rw [← HES.out, List.getElem?_map, hx2]; rfl
     obtain ⟨hla, har⟩ := HA.out (x, la) (List.mem_of_getElem? hx2)
     have har' : ArOk wr la x.ar := ownsRow_ch (S := fun _ => False) har (Ch.ofBelow HB.out) (fun _ _ e => e)
     have HIN := Lib.hid (rinfo_any (HT.out.below HB.out) k x hx la (Nat.le_trans hla (by decide)) har')
     have hd : es.drop k = (x, la) :: es.drop (k + 1) := by
      rw [List.drop_eq_getElem_cons (by omega)]
      have := (List.getElem?_eq_some_iff.1 hx2).2
      rw [this]
     have HE := Lib.hid (show funsB z es 0 f = (if x.df = true then funsB z (es.drop (k + 1)) ((k + 1 : Nat) : Int) (f.drop n) else match f.drop n with
      | [] => false
      | y :: ys => (y.f0 == (k : Int) && tabR z y x.res la) && funsB z (es.drop (k + 1)) ((k + 1 : Nat) : Int) ys) by rw [HQ.out, hd]; rfl)
     have hnr := HNR.out
     unfold NumR at hnr
     rw [rangeI_len] at hnr
     obtain ⟨sg, rfl⟩ : ∃ sg, fa = some ⟨sg, 0, none⟩ := by
      rcases hnr.2 with ⟨_, h⟩ | ⟨sg, cap', cur, h1, _⟩
      · omega
      · simp at h1; exact ⟨sg, h1.1⟩
     have s0 : wr.cell? ⟨sg, k, none⟩ = some (.int .i64 k) := by
      rw [hnr.cellAt k (by omega)]; simp [rangeI, hkl]
     have hsg : sg < wr.heap.size := (hnr.lt sg rfl).2
     clear hnr har har' hd hx hx2 HQ
     go_wp2_with fail
     refine HIN.out.mono ?_; rintro e w3 ⟨za, zb, rfl, hb3, har3⟩
     obtain ⟨A5, c5, hare, hle5, hC5⟩ := args_C har3
     obtain ⟨zb1, zb2⟩ := zb
     simp only [Value.slice.injEq] at hare
     obtain ⟨rfl, rfl, rfl⟩ := hare
     have HB3 := Lib.hid (HB.out.trans (hb3.mono HB.out.size))
     have HMB3 := Lib.hid (HMB.out.below hb3)
     have HNR3 := Lib.hid (HNR.out.below hb3)
     have HAR3 := Lib.hid har3
     have HC5 := Lib.hid hC5
     clear hC5
     clear hb3 har3 HIN HB HMB HNR cb0 cb1 hbl s0 hsg
     cases hdf : x.df
     case true =>
      have HX := Lib.hid (show funsB z es 0 f = funsB z (es.drop (k + 1)) ((k + 1 : Nat) : Int) (f.drop n) by rw [HE.out, if_pos hdf])
      go_wp2_with fail
      go_roundw
      case rel => exact ⟨n, k + 1, rfl, by go_num, by omega, by omega, by omega, Lib.hid ⟨HB3.out.alloc HB3.out.size _, HMB3.out.below ((Below.refl _ _).alloc (Nat.le_refl _) _), HNR3.out.below ((Below.refl _ _).alloc (Nat.le_refl _) _), HX.out⟩⟩
      case measure => simp [intOf]; omega
     case false =>
      go_wp2_with fail
      have hq4 : w3.heap.size < (w3.alloc (.cells #[.string x.nm, .slice za la.length zb2, .int .i64 x.res, .bool false] 72)).heap.size := by simp
      have HB4 := Lib.hid (show Below w.heap.size w (w3.alloc (.cells #[.string x.nm, .slice za la.length zb2, .int .i64 x.res, .bool false] 72)) from HB3.out.alloc HB3.out.size _)
      have HMB4 := Lib.hid (show MBox (w3.alloc (.cells #[.string x.nm, .slice za la.length zb2, .int .i64 x.res, .bool false] 72)) b (.slice A1 z.length c1) (.slice A2 f.length c2) from HMB3.out.below ((Below.refl _ _).alloc (Nat.le_refl _) _))
      have HNR4 := Lib.hid (show NumR (w3.alloc (.cells #[.string x.nm, .slice za la.length zb2, .int .i64 x.res, .bool false] 72)) 3 (.slice (some ⟨sg, 0, none⟩) r.l1.length fcap) (rangeI 0 r.l1.length) from HNR3.out.below ((Below.refl _ _).alloc (Nat.le_refl _) _))
      have HC54 := Lib.hid (show (Kd.int .i64).C (w3.alloc (.cells #[.string x.nm, .slice za la.length zb2, .int .i64 x.res, .bool false] 72)) za la.length la from Kd.C_below HC5.out ((Below.refl _ _).alloc (Nat.le_refl _) _))
      have u0 : (w3.alloc (.cells #[.string x.nm, .slice za la.length zb2, .int .i64 x.res, .bool false] 72)).cell? ⟨w3.heap.size, 0, none⟩ = some (.string x.nm) := by rw [World.cell?_alloc_at _ _ _ _ rfl]; rfl
      have u1 : (w3.alloc (.cells #[.string x.nm, .slice za la.length zb2, .int .i64 x.res, .bool false] 72)).cell? ⟨w3.heap.size, 1, none⟩ = some (.slice za la.length zb2) := by rw [World.cell?_alloc_at _ _ _ _ rfl]; rfl
      have u2 : (w3.alloc (.cells #[.string x.nm, .slice za la.length zb2, .int .i64 x.res, .bool false] 72)).cell? ⟨w3.heap.size, 2, none⟩ = some (.int .i64 x.res) := by rw [World.cell?_alloc_at _ _ _ _ rfl]; rfl
      have u3 : (w3.alloc (.cells #[.string x.nm, .slice za la.length zb2, .int .i64 x.res, .bool false] 72)).cell? ⟨w3.heap.size, 3, none⟩ = some (.bool false) := by rw [World.cell?_alloc_at _ _ _ _ rfl]; rfl
      have HU := Lib.hid (And.intro u0 (And.intro u1 (And.intro u2 u3)))
      clear u0 u1 u2 u3
      generalize w3.alloc (.cells #[.string x.nm, .slice za la.length zb2, .int .i64 x.res, .bool false] 72) = w4 at *
      by_cases hnl : n < f.length
      case neg =>
       have hq : ((n : Int) ≥ (f.length : Int)) := by omega
       have HX := Lib.hid (show mayR r es z f = false by rw [HM0.out, HE.out, if_neg (by rw [hdf]; decide), List.drop_of_length_le (by omega)])
       obtain ⟨cb0, cb1, hbl⟩ := HMB4.out
       refine wp_region_flow3 28 (by kernel_rfl) (by kernel_rfl) ?_ (fun iz _ v => (ZM16A b A2 f.length c2 n) iz v) (fun w' => Below w4.heap.size w4 w') (Below.drew (Below.refl _ w4)) ?_ ?_
       · intro i o' d hi ho hd
         have : i = 0 ∨ i = 1 ∨ i = 2 ∨ i = 3 ∨ i = 4 ∨ i = 5 ∨ i = 6 ∨ i = 7 ∨ i = 8 ∨ i = 9 ∨ i = 10 ∨ i = 11 ∨ i = 12 ∨ i = 13 ∨ i = 14 ∨ i = 15 ∨ i = 16 ∨ i = 17 ∨ i = 18 ∨ i = 19 ∨ i = 20 ∨ i = 21 ∨ i = 22 ∨ i = 23 ∨ i = 24 ∨ i = 25 ∨ i = 26 ∨ i = 27 := by omega
         rcases this with rfl | rfl | rfl | rfl | rfl | rfl | rfl | rfl | rfl | rfl | rfl | rfl | rfl | rfl | rfl | rfl | rfl | rfl | rfl | rfl | rfl | rfl | rfl | rfl | rfl | rfl | rfl | rfl <;> (simp at ho; subst ho; simp at hd; subst hd; simp)
       · intro i o' hi ho
         have : i = 0 ∨ i = 1 ∨ i = 2 ∨ i = 3 ∨ i = 4 ∨ i = 5 ∨ i = 6 ∨ i = 7 ∨ i = 8 ∨ i = 9 ∨ i = 10 ∨ i = 11 ∨ i = 12 ∨ i = 13 ∨ i = 14 ∨ i = 15 ∨ i = 16 ∨ i = 17 ∨ i = 18 ∨ i = 19 ∨ i = 20 ∨ i = 21 ∨ i = 22 ∨ i = 23 ∨ i = 24 ∨ i = 25 ∨ i = 26 ∨ i = 27 := by omega
         rcases this with rfl | rfl | rfl | rfl | rfl | rfl | rfl | rfl | rfl | rfl | rfl | rfl | rfl | rfl | rfl | rfl | rfl | rfl | rfl | rfl | rfl | rfl | rfl | rfl | rfl | rfl | rfl | rfl <;> (simp at ho; subst ho; intro a w' hC hd hr)
         · rw [if_pos (by rfl)]; have e7 : a.tmps[7]?.getD undef = .int .i64 n := gd (hr 7 (free_of (by rfl))); exact flow_val (by go_simp; try rfl) ⟨rfl, hC, fun _ _ _ h => h⟩
         · rw [if_pos (by rfl)]; have e3 : a.tmps[3]?.getD undef = .pointer (some ⟨b, 0, none⟩) := gd (hr 3 (free_of (by rfl))); exact flow_val (by go_simp; try rfl) ⟨rfl, hC, fun _ _ _ h => h⟩
         · rw [if_pos (by rfl)]; have e66 : a.tmps[66]?.getD undef = .pointer (some ⟨b, 1, none⟩) := gd (hd ⟨1, .data⟩ (by simp) rfl _ _ rfl rfl); have g0 := bget hC cb1 hbl; exact flow_val (by go_simp; try rfl) ⟨rfl, hC, fun _ _ _ h => h⟩
         · rw [if_pos (by rfl)]; have e67 : a.tmps[67]?.getD undef = .slice A2 f.length c2 := gd (hd ⟨2, .data⟩ (by simp) rfl _ _ rfl rfl); exact flow_val (by go_simp; try rfl) ⟨rfl, hC, fun _ _ _ h => h⟩
         · rw [if_pos (by rfl)]; have e65 : a.tmps[65]?.getD undef = .int .i64 n := gd (hd ⟨0, .data⟩ (by simp) rfl _ _ rfl rfl); have e68 : a.tmps[68]?.getD undef = .int .i64 (f.length : Int) := gd (hd ⟨3, .data⟩ (by simp) rfl _ _ rfl rfl); exact flow_val (by first | (go_simp; done) | (go_simp; rfl) | (go_simp; simp [hq]; done)) ⟨rfl, hC, fun _ _ _ h => h⟩
         · rw [if_pos (by rfl)]; have e69 : a.tmps[69]?.getD undef = .bool true := gd (hd ⟨4, .data⟩ (by simp) rfl _ _ rfl rfl); exact flow_val (by go_simp; try rfl) ⟨rfl, hC, fun _ _ _ h => h⟩
         · have eg := tmp_bool (hd ⟨5, .guard⟩ (by simp) rfl _ _ rfl rfl : a.tmps.getD 70 undef = .bool true); rw [if_neg (by simp [Region.wanted, yielded, eg])]; exact rfl
         · have eg := tmp_bool (hd ⟨5, .guard⟩ (by simp) rfl _ _ rfl rfl : a.tmps.getD 70 undef = .bool true); rw [if_neg (by simp [Region.wanted, yielded, eg])]; exact rfl
         · have eg := tmp_bool (hd ⟨5, .guard⟩ (by simp) rfl _ _ rfl rfl : a.tmps.getD 70 undef = .bool true); rw [if_neg (by simp [Region.wanted, yielded, eg])]; exact rfl
         · have eg := tmp_bool (hd ⟨5, .guard⟩ (by simp) rfl _ _ rfl rfl : a.tmps.getD 70 undef = .bool true); rw [if_neg (by simp [Region.wanted, yielded, eg])]; exact rfl
         · have eg := tmp_bool (hd ⟨5, .guard⟩ (by simp) rfl _ _ rfl rfl : a.tmps.getD 70 undef = .bool true); rw [if_neg (by simp [Region.wanted, yielded, eg])]; exact rfl
         · have eg := tmp_bool (hd ⟨5, .guard⟩ (by simp) rfl _ _ rfl rfl : a.tmps.getD 70 undef = .bool true); rw [if_neg (by simp [Region.wanted, yielded, eg])]; exact rfl
         · have eg := tmp_bool (hd ⟨5, .guard⟩ (by simp) rfl _ _ rfl rfl : a.tmps.getD 70 undef = .bool true); rw [if_neg (by simp [Region.wanted, yielded, eg])]; exact rfl
         · have eg := tmp_bool (hd ⟨5, .guard⟩ (by simp) rfl _ _ rfl rfl : a.tmps.getD 70 undef = .bool true); rw [if_neg (by simp [Region.wanted, yielded, eg])]; exact rfl
         · have eg := tmp_bool (hd ⟨5, .guard⟩ (by simp) rfl _ _ rfl rfl : a.tmps.getD 70 undef = .bool true); rw [if_neg (by simp [Region.wanted, yielded, eg])]; exact rfl
         · have eg := tmp_bool (hd ⟨5, .guard⟩ (by simp) rfl _ _ rfl rfl : a.tmps.getD 70 undef = .bool true); rw [if_neg (by simp [Region.wanted, yielded, eg])]; exact rfl
         · have eg := tmp_bool (hd ⟨5, .guard⟩ (by simp) rfl _ _ rfl rfl : a.tmps.getD 70 undef = .bool true); rw [if_neg (by simp [Region.wanted, yielded, eg])]; exact rfl
         · rw [if_pos (by rfl)]; have e70 : a.tmps[70]?.getD undef = .bool true := gd (hd ⟨5, .data⟩ (by simp) rfl _ _ rfl rfl); exact flow_val (by go_simp; try rfl) ⟨rfl, hC, fun _ _ _ h => h⟩
         · rw [if_pos (by rfl)]; have e82 : a.tmps[82]?.getD undef = .bool true := gd (hd ⟨17, .data⟩ (by simp) rfl _ _ rfl rfl); exact flow_val (by go_simp; try rfl) ⟨rfl, hC, fun _ _ _ h => h⟩
         · have eg := tmp_bool (hd ⟨18, .guard⟩ (by simp) rfl _ _ rfl rfl : a.tmps.getD 83 undef = .bool true); rw [if_neg (by simp [Region.wanted, yielded, eg])]; exact rfl
         · have eg := tmp_bool (hd ⟨18, .guard⟩ (by simp) rfl _ _ rfl rfl : a.tmps.getD 83 undef = .bool true); rw [if_neg (by simp [Region.wanted, yielded, eg])]; exact rfl
         · have eg := tmp_bool (hd ⟨18, .guard⟩ (by simp) rfl _ _ rfl rfl : a.tmps.getD 83 undef = .bool true); rw [if_neg (by simp [Region.wanted, yielded, eg])]; exact rfl
         · have eg := tmp_bool (hd ⟨18, .guard⟩ (by simp) rfl _ _ rfl rfl : a.tmps.getD 83 undef = .bool true); rw [if_neg (by simp [Region.wanted, yielded, eg])]; exact rfl
         · have eg := tmp_bool (hd ⟨18, .guard⟩ (by simp) rfl _ _ rfl rfl : a.tmps.getD 83 undef = .bool true); rw [if_neg (by simp [Region.wanted, yielded, eg])]; exact rfl
         · have eg := tmp_bool (hd ⟨18, .guard⟩ (by simp) rfl _ _ rfl rfl : a.tmps.getD 83 undef = .bool true); rw [if_neg (by simp [Region.wanted, yielded, eg])]; exact rfl
         · have eg := tmp_bool (hd ⟨18, .guard⟩ (by simp) rfl _ _ rfl rfl : a.tmps.getD 83 undef = .bool true); rw [if_neg (by simp [Region.wanted, yielded, eg])]; exact rfl
         · have eg := tmp_bool (hd ⟨18, .guard⟩ (by simp) rfl _ _ rfl rfl : a.tmps.getD 83 undef = .bool true); rw [if_neg (by simp [Region.wanted, yielded, eg])]; exact rfl
         · have eg := tmp_bool (hd ⟨18, .guard⟩ (by simp) rfl _ _ rfl rfl : a.tmps.getD 83 undef = .bool true); rw [if_neg (by simp [Region.wanted, yielded, eg])]; exact rfl
       intro vs' w4 hb4 hZ
       have v18 : vs' 18 = .bool true := hZ 18 _ _ (by omega) rfl rfl
       clear hZ cb1
       simp only [List.drop_succ_cons, List.drop_zero, List.take_succ_cons, List.take_zero, putAll, v18]
       have HB5 := Lib.hid (HB4.out.trans (hb4.mono HB4.out.size))
       clear hb4
       go_wp2_with fail
       go_ret
       exact ⟨by rw [HX.out]; rfl, HB5.out⟩
      case pos =>
       have hq : ¬ ((n : Int) ≥ (f.length : Int)) := by omega
       have hfl : f.length ≤ bN := HI.out.2.1
       obtain ⟨ad, bb, oo, cs, hA, hadd, hK, hc, hbl2⟩ := cells_at z81 HW.out.hf n hnl (by decide)
       subst hA
       obtain ⟨A4, c4, rfl, hle4, hC4⟩ := k81_open hK
       replace hadd : ad.add (n * 7) = ⟨bb, oo, none⟩ := hadd
       have hdn : f.drop n = f.getD n z81 :: f.drop (n + 1) := by rw [List.drop_eq_getElem_cons hnl]; simp [hnl]
       have HE2 := Lib.hid (show funsB z es 0 f = (((f.getD n z81).f0 == (k : Int) && tabR z (f.getD n z81) x.res la) && funsB z (es.drop (k + 1)) ((k + 1 : Nat) : Int) (f.drop (n + 1))) by rw [HE.out, if_neg (by rw [hdf]; decide), hdn])
       have q0 : w4.cell? ⟨bb, oo, none⟩ = some (.int .i64 (f.getD n z81).f0) := ((bcell HB4.out).1 bb _ hbl2).trans (by have := hc 0 _ rfl; simpa using this)
       have hbr : bb < w4.heap.size := Nat.lt_of_lt_of_le hbl2 HB4.out.size
       have hnr := HNR4.out
       unfold NumR at hnr
       rw [rangeI_len] at hnr
       have s0 : w4.cell? ⟨sg, k, none⟩ = some (.int .i64 k) := by
        rw [hnr.cellAt k (by omega)]; simp [rangeI, hkl]
       have hsg : sg < w4.heap.size := (hnr.lt sg rfl).2
       have qs := fun i v (h : _) => ((bcell HB4.out).1 bb (oo + i) hbl2).trans (hc i v h)
       clear hc hK
       generalize f.getD n z81 = y at *
       obtain ⟨yn, yl, ⟨y0, y1, ⟨y2, y3⟩, y4⟩⟩ := y
       simp only at hC4 hle4 HE2 qs q0
       by_cases hyk : yn = (k : Int)
       case neg =>
        have hq2 : (yn != (k : Int)) = true := by simpa using hyk
        have HX := Lib.hid (show mayR r es z f = false by rw [HM0.out, HE2.out, show (yn == (k : Int)) = false by simpa using hyk]; rfl)
        obtain ⟨cb0, cb1, hbl⟩ := HMB4.out
        refine wp_region_flow3 28 (by kernel_rfl) (by kernel_rfl) ?_ (fun iz _ v => (ZM16B b ad f.length c2 n k bb oo sg r.l1.length fcap yn) iz v) (fun w' => Below w4.heap.size w4 w') (Below.drew (Below.refl _ w4)) ?_ ?_
        · intro i o' d hi ho hd
          have : i = 0 ∨ i = 1 ∨ i = 2 ∨ i = 3 ∨ i = 4 ∨ i = 5 ∨ i = 6 ∨ i = 7 ∨ i = 8 ∨ i = 9 ∨ i = 10 ∨ i = 11 ∨ i = 12 ∨ i = 13 ∨ i = 14 ∨ i = 15 ∨ i = 16 ∨ i = 17 ∨ i = 18 ∨ i = 19 ∨ i = 20 ∨ i = 21 ∨ i = 22 ∨ i = 23 ∨ i = 24 ∨ i = 25 ∨ i = 26 ∨ i = 27 := by omega
          rcases this with rfl | rfl | rfl | rfl | rfl | rfl | rfl | rfl | rfl | rfl | rfl | rfl | rfl | rfl | rfl | rfl | rfl | rfl | rfl | rfl | rfl | rfl | rfl | rfl | rfl | rfl | rfl | rfl <;> (simp at ho; subst ho; simp at hd; subst hd; simp)
        · intro i o' hi ho
          have : i = 0 ∨ i = 1 ∨ i = 2 ∨ i = 3 ∨ i = 4 ∨ i = 5 ∨ i = 6 ∨ i = 7 ∨ i = 8 ∨ i = 9 ∨ i = 10 ∨ i = 11 ∨ i = 12 ∨ i = 13 ∨ i = 14 ∨ i = 15 ∨ i = 16 ∨ i = 17 ∨ i = 18 ∨ i = 19 ∨ i = 20 ∨ i = 21 ∨ i = 22 ∨ i = 23 ∨ i = 24 ∨ i = 25 ∨ i = 26 ∨ i = 27 := by omega
          rcases this with rfl | rfl | rfl | rfl | rfl | rfl | rfl | rfl | rfl | rfl | rfl | rfl | rfl | rfl | rfl | rfl | rfl | rfl | rfl | rfl | rfl | rfl | rfl | rfl | rfl | rfl | rfl | rfl <;> (simp at ho; subst ho; intro a w' hC hd hr)
          · rw [if_pos (by rfl)]; have e7 : a.tmps[7]?.getD undef = .int .i64 n := gd (hr 7 (free_of (by rfl))); exact flow_val (by go_simp; try rfl) ⟨rfl, hC, fun _ _ _ h => h⟩
          · rw [if_pos (by rfl)]; have e3 : a.tmps[3]?.getD undef = .pointer (some ⟨b, 0, none⟩) := gd (hr 3 (free_of (by rfl))); exact flow_val (by go_simp; try rfl) ⟨rfl, hC, fun _ _ _ h => h⟩
          · rw [if_pos (by rfl)]; have e66 : a.tmps[66]?.getD undef = .pointer (some ⟨b, 1, none⟩) := gd (hd ⟨1, .data⟩ (by simp) rfl _ _ rfl rfl); have g0 := bget hC cb1 hbl; exact flow_val (by go_simp; try rfl) ⟨rfl, hC, fun _ _ _ h => h⟩
          · rw [if_pos (by rfl)]; have e67 : a.tmps[67]?.getD undef = .slice (some ad) f.length c2 := gd (hd ⟨2, .data⟩ (by simp) rfl _ _ rfl rfl); exact flow_val (by go_simp; try rfl) ⟨rfl, hC, fun _ _ _ h => h⟩
          · rw [if_pos (by rfl)]; have e65 : a.tmps[65]?.getD undef = .int .i64 n := gd (hd ⟨0, .data⟩ (by simp) rfl _ _ rfl rfl); have e68 : a.tmps[68]?.getD undef = .int .i64 (f.length : Int) := gd (hd ⟨3, .data⟩ (by simp) rfl _ _ rfl rfl); exact flow_val (by first | (go_simp; done) | (go_simp; rfl) | (go_simp; simp [hq]; done)) ⟨rfl, hC, fun _ _ _ h => h⟩
          · rw [if_pos (by rfl)]; have e69 : a.tmps[69]?.getD undef = .bool false := gd (hd ⟨4, .data⟩ (by simp) rfl _ _ rfl rfl); exact flow_val (by go_simp; try rfl) ⟨rfl, hC, fun _ _ _ h => h⟩
          · have eg := tmp_bool (hd ⟨5, .guard⟩ (by simp) rfl _ _ rfl rfl : a.tmps.getD 70 undef = .bool false); rw [if_pos (by simp [Region.wanted, yielded, eg])]; clear eg; have e3 : a.tmps[3]?.getD undef = .pointer (some ⟨b, 0, none⟩) := gd (hr 3 (free_of (by rfl))); exact flow_val (by go_simp; try rfl) ⟨rfl, hC, fun _ _ _ h => h⟩
          · have eg := tmp_bool (hd ⟨5, .guard⟩ (by simp) rfl _ _ rfl rfl : a.tmps.getD 70 undef = .bool false); rw [if_pos (by simp [Region.wanted, yielded, eg])]; clear eg; have e71 : a.tmps[71]?.getD undef = .pointer (some ⟨b, 1, none⟩) := gd (hd ⟨6, .data⟩ (by simp) rfl _ _ rfl rfl); have g0 := bget hC cb1 hbl; exact flow_val (by go_simp; try rfl) ⟨rfl, hC, fun _ _ _ h => h⟩
          · have eg := tmp_bool (hd ⟨5, .guard⟩ (by simp) rfl _ _ rfl rfl : a.tmps.getD 70 undef = .bool false); rw [if_pos (by simp [Region.wanted, yielded, eg])]; clear eg; have e7 : a.tmps[7]?.getD undef = .int .i64 n := gd (hr 7 (free_of (by rfl))); exact flow_val (by go_simp; try rfl) ⟨rfl, hC, fun _ _ _ h => h⟩
          · have eg := tmp_bool (hd ⟨5, .guard⟩ (by simp) rfl _ _ rfl rfl : a.tmps.getD 70 undef = .bool false); rw [if_pos (by simp [Region.wanted, yielded, eg])]; clear eg; have e72 : a.tmps[72]?.getD undef = .slice (some ad) f.length c2 := gd (hd ⟨7, .data⟩ (by simp) rfl _ _ rfl rfl); have e73 : a.tmps[73]?.getD undef = .int .i64 n := gd (hd ⟨8, .data⟩ (by simp) rfl _ _ rfl rfl); have hx := hadd; exact flow_val (by go_simp; try rfl) ⟨rfl, hC, fun _ _ _ h => h⟩
          · have eg := tmp_bool (hd ⟨5, .guard⟩ (by simp) rfl _ _ rfl rfl : a.tmps.getD 70 undef = .bool false); rw [if_pos (by simp [Region.wanted, yielded, eg])]; clear eg; have e74 : a.tmps[74]?.getD undef = .pointer (some ⟨bb, oo, none⟩) := gd (hd ⟨9, .data⟩ (by simp) rfl _ _ rfl rfl); exact flow_val (by go_simp; try rfl) ⟨rfl, hC, fun _ _ _ h => h⟩
          · have eg := tmp_bool (hd ⟨5, .guard⟩ (by simp) rfl _ _ rfl rfl : a.tmps.getD 70 undef = .bool false); rw [if_pos (by simp [Region.wanted, yielded, eg])]; clear eg; have e75 : a.tmps[75]?.getD undef = .pointer (some ⟨bb, oo, none⟩) := gd (hd ⟨10, .data⟩ (by simp) rfl _ _ rfl rfl); have g0 := bget hC q0 hbr; exact flow_val (by go_simp; try rfl) ⟨rfl, hC, fun _ _ _ h => h⟩
          · have eg := tmp_bool (hd ⟨5, .guard⟩ (by simp) rfl _ _ rfl rfl : a.tmps.getD 70 undef = .bool false); rw [if_pos (by simp [Region.wanted, yielded, eg])]; clear eg; have e8 : a.tmps[8]?.getD undef = .slice (some ⟨sg, 0, none⟩) r.l1.length fcap := gd (hr 8 (free_of (by rfl))); exact flow_val (by go_simp; try rfl) ⟨rfl, hC, fun _ _ _ h => h⟩
          · have eg := tmp_bool (hd ⟨5, .guard⟩ (by simp) rfl _ _ rfl rfl : a.tmps.getD 70 undef = .bool false); rw [if_pos (by simp [Region.wanted, yielded, eg])]; clear eg; have e9 : a.tmps[9]?.getD undef = .int .i64 k := gd (hr 9 (free_of (by rfl))); exact flow_val (by go_simp; try rfl) ⟨rfl, hC, fun _ _ _ h => h⟩
          · have eg := tmp_bool (hd ⟨5, .guard⟩ (by simp) rfl _ _ rfl rfl : a.tmps.getD 70 undef = .bool false); rw [if_pos (by simp [Region.wanted, yielded, eg])]; clear eg; have e77 : a.tmps[77]?.getD undef = .slice (some ⟨sg, 0, none⟩) r.l1.length fcap := gd (hd ⟨12, .data⟩ (by simp) rfl _ _ rfl rfl); have e78 : a.tmps[78]?.getD undef = .int .i64 k := gd (hd ⟨13, .data⟩ (by simp) rfl _ _ rfl rfl); exact flow_val (by go_simp; try rfl) ⟨rfl, hC, fun _ _ _ h => h⟩
          · have eg := tmp_bool (hd ⟨5, .guard⟩ (by simp) rfl _ _ rfl rfl : a.tmps.getD 70 undef = .bool false); rw [if_pos (by simp [Region.wanted, yielded, eg])]; clear eg; have e79 : a.tmps[79]?.getD undef = .pointer (some ⟨sg, k, none⟩) := gd (hd ⟨14, .data⟩ (by simp) rfl _ _ rfl rfl); have g0 := bget hC s0 hsg; exact flow_val (by go_simp; try rfl) ⟨rfl, hC, fun _ _ _ h => h⟩
          · have eg := tmp_bool (hd ⟨5, .guard⟩ (by simp) rfl _ _ rfl rfl : a.tmps.getD 70 undef = .bool false); rw [if_pos (by simp [Region.wanted, yielded, eg])]; clear eg; have e76 : a.tmps[76]?.getD undef = .int .i64 yn := gd (hd ⟨11, .data⟩ (by simp) rfl _ _ rfl rfl); have e80 : a.tmps[80]?.getD undef = .int .i64 k := gd (hd ⟨15, .data⟩ (by simp) rfl _ _ rfl rfl); exact flow_val (by first | (go_simp; done) | (go_simp; rfl) | (go_simp; simp [hq2]; done)) ⟨rfl, hC, fun _ _ _ h => h⟩
          · rw [if_pos (by rfl)]; have e70 : a.tmps[70]?.getD undef = .bool false := gd (hd ⟨5, .data⟩ (by simp) rfl _ _ rfl rfl); have e81 : a.tmps[81]?.getD undef = .bool true := gd (hd ⟨16, .data⟩ (by simp) rfl _ _ rfl rfl); exact flow_val (by go_simp; try rfl) ⟨rfl, hC, fun _ _ _ h => h⟩
          · rw [if_pos (by rfl)]; have e82 : a.tmps[82]?.getD undef = .bool true := gd (hd ⟨17, .data⟩ (by simp) rfl _ _ rfl rfl); exact flow_val (by go_simp; try rfl) ⟨rfl, hC, fun _ _ _ h => h⟩
          · have eg := tmp_bool (hd ⟨18, .guard⟩ (by simp) rfl _ _ rfl rfl : a.tmps.getD 83 undef = .bool true); rw [if_neg (by simp [Region.wanted, yielded, eg])]; exact rfl
          · have eg := tmp_bool (hd ⟨18, .guard⟩ (by simp) rfl _ _ rfl rfl : a.tmps.getD 83 undef = .bool true); rw [if_neg (by simp [Region.wanted, yielded, eg])]; exact rfl
          · have eg := tmp_bool (hd ⟨18, .guard⟩ (by simp) rfl _ _ rfl rfl : a.tmps.getD 83 undef = .bool true); rw [if_neg (by simp [Region.wanted, yielded, eg])]; exact rfl
          · have eg := tmp_bool (hd ⟨18, .guard⟩ (by simp) rfl _ _ rfl rfl : a.tmps.getD 83 undef = .bool true); rw [if_neg (by simp [Region.wanted, yielded, eg])]; exact rfl
          · have eg := tmp_bool (hd ⟨18, .guard⟩ (by simp) rfl _ _ rfl rfl : a.tmps.getD 83 undef = .bool true); rw [if_neg (by simp [Region.wanted, yielded, eg])]; exact rfl
          · have eg := tmp_bool (hd ⟨18, .guard⟩ (by simp) rfl _ _ rfl rfl : a.tmps.getD 83 undef = .bool true); rw [if_neg (by simp [Region.wanted, yielded, eg])]; exact rfl
          · have eg := tmp_bool (hd ⟨18, .guard⟩ (by simp) rfl _ _ rfl rfl : a.tmps.getD 83 undef = .bool true); rw [if_neg (by simp [Region.wanted, yielded, eg])]; exact rfl
          · have eg := tmp_bool (hd ⟨18, .guard⟩ (by simp) rfl _ _ rfl rfl : a.tmps.getD 83 undef = .bool true); rw [if_neg (by simp [Region.wanted, yielded, eg])]; exact rfl
          · have eg := tmp_bool (hd ⟨18, .guard⟩ (by simp) rfl _ _ rfl rfl : a.tmps.getD 83 undef = .bool true); rw [if_neg (by simp [Region.wanted, yielded, eg])]; exact rfl
        intro vs' w4 hb4 hZ
        have v18 : vs' 18 = .bool true := hZ 18 _ _ (by omega) rfl rfl
        clear hZ cb1 q0 s0
        simp only [List.drop_succ_cons, List.drop_zero, List.take_succ_cons, List.take_zero, putAll, v18]
        have HB5 := Lib.hid (HB4.out.trans (hb4.mono HB4.out.size))
        clear hb4
        go_wp2_with fail
        go_ret
        exact ⟨by rw [HX.out]; rfl, HB5.out⟩
       case pos =>
        have hq2 : (yn != (k : Int)) = false := by simpa using hyk
        have q1 := qs 1 _ rfl
        have q2 := qs 2 _ rfl
        have q3 := qs 3 _ rfl
        have q4 := qs 4 _ rfl
        have q5 := qs 5 _ rfl
        have q6 := qs 6 _ rfl
        clear qs
        obtain ⟨u0, u1, u2, u3⟩ := HU.out
        obtain ⟨cb0, cb1, hbl⟩ := HMB4.out
        subst hyk
        have HTB := Lib.hid (show ∀ w', Below w4.heap.size w4 w' → Calls Tryz.prog 53 #[.agg #[.slice A1 z.length c1, .slice (some ad) f.length c2], .agg #[.int .i64 k, .slice A4 yl.length c4, .int .i64 y0, .bool y1, .int .i64 y2, .int .i64 y3, .int .i64 y4], .agg #[.string x.nm, .slice za la.length zb2, .int .i64 x.res, .bool false]] w' fun e w'' => e = .returned (.bool (tabR z ⟨k, yl, ⟨y0, y1, ⟨y2, y3⟩, y4⟩⟩ x.res la)) ∧ Below w'.heap.size w' w'' from fun w' hb' => by
         have hz5 : z.length ≤ 100000 := by omega
         exact rtable_any w' A1 c1 z (some ad) c2 f (Kd.C_below (Kd.C_below HW.out.hz HB4.out) hb') HW.out.hzc (Kd.C_below (Kd.C_below HW.out.hf HB4.out) hb') HW.out.hfc hz5 k A4 c4 yl (Kd.C_below (Kd.C_below hC4 HB4.out) hb') y0 y1 y2 y3 y4 x.nm za zb2 la (Kd.C_below HC54.out hb') (by omega) x.res false)
        generalize hans : tabR z ⟨k, yl, ⟨y0, y1, ⟨y2, y3⟩, y4⟩⟩ x.res la = ans at *
        generalize w3.heap.size = q at *
        have hql : q < w4.heap.size := hq4
        clear hC4 hbl2 hnr
        refine wp_region_flow3 28 (by kernel_rfl) (by kernel_rfl) ?_ (fun iz _ v => (ZM16C b A1 c1 z.length ad f.length c2 n k bb oo sg r.l1.length fcap q (.agg #[.int .i64 k, .slice A4 yl.length c4, .int .i64 y0, .bool y1, .int .i64 y2, .int .i64 y3, .int .i64 y4]) (.agg #[.string x.nm, .slice za la.length zb2, .int .i64 x.res, .bool false]) ans) iz v) (fun w' => Below w4.heap.size w4 w') (Below.drew (Below.refl _ w4)) ?_ ?_
        · intro i o' d hi ho hd
          have : i = 0 ∨ i = 1 ∨ i = 2 ∨ i = 3 ∨ i = 4 ∨ i = 5 ∨ i = 6 ∨ i = 7 ∨ i = 8 ∨ i = 9 ∨ i = 10 ∨ i = 11 ∨ i = 12 ∨ i = 13 ∨ i = 14 ∨ i = 15 ∨ i = 16 ∨ i = 17 ∨ i = 18 ∨ i = 19 ∨ i = 20 ∨ i = 21 ∨ i = 22 ∨ i = 23 ∨ i = 24 ∨ i = 25 ∨ i = 26 ∨ i = 27 := by omega
          rcases this with rfl | rfl | rfl | rfl | rfl | rfl | rfl | rfl | rfl | rfl | rfl | rfl | rfl | rfl | rfl | rfl | rfl | rfl | rfl | rfl | rfl | rfl | rfl | rfl | rfl | rfl | rfl | rfl <;> (simp at ho; subst ho; simp at hd; subst hd; simp)
        · intro i o' hi ho
          have : i = 0 ∨ i = 1 ∨ i = 2 ∨ i = 3 ∨ i = 4 ∨ i = 5 ∨ i = 6 ∨ i = 7 ∨ i = 8 ∨ i = 9 ∨ i = 10 ∨ i = 11 ∨ i = 12 ∨ i = 13 ∨ i = 14 ∨ i = 15 ∨ i = 16 ∨ i = 17 ∨ i = 18 ∨ i = 19 ∨ i = 20 ∨ i = 21 ∨ i = 22 ∨ i = 23 ∨ i = 24 ∨ i = 25 ∨ i = 26 ∨ i = 27 := by omega
          rcases this with rfl | rfl | rfl | rfl | rfl | rfl | rfl | rfl | rfl | rfl | rfl | rfl | rfl | rfl | rfl | rfl | rfl | rfl | rfl | rfl | rfl | rfl | rfl | rfl | rfl | rfl | rfl | rfl <;> (simp at ho; subst ho; intro a w' hC hd hr)
          · rw [if_pos (by rfl)]; have e7 : a.tmps[7]?.getD undef = .int .i64 n := gd (hr 7 (free_of (by rfl))); exact flow_val (by go_simp; try rfl) ⟨rfl, hC, fun _ _ _ h => h⟩
          · rw [if_pos (by rfl)]; have e3 : a.tmps[3]?.getD undef = .pointer (some ⟨b, 0, none⟩) := gd (hr 3 (free_of (by rfl))); exact flow_val (by go_simp; try rfl) ⟨rfl, hC, fun _ _ _ h => h⟩
          · rw [if_pos (by rfl)]; have e66 : a.tmps[66]?.getD undef = .pointer (some ⟨b, 1, none⟩) := gd (hd ⟨1, .data⟩ (by simp) rfl _ _ rfl rfl); have g0 := bget hC cb1 hbl; exact flow_val (by go_simp; try rfl) ⟨rfl, hC, fun _ _ _ h => h⟩
          · rw [if_pos (by rfl)]; have e67 : a.tmps[67]?.getD undef = .slice (some ad) f.length c2 := gd (hd ⟨2, .data⟩ (by simp) rfl _ _ rfl rfl); exact flow_val (by go_simp; try rfl) ⟨rfl, hC, fun _ _ _ h => h⟩
          · rw [if_pos (by rfl)]; have e65 : a.tmps[65]?.getD undef = .int .i64 n := gd (hd ⟨0, .data⟩ (by simp) rfl _ _ rfl rfl); have e68 : a.tmps[68]?.getD undef = .int .i64 (f.length : Int) := gd (hd ⟨3, .data⟩ (by simp) rfl _ _ rfl rfl); exact flow_val (by first | (go_simp; done) | (go_simp; rfl) | (go_simp; simp [hq]; done)) ⟨rfl, hC, fun _ _ _ h => h⟩
          · rw [if_pos (by rfl)]; have e69 : a.tmps[69]?.getD undef = .bool false := gd (hd ⟨4, .data⟩ (by simp) rfl _ _ rfl rfl); exact flow_val (by go_simp; try rfl) ⟨rfl, hC, fun _ _ _ h => h⟩
          · have eg := tmp_bool (hd ⟨5, .guard⟩ (by simp) rfl _ _ rfl rfl : a.tmps.getD 70 undef = .bool false); rw [if_pos (by simp [Region.wanted, yielded, eg])]; clear eg; have e3 : a.tmps[3]?.getD undef = .pointer (some ⟨b, 0, none⟩) := gd (hr 3 (free_of (by rfl))); exact flow_val (by go_simp; try rfl) ⟨rfl, hC, fun _ _ _ h => h⟩
          · have eg := tmp_bool (hd ⟨5, .guard⟩ (by simp) rfl _ _ rfl rfl : a.tmps.getD 70 undef = .bool false); rw [if_pos (by simp [Region.wanted, yielded, eg])]; clear eg; have e71 : a.tmps[71]?.getD undef = .pointer (some ⟨b, 1, none⟩) := gd (hd ⟨6, .data⟩ (by simp) rfl _ _ rfl rfl); have g0 := bget hC cb1 hbl; exact flow_val (by go_simp; try rfl) ⟨rfl, hC, fun _ _ _ h => h⟩
          · have eg := tmp_bool (hd ⟨5, .guard⟩ (by simp) rfl _ _ rfl rfl : a.tmps.getD 70 undef = .bool false); rw [if_pos (by simp [Region.wanted, yielded, eg])]; clear eg; have e7 : a.tmps[7]?.getD undef = .int .i64 n := gd (hr 7 (free_of (by rfl))); exact flow_val (by go_simp; try rfl) ⟨rfl, hC, fun _ _ _ h => h⟩
          · have eg := tmp_bool (hd ⟨5, .guard⟩ (by simp) rfl _ _ rfl rfl : a.tmps.getD 70 undef = .bool false); rw [if_pos (by simp [Region.wanted, yielded, eg])]; clear eg; have e72 : a.tmps[72]?.getD undef = .slice (some ad) f.length c2 := gd (hd ⟨7, .data⟩ (by simp) rfl _ _ rfl rfl); have e73 : a.tmps[73]?.getD undef = .int .i64 n := gd (hd ⟨8, .data⟩ (by simp) rfl _ _ rfl rfl); have hx := hadd; exact flow_val (by go_simp; try rfl) ⟨rfl, hC, fun _ _ _ h => h⟩
          · have eg := tmp_bool (hd ⟨5, .guard⟩ (by simp) rfl _ _ rfl rfl : a.tmps.getD 70 undef = .bool false); rw [if_pos (by simp [Region.wanted, yielded, eg])]; clear eg; have e74 : a.tmps[74]?.getD undef = .pointer (some ⟨bb, oo, none⟩) := gd (hd ⟨9, .data⟩ (by simp) rfl _ _ rfl rfl); exact flow_val (by go_simp; try rfl) ⟨rfl, hC, fun _ _ _ h => h⟩
          · have eg := tmp_bool (hd ⟨5, .guard⟩ (by simp) rfl _ _ rfl rfl : a.tmps.getD 70 undef = .bool false); rw [if_pos (by simp [Region.wanted, yielded, eg])]; clear eg; have e75 : a.tmps[75]?.getD undef = .pointer (some ⟨bb, oo, none⟩) := gd (hd ⟨10, .data⟩ (by simp) rfl _ _ rfl rfl); have g0 := bget hC q0 hbr; exact flow_val (by go_simp; try rfl) ⟨rfl, hC, fun _ _ _ h => h⟩
          · have eg := tmp_bool (hd ⟨5, .guard⟩ (by simp) rfl _ _ rfl rfl : a.tmps.getD 70 undef = .bool false); rw [if_pos (by simp [Region.wanted, yielded, eg])]; clear eg; have e8 : a.tmps[8]?.getD undef = .slice (some ⟨sg, 0, none⟩) r.l1.length fcap := gd (hr 8 (free_of (by rfl))); exact flow_val (by go_simp; try rfl) ⟨rfl, hC, fun _ _ _ h => h⟩
          · have eg := tmp_bool (hd ⟨5, .guard⟩ (by simp) rfl _ _ rfl rfl : a.tmps.getD 70 undef = .bool false); rw [if_pos (by simp [Region.wanted, yielded, eg])]; clear eg; have e9 : a.tmps[9]?.getD undef = .int .i64 k := gd (hr 9 (free_of (by rfl))); exact flow_val (by go_simp; try rfl) ⟨rfl, hC, fun _ _ _ h => h⟩
          · have eg := tmp_bool (hd ⟨5, .guard⟩ (by simp) rfl _ _ rfl rfl : a.tmps.getD 70 undef = .bool false); rw [if_pos (by simp [Region.wanted, yielded, eg])]; clear eg; have e77 : a.tmps[77]?.getD undef = .slice (some ⟨sg, 0, none⟩) r.l1.length fcap := gd (hd ⟨12, .data⟩ (by simp) rfl _ _ rfl rfl); have e78 : a.tmps[78]?.getD undef = .int .i64 k := gd (hd ⟨13, .data⟩ (by simp) rfl _ _ rfl rfl); exact flow_val (by go_simp; try rfl) ⟨rfl, hC, fun _ _ _ h => h⟩
          · have eg := tmp_bool (hd ⟨5, .guard⟩ (by simp) rfl _ _ rfl rfl : a.tmps.getD 70 undef = .bool false); rw [if_pos (by simp [Region.wanted, yielded, eg])]; clear eg; have e79 : a.tmps[79]?.getD undef = .pointer (some ⟨sg, k, none⟩) := gd (hd ⟨14, .data⟩ (by simp) rfl _ _ rfl rfl); have g0 := bget hC s0 hsg; exact flow_val (by go_simp; try rfl) ⟨rfl, hC, fun _ _ _ h => h⟩
          · have eg := tmp_bool (hd ⟨5, .guard⟩ (by simp) rfl _ _ rfl rfl : a.tmps.getD 70 undef = .bool false); rw [if_pos (by simp [Region.wanted, yielded, eg])]; clear eg; have e76 : a.tmps[76]?.getD undef = .int .i64 k := gd (hd ⟨11, .data⟩ (by simp) rfl _ _ rfl rfl); have e80 : a.tmps[80]?.getD undef = .int .i64 k := gd (hd ⟨15, .data⟩ (by simp) rfl _ _ rfl rfl); exact flow_val (by first | (go_simp; done) | (go_simp; rfl) | (go_simp; simp [hq2]; done)) ⟨rfl, hC, fun _ _ _ h => h⟩
          · rw [if_pos (by rfl)]; have e70 : a.tmps[70]?.getD undef = .bool false := gd (hd ⟨5, .data⟩ (by simp) rfl _ _ rfl rfl); have e81 : a.tmps[81]?.getD undef = .bool false := gd (hd ⟨16, .data⟩ (by simp) rfl _ _ rfl rfl); exact flow_val (by go_simp; try rfl) ⟨rfl, hC, fun _ _ _ h => h⟩
          · rw [if_pos (by rfl)]; have e82 : a.tmps[82]?.getD undef = .bool false := gd (hd ⟨17, .data⟩ (by simp) rfl _ _ rfl rfl); exact flow_val (by go_simp; try rfl) ⟨rfl, hC, fun _ _ _ h => h⟩
          · have eg := tmp_bool (hd ⟨18, .guard⟩ (by simp) rfl _ _ rfl rfl : a.tmps.getD 83 undef = .bool false); rw [if_pos (by simp [Region.wanted, yielded, eg])]; clear eg; have e3 : a.tmps[3]?.getD undef = .pointer (some ⟨b, 0, none⟩) := gd (hr 3 (free_of (by rfl))); have g0 := bget hC cb0 hbl; have g1 := bget hC cb1 hbl; exact flow_val (by go_simp; try rfl) ⟨rfl, hC, fun _ _ _ h => h⟩
          · have eg := tmp_bool (hd ⟨18, .guard⟩ (by simp) rfl _ _ rfl rfl : a.tmps.getD 83 undef = .bool false); rw [if_pos (by simp [Region.wanted, yielded, eg])]; clear eg; have e3 : a.tmps[3]?.getD undef = .pointer (some ⟨b, 0, none⟩) := gd (hr 3 (free_of (by rfl))); exact flow_val (by go_simp; try rfl) ⟨rfl, hC, fun _ _ _ h => h⟩
          · have eg := tmp_bool (hd ⟨18, .guard⟩ (by simp) rfl _ _ rfl rfl : a.tmps.getD 83 undef = .bool false); rw [if_pos (by simp [Region.wanted, yielded, eg])]; clear eg; have e85 : a.tmps[85]?.getD undef = .pointer (some ⟨b, 1, none⟩) := gd (hd ⟨20, .data⟩ (by simp) rfl _ _ rfl rfl); have g0 := bget hC cb1 hbl; exact flow_val (by go_simp; try rfl) ⟨rfl, hC, fun _ _ _ h => h⟩
          · have eg := tmp_bool (hd ⟨18, .guard⟩ (by simp) rfl _ _ rfl rfl : a.tmps.getD 83 undef = .bool false); rw [if_pos (by simp [Region.wanted, yielded, eg])]; clear eg; have e7 : a.tmps[7]?.getD undef = .int .i64 n := gd (hr 7 (free_of (by rfl))); exact flow_val (by go_simp; try rfl) ⟨rfl, hC, fun _ _ _ h => h⟩
          · have eg := tmp_bool (hd ⟨18, .guard⟩ (by simp) rfl _ _ rfl rfl : a.tmps.getD 83 undef = .bool false); rw [if_pos (by simp [Region.wanted, yielded, eg])]; clear eg; have e86 : a.tmps[86]?.getD undef = .slice (some ad) f.length c2 := gd (hd ⟨21, .data⟩ (by simp) rfl _ _ rfl rfl); have e87 : a.tmps[87]?.getD undef = .int .i64 n := gd (hd ⟨22, .data⟩ (by simp) rfl _ _ rfl rfl); have hx := hadd; exact flow_val (by go_simp; try rfl) ⟨rfl, hC, fun _ _ _ h => h⟩
          · have eg := tmp_bool (hd ⟨18, .guard⟩ (by simp) rfl _ _ rfl rfl : a.tmps.getD 83 undef = .bool false); rw [if_pos (by simp [Region.wanted, yielded, eg])]; clear eg; have e88 : a.tmps[88]?.getD undef = .pointer (some ⟨bb, oo, none⟩) := gd (hd ⟨23, .data⟩ (by simp) rfl _ _ rfl rfl); have g0 := bget hC q0 hbr; have g1 := bget hC q1 hbr; have g2 := bget hC q2 hbr; have g3 := bget hC q3 hbr; have g4 := bget hC q4 hbr; have g5 := bget hC q5 hbr; have g6 := bget hC q6 hbr; exact flow_val (by go_simp; try rfl) ⟨rfl, hC, fun _ _ _ h => h⟩
          · have eg := tmp_bool (hd ⟨18, .guard⟩ (by simp) rfl _ _ rfl rfl : a.tmps.getD 83 undef = .bool false); rw [if_pos (by simp [Region.wanted, yielded, eg])]; clear eg; have e10 : a.tmps[10]?.getD undef = .pointer (some ⟨q, 0, none⟩) := gd (hr 10 (free_of (by rfl))); have g0 := bget hC u0 hql; have g1 := bget hC u1 hql; have g2 := bget hC u2 hql; have g3 := bget hC u3 hql; exact flow_val (by go_simp; try rfl) ⟨rfl, hC, fun _ _ _ h => h⟩
          · have eg := tmp_bool (hd ⟨18, .guard⟩ (by simp) rfl _ _ rfl rfl : a.tmps.getD 83 undef = .bool false); rw [if_pos (by simp [Region.wanted, yielded, eg])]; clear eg; have e84 : a.tmps[84]?.getD undef = .agg #[.slice A1 z.length c1, .slice (some ad) f.length c2] := gd (hd ⟨19, .data⟩ (by simp) rfl _ _ rfl rfl); have e89 : a.tmps[89]?.getD undef = .agg #[.int .i64 k, .slice A4 yl.length c4, .int .i64 y0, .bool y1, .int .i64 y2, .int .i64 y3, .int .i64 y4] := gd (hd ⟨24, .data⟩ (by simp) rfl _ _ rfl rfl); have e90 : a.tmps[90]?.getD undef = .agg #[.string x.nm, .slice za la.length zb2, .int .i64 x.res, .bool false] := gd (hd ⟨25, .data⟩ (by simp) rfl _ _ rfl rfl); exact flow_call (by go_simp) ((HTB.out w' hC).mono fun e w'' ⟨he, hb⟩ => ⟨_, he, rfl, hC.trans (hb.mono hC.size), fun _ _ _ h => h⟩)
          · have eg := tmp_bool (hd ⟨18, .guard⟩ (by simp) rfl _ _ rfl rfl : a.tmps.getD 83 undef = .bool false); rw [if_pos (by simp [Region.wanted, yielded, eg])]; clear eg; have e91 : a.tmps[91]?.getD undef = .bool ans := gd (hd ⟨26, .data⟩ (by simp) rfl _ _ rfl rfl); exact flow_val (by go_simp; try rfl) ⟨rfl, hC, fun _ _ _ h => h⟩
        intro vs' w4 hb4 hZ
        have v18 : vs' 18 = .bool false := hZ 18 _ _ (by omega) rfl rfl
        have v27 : vs' 27 = .bool (!ans) := hZ 27 _ _ (by omega) rfl rfl
        clear hZ cb0 cb1 q0 q1 q2 q3 q4 q5 q6 s0 u0 u1 u2 u3
        simp only [List.drop_succ_cons, List.drop_zero, List.take_succ_cons, List.take_zero, putAll, v18, v27]
        have HB5 := Lib.hid (HB4.out.trans (hb4.mono HB4.out.size))
        have HMB5 := Lib.hid (HMB4.out.below hb4)
        have HNR5 := Lib.hid (HNR4.out.below hb4)
        clear hb4 hql hbl hsg hbr hq4
        cases ans
        case false =>
         have HX := Lib.hid (show mayR r es z f = false by rw [HM0.out, HE2.out]; simp)
         go_wp2_with fail
         go_ret
         exact ⟨by rw [HX.out]; rfl, HB5.out⟩
        case true =>
         have HX := Lib.hid (show funsB z es 0 f = funsB z (es.drop (k + 1)) ((k + 1 : Nat) : Int) (f.drop (n + 1)) by rw [HE2.out]; simp)
         go_wp2_with fail
         go_roundw
         case rel => exact ⟨n + 1, k + 1, by go_num, by go_num, by omega, by omega, by omega, Lib.hid ⟨HB5.out, HMB5.out, HNR5.out, HX.out⟩⟩
         case measure => simp [intOf]; omega
  case pos =>
   have hkl' : (k : Int) < z.length := by omega
   obtain ⟨ad, bb, oo, cs, hA, hadd, hK, hc, hbl2⟩ := cells_at z78 HW.out.hz k hkl (by decide)
   subst hA
   obtain rfl := k78_open hK
   replace hadd : ad.add (k * 2) = ⟨bb, oo, none⟩ := hadd
   have hd : z.drop k = z.getD k z78 :: z.drop (k + 1) := by rw [List.drop_eq_getElem_cons hkl]; simp [hkl]
   have HE := Lib.hid (show sortsB z 2 = (((z.getD k z78).f0 == (k : Int) + 2 && !decide ((z.getD k z78).f1 < 1)) && sortsB (z.drop (k + 1)) (((k + 1 : Nat) : Int) + 2)) by rw [HQ.out, hd, sortsB, show (k : Int) + 2 + 1 = ((k + 1 : Nat) : Int) + 2 by omega])
   generalize z.getD k z78 = v at *
   obtain ⟨v0, v1⟩ := v
   simp only at hc HE
   have q0 : wr.cell? ⟨bb, oo, none⟩ = some (.int .i64 v0) := ((bcell HB.out).1 bb _ hbl2).trans (by have := hc 0 _ rfl; simpa using this)
   have q1 : wr.cell? ⟨bb, oo + 1, none⟩ = some (.int .i64 v1) := ((bcell HB.out).1 bb _ hbl2).trans (hc 1 _ rfl)
   have hbr : bb < wr.heap.size := Nat.lt_of_lt_of_le hbl2 HB.out.size
   have hnr := HNR.out
   unfold NumR at hnr
   rw [rangeI_len] at hnr
   obtain ⟨sg, rfl⟩ : ∃ sg, sa = some ⟨sg, 0, none⟩ := by
    rcases hnr.2 with ⟨_, h⟩ | ⟨sg, cap', cur, h1, _⟩
    · omega
    · simp at h1; exact ⟨sg, h1.1⟩
   have s0 : wr.cell? ⟨sg, k, none⟩ = some (.int .i64 ((k : Int) + 2)) := by
    rw [hnr.cellAt k (by omega)]; simp [rangeI, hkl]
   have hsg : sg < wr.heap.size := (hnr.lt sg rfl).2
   clear hK hc hd hnr hbl2
   by_cases hv : v0 = (k : Int) + 2
   case neg =>
    have hq : (v0 != (k : Int) + 2) = true := by simpa using hv
    have HX := Lib.hid (show sortsB z 2 = false by rw [HE.out, show (v0 == (k : Int) + 2) = false by simpa using hv]; rfl)
    go_wp2_with fail
    refine wp_region_flow3 19 (by kernel_rfl) (by kernel_rfl) ?_ (fun iz _ v => (ZM7t b ad z.length c1 k bb oo sg scap v0 v1) iz v) (fun w' => Below wr.heap.size wr w') (Below.drew (Below.refl _ wr)) ?_ ?_
    · intro i o' d hi ho hd
      have : i = 0 ∨ i = 1 ∨ i = 2 ∨ i = 3 ∨ i = 4 ∨ i = 5 ∨ i = 6 ∨ i = 7 ∨ i = 8 ∨ i = 9 ∨ i = 10 ∨ i = 11 ∨ i = 12 ∨ i = 13 ∨ i = 14 ∨ i = 15 ∨ i = 16 ∨ i = 17 ∨ i = 18 := by omega
      rcases this with rfl | rfl | rfl | rfl | rfl | rfl | rfl | rfl | rfl | rfl | rfl | rfl | rfl | rfl | rfl | rfl | rfl | rfl | rfl <;> (simp at ho; subst ho; simp at hd; subst hd; simp)
    · intro i o' hi ho
      have : i = 0 ∨ i = 1 ∨ i = 2 ∨ i = 3 ∨ i = 4 ∨ i = 5 ∨ i = 6 ∨ i = 7 ∨ i = 8 ∨ i = 9 ∨ i = 10 ∨ i = 11 ∨ i = 12 ∨ i = 13 ∨ i = 14 ∨ i = 15 ∨ i = 16 ∨ i = 17 ∨ i = 18 := by omega
      rcases this with rfl | rfl | rfl | rfl | rfl | rfl | rfl | rfl | rfl | rfl | rfl | rfl | rfl | rfl | rfl | rfl | rfl | rfl | rfl <;> (simp at ho; subst ho; intro a w' hC hd hr)
      · rw [if_pos (by rfl)]; have e3 : a.tmps[3]?.getD undef = .pointer (some ⟨b, 0, none⟩) := gd (hr 3 (free_of (by rfl))); exact flow_val (by go_simp; try rfl) ⟨rfl, hC, fun _ _ _ h => h⟩
      · rw [if_pos (by rfl)]; have e26 : a.tmps[26]?.getD undef = .pointer (some ⟨b, 0, none⟩) := gd (hd ⟨0, .data⟩ (by simp) rfl _ _ rfl rfl); have g0 := bget hC cb0 hbl; exact flow_val (by go_simp; try rfl) ⟨rfl, hC, fun _ _ _ h => h⟩
      · rw [if_pos (by rfl)]; have e6 : a.tmps[6]?.getD undef = .int .i64 k := gd (hr 6 (free_of (by rfl))); exact flow_val (by go_simp; try rfl) ⟨rfl, hC, fun _ _ _ h => h⟩
      · rw [if_pos (by rfl)]; have e27 : a.tmps[27]?.getD undef = .slice (some ad) z.length c1 := gd (hd ⟨1, .data⟩ (by simp) rfl _ _ rfl rfl); have e28 : a.tmps[28]?.getD undef = .int .i64 k := gd (hd ⟨2, .data⟩ (by simp) rfl _ _ rfl rfl); have hx := hadd; exact flow_val (by go_simp; try rfl) ⟨rfl, hC, fun _ _ _ h => h⟩
      · rw [if_pos (by rfl)]; have e29 : a.tmps[29]?.getD undef = .pointer (some ⟨bb, oo, none⟩) := gd (hd ⟨3, .data⟩ (by simp) rfl _ _ rfl rfl); exact flow_val (by go_simp; try rfl) ⟨rfl, hC, fun _ _ _ h => h⟩
      · rw [if_pos (by rfl)]; have e30 : a.tmps[30]?.getD undef = .pointer (some ⟨bb, oo, none⟩) := gd (hd ⟨4, .data⟩ (by simp) rfl _ _ rfl rfl); have g0 := bget hC q0 hbr; exact flow_val (by go_simp; try rfl) ⟨rfl, hC, fun _ _ _ h => h⟩
      · rw [if_pos (by rfl)]; have e5 : a.tmps[5]?.getD undef = .slice (some ⟨sg, 0, none⟩) z.length scap := gd (hr 5 (free_of (by rfl))); exact flow_val (by go_simp; try rfl) ⟨rfl, hC, fun _ _ _ h => h⟩
      · rw [if_pos (by rfl)]; have e6 : a.tmps[6]?.getD undef = .int .i64 k := gd (hr 6 (free_of (by rfl))); exact flow_val (by go_simp; try rfl) ⟨rfl, hC, fun _ _ _ h => h⟩
      · rw [if_pos (by rfl)]; have e32 : a.tmps[32]?.getD undef = .slice (some ⟨sg, 0, none⟩) z.length scap := gd (hd ⟨6, .data⟩ (by simp) rfl _ _ rfl rfl); have e33 : a.tmps[33]?.getD undef = .int .i64 k := gd (hd ⟨7, .data⟩ (by simp) rfl _ _ rfl rfl); exact flow_val (by go_simp; try rfl) ⟨rfl, hC, fun _ _ _ h => h⟩
      · rw [if_pos (by rfl)]; have e34 : a.tmps[34]?.getD undef = .pointer (some ⟨sg, k, none⟩) := gd (hd ⟨8, .data⟩ (by simp) rfl _ _ rfl rfl); have g0 := bget hC s0 hsg; exact flow_val (by go_simp; try rfl) ⟨rfl, hC, fun _ _ _ h => h⟩
      · rw [if_pos (by rfl)]; have e31 : a.tmps[31]?.getD undef = .int .i64 v0 := gd (hd ⟨5, .data⟩ (by simp) rfl _ _ rfl rfl); have e35 : a.tmps[35]?.getD undef = .int .i64 ((k : Int) + 2) := gd (hd ⟨9, .data⟩ (by simp) rfl _ _ rfl rfl); exact flow_val (by first | (go_simp; done) | (go_simp; rfl) | (go_simp; simp [hq]; done)) ⟨rfl, hC, fun _ _ _ h => h⟩
      · rw [if_pos (by rfl)]; have e36 : a.tmps[36]?.getD undef = .bool true := gd (hd ⟨10, .data⟩ (by simp) rfl _ _ rfl rfl); exact flow_val (by go_simp; try rfl) ⟨rfl, hC, fun _ _ _ h => h⟩
      · have eg := tmp_bool (hd ⟨11, .guard⟩ (by simp) rfl _ _ rfl rfl : a.tmps.getD 37 undef = .bool true); rw [if_neg (by simp [Region.wanted, yielded, eg])]; exact rfl
      · have eg := tmp_bool (hd ⟨11, .guard⟩ (by simp) rfl _ _ rfl rfl : a.tmps.getD 37 undef = .bool true); rw [if_neg (by simp [Region.wanted, yielded, eg])]; exact rfl
      · have eg := tmp_bool (hd ⟨11, .guard⟩ (by simp) rfl _ _ rfl rfl : a.tmps.getD 37 undef = .bool true); rw [if_neg (by simp [Region.wanted, yielded, eg])]; exact rfl
      · have eg := tmp_bool (hd ⟨11, .guard⟩ (by simp) rfl _ _ rfl rfl : a.tmps.getD 37 undef = .bool true); rw [if_neg (by simp [Region.wanted, yielded, eg])]; exact rfl
      · have eg := tmp_bool (hd ⟨11, .guard⟩ (by simp) rfl _ _ rfl rfl : a.tmps.getD 37 undef = .bool true); rw [if_neg (by simp [Region.wanted, yielded, eg])]; exact rfl
      · have eg := tmp_bool (hd ⟨11, .guard⟩ (by simp) rfl _ _ rfl rfl : a.tmps.getD 37 undef = .bool true); rw [if_neg (by simp [Region.wanted, yielded, eg])]; exact rfl
      · have eg := tmp_bool (hd ⟨11, .guard⟩ (by simp) rfl _ _ rfl rfl : a.tmps.getD 37 undef = .bool true); rw [if_neg (by simp [Region.wanted, yielded, eg])]; exact rfl
    intro vs' w4 hb4 hZ
    have v11 : vs' 11 = .bool true := hZ 11 _ _ (by omega) rfl rfl
    have v18 : vs' 18 = undef := hZ 18 _ _ (by omega) rfl rfl
    clear hZ cb0 q0 q1 s0
    simp only [List.drop_succ_cons, List.drop_zero, List.take_succ_cons, List.take_zero, putAll, v11, v18]
    have HB4 := Lib.hid (HB.out.trans (hb4.mono HB.out.size))
    clear hb4
    have HXX := Lib.hid (show mayR r es z f = false by unfold mayR; rw [HX.out]; simp)
    go_wp2_with fail
    go_ret
    exact ⟨by rw [HXX.out]; rfl, HB4.out⟩
   case pos =>
    subst hv
    have hq : ((k : Int) + 2 != (k : Int) + 2) = false := by simp
    have HX0 := Lib.hid (show sortsB z 2 = (!decide (v1 < 1) && sortsB (z.drop (k + 1)) (((k + 1 : Nat) : Int) + 2)) by rw [HE.out]; simp)
    have hv1 : decide (v1 < 1) = true ∨ decide (v1 < 1) = false := by cases decide (v1 < 1) <;> simp
    go_wp2_with fail
    refine wp_region_flow3 19 (by kernel_rfl) (by kernel_rfl) ?_ (fun iz _ v => (ZM7f b ad z.length c1 k bb oo sg scap ((k : Int) + 2) v1) iz v) (fun w' => Below wr.heap.size wr w') (Below.drew (Below.refl _ wr)) ?_ ?_
    · intro i o' d hi ho hd
      have : i = 0 ∨ i = 1 ∨ i = 2 ∨ i = 3 ∨ i = 4 ∨ i = 5 ∨ i = 6 ∨ i = 7 ∨ i = 8 ∨ i = 9 ∨ i = 10 ∨ i = 11 ∨ i = 12 ∨ i = 13 ∨ i = 14 ∨ i = 15 ∨ i = 16 ∨ i = 17 ∨ i = 18 := by omega
      rcases this with rfl | rfl | rfl | rfl | rfl | rfl | rfl | rfl | rfl | rfl | rfl | rfl | rfl | rfl | rfl | rfl | rfl | rfl | rfl <;> (simp at ho; subst ho; simp at hd; subst hd; simp)
    · intro i o' hi ho
      have : i = 0 ∨ i = 1 ∨ i = 2 ∨ i = 3 ∨ i = 4 ∨ i = 5 ∨ i = 6 ∨ i = 7 ∨ i = 8 ∨ i = 9 ∨ i = 10 ∨ i = 11 ∨ i = 12 ∨ i = 13 ∨ i = 14 ∨ i = 15 ∨ i = 16 ∨ i = 17 ∨ i = 18 := by omega
      rcases this with rfl | rfl | rfl | rfl | rfl | rfl | rfl | rfl | rfl | rfl | rfl | rfl | rfl | rfl | rfl | rfl | rfl | rfl | rfl <;> (simp at ho; subst ho; intro a w' hC hd hr)
      · rw [if_pos (by rfl)]; have e3 : a.tmps[3]?.getD undef = .pointer (some ⟨b, 0, none⟩) := gd (hr 3 (free_of (by rfl))); exact flow_val (by go_simp; try rfl) ⟨rfl, hC, fun _ _ _ h => h⟩
      · rw [if_pos (by rfl)]; have e26 : a.tmps[26]?.getD undef = .pointer (some ⟨b, 0, none⟩) := gd (hd ⟨0, .data⟩ (by simp) rfl _ _ rfl rfl); have g0 := bget hC cb0 hbl; exact flow_val (by go_simp; try rfl) ⟨rfl, hC, fun _ _ _ h => h⟩
      · rw [if_pos (by rfl)]; have e6 : a.tmps[6]?.getD undef = .int .i64 k := gd (hr 6 (free_of (by rfl))); exact flow_val (by go_simp; try rfl) ⟨rfl, hC, fun _ _ _ h => h⟩
      · rw [if_pos (by rfl)]; have e27 : a.tmps[27]?.getD undef = .slice (some ad) z.length c1 := gd (hd ⟨1, .data⟩ (by simp) rfl _ _ rfl rfl); have e28 : a.tmps[28]?.getD undef = .int .i64 k := gd (hd ⟨2, .data⟩ (by simp) rfl _ _ rfl rfl); have hx := hadd; exact flow_val (by go_simp; try rfl) ⟨rfl, hC, fun _ _ _ h => h⟩
      · rw [if_pos (by rfl)]; have e29 : a.tmps[29]?.getD undef = .pointer (some ⟨bb, oo, none⟩) := gd (hd ⟨3, .data⟩ (by simp) rfl _ _ rfl rfl); exact flow_val (by go_simp; try rfl) ⟨rfl, hC, fun _ _ _ h => h⟩
      · rw [if_pos (by rfl)]; have e30 : a.tmps[30]?.getD undef = .pointer (some ⟨bb, oo, none⟩) := gd (hd ⟨4, .data⟩ (by simp) rfl _ _ rfl rfl); have g0 := bget hC q0 hbr; exact flow_val (by go_simp; try rfl) ⟨rfl, hC, fun _ _ _ h => h⟩
      · rw [if_pos (by rfl)]; have e5 : a.tmps[5]?.getD undef = .slice (some ⟨sg, 0, none⟩) z.length scap := gd (hr 5 (free_of (by rfl))); exact flow_val (by go_simp; try rfl) ⟨rfl, hC, fun _ _ _ h => h⟩
      · rw [if_pos (by rfl)]; have e6 : a.tmps[6]?.getD undef = .int .i64 k := gd (hr 6 (free_of (by rfl))); exact flow_val (by go_simp; try rfl) ⟨rfl, hC, fun _ _ _ h => h⟩
      · rw [if_pos (by rfl)]; have e32 : a.tmps[32]?.getD undef = .slice (some ⟨sg, 0, none⟩) z.length scap := gd (hd ⟨6, .data⟩ (by simp) rfl _ _ rfl rfl); have e33 : a.tmps[33]?.getD undef = .int .i64 k := gd (hd ⟨7, .data⟩ (by simp) rfl _ _ rfl rfl); exact flow_val (by go_simp; try rfl) ⟨rfl, hC, fun _ _ _ h => h⟩
      · rw [if_pos (by rfl)]; have e34 : a.tmps[34]?.getD undef = .pointer (some ⟨sg, k, none⟩) := gd (hd ⟨8, .data⟩ (by simp) rfl _ _ rfl rfl); have g0 := bget hC s0 hsg; exact flow_val (by go_simp; try rfl) ⟨rfl, hC, fun _ _ _ h => h⟩
      · rw [if_pos (by rfl)]; have e31 : a.tmps[31]?.getD undef = .int .i64 ((k : Int) + 2) := gd (hd ⟨5, .data⟩ (by simp) rfl _ _ rfl rfl); have e35 : a.tmps[35]?.getD undef = .int .i64 ((k : Int) + 2) := gd (hd ⟨9, .data⟩ (by simp) rfl _ _ rfl rfl); exact flow_val (by first | (go_simp; done) | (go_simp; rfl) | (go_simp; simp [hq]; done)) ⟨rfl, hC, fun _ _ _ h => h⟩
      · rw [if_pos (by rfl)]; have e36 : a.tmps[36]?.getD undef = .bool false := gd (hd ⟨10, .data⟩ (by simp) rfl _ _ rfl rfl); exact flow_val (by go_simp; try rfl) ⟨rfl, hC, fun _ _ _ h => h⟩
      · have eg := tmp_bool (hd ⟨11, .guard⟩ (by simp) rfl _ _ rfl rfl : a.tmps.getD 37 undef = .bool false); rw [if_pos (by simp [Region.wanted, yielded, eg])]; clear eg; have e3 : a.tmps[3]?.getD undef = .pointer (some ⟨b, 0, none⟩) := gd (hr 3 (free_of (by rfl))); exact flow_val (by go_simp; try rfl) ⟨rfl, hC, fun _ _ _ h => h⟩
      · have eg := tmp_bool (hd ⟨11, .guard⟩ (by simp) rfl _ _ rfl rfl : a.tmps.getD 37 undef = .bool false); rw [if_pos (by simp [Region.wanted, yielded, eg])]; clear eg; have e38 : a.tmps[38]?.getD undef = .pointer (some ⟨b, 0, none⟩) := gd (hd ⟨12, .data⟩ (by simp) rfl _ _ rfl rfl); have g0 := bget hC cb0 hbl; exact flow_val (by go_simp; try rfl) ⟨rfl, hC, fun _ _ _ h => h⟩
      · have eg := tmp_bool (hd ⟨11, .guard⟩ (by simp) rfl _ _ rfl rfl : a.tmps.getD 37 undef = .bool false); rw [if_pos (by simp [Region.wanted, yielded, eg])]; clear eg; have e6 : a.tmps[6]?.getD undef = .int .i64 k := gd (hr 6 (free_of (by rfl))); exact flow_val (by go_simp; try rfl) ⟨rfl, hC, fun _ _ _ h => h⟩
      · have eg := tmp_bool (hd ⟨11, .guard⟩ (by simp) rfl _ _ rfl rfl : a.tmps.getD 37 undef = .bool false); rw [if_pos (by simp [Region.wanted, yielded, eg])]; clear eg; have e39 : a.tmps[39]?.getD undef = .slice (some ad) z.length c1 := gd (hd ⟨13, .data⟩ (by simp) rfl _ _ rfl rfl); have e40 : a.tmps[40]?.getD undef = .int .i64 k := gd (hd ⟨14, .data⟩ (by simp) rfl _ _ rfl rfl); have hx := hadd; exact flow_val (by go_simp; try rfl) ⟨rfl, hC, fun _ _ _ h => h⟩
      · have eg := tmp_bool (hd ⟨11, .guard⟩ (by simp) rfl _ _ rfl rfl : a.tmps.getD 37 undef = .bool false); rw [if_pos (by simp [Region.wanted, yielded, eg])]; clear eg; have e41 : a.tmps[41]?.getD undef = .pointer (some ⟨bb, oo, none⟩) := gd (hd ⟨15, .data⟩ (by simp) rfl _ _ rfl rfl); exact flow_val (by go_simp; try rfl) ⟨rfl, hC, fun _ _ _ h => h⟩
      · have eg := tmp_bool (hd ⟨11, .guard⟩ (by simp) rfl _ _ rfl rfl : a.tmps.getD 37 undef = .bool false); rw [if_pos (by simp [Region.wanted, yielded, eg])]; clear eg; have e42 : a.tmps[42]?.getD undef = .pointer (some ⟨bb, oo + 1, none⟩) := gd (hd ⟨16, .data⟩ (by simp) rfl _ _ rfl rfl); have g0 := bget hC q1 hbr; exact flow_val (by go_simp; try rfl) ⟨rfl, hC, fun _ _ _ h => h⟩
      · have eg := tmp_bool (hd ⟨11, .guard⟩ (by simp) rfl _ _ rfl rfl : a.tmps.getD 37 undef = .bool false); rw [if_pos (by simp [Region.wanted, yielded, eg])]; clear eg; have e43 : a.tmps[43]?.getD undef = .int .i64 v1 := gd (hd ⟨17, .data⟩ (by simp) rfl _ _ rfl rfl); exact flow_val (by go_simp; try rfl) ⟨rfl, hC, fun _ _ _ h => h⟩
    intro vs' w4 hb4 hZ
    have v11 : vs' 11 = .bool false := hZ 11 _ _ (by omega) rfl rfl
    have v18 : vs' 18 = .bool (decide (v1 < 1)) := hZ 18 _ _ (by omega) rfl rfl
    clear hZ cb0 q0 q1 s0
    simp only [List.drop_succ_cons, List.drop_zero, List.take_succ_cons, List.take_zero, putAll, v11, v18]
    have HB4 := Lib.hid (HB.out.trans (hb4.mono HB.out.size))
    have HMB4 := Lib.hid (HMB.out.below hb4)
    have HNR4 := Lib.hid (HNR.out.below hb4)
    clear hb4
    by_cases hlt : v1 < 1
    case pos =>
     have HXX := Lib.hid (show mayR r es z f = false by unfold mayR; rw [HX0.out, decide_eq_true hlt]; simp)
     go_wp2_with fail
     go_ret
     exact ⟨by rw [HXX.out]; rfl, HB4.out⟩
    case neg =>
     have HX := Lib.hid (show sortsB z 2 = sortsB (z.drop (k + 1)) (((k + 1 : Nat) : Int) + 2) by rw [HX0.out, decide_eq_false hlt]; rfl)
     go_wp2_with fail
     go_roundw
     case rel => exact ⟨k + 1, by go_num, by omega, Lib.hid ⟨HB4.out, HMB4.out, HNR4.out, HX.out⟩⟩
     case measure => simp [intOf]; omega
end Go.Proofs.YtendekbckfpmgaaGreat
namespace Go.Proofs.YtendekbckfpmgaaGreat
open Go Go.RowKit Go.Proofs.YtendekbckfpmgaaGreatW.PrintWords Go.Proofs.YtendekbckfpmgaaGreat.PWorldMay
theorem eqInts_l0 (l m : List Int) (hl : l.length ≤ maxLen) (hlm : l.length = m.length) : ∀ (n i : Nat), l.length - i ≤ n → i ≤ l.length → ∃ K, ∀ k, K ≤ k → api_Sort_51.l0 k l m (l.length : Int) (i : Int) = some (decide (l.drop i = m.drop i)) := by
 have hmx : maxLen ≤ 9223372036854775807 := by decide
 intro n
 induction n with
 | zero =>
  intro i h1 h2
  refine ⟨1, fun k hk => ?_⟩
  obtain ⟨k, rfl⟩ : ∃ j, k = j + 1 := ⟨k - 1, by omega⟩
  rw [api_Sort_51.l0, if_neg (by omega), List.drop_of_length_le (by omega), List.drop_of_length_le (by omega)]; rfl
 | succ n ih =>
  intro i h1 h2
  by_cases h : i < l.length
  · obtain ⟨K1, hK1⟩ := ih (i + 1) (by omega) (by omega)
    have hsm : wrap64 ((i : Int) + 1) = ((i + 1 : Nat) : Int) := by unfold wrap64; omega
    refine ⟨K1 + 1, fun k hk => ?_⟩
    obtain ⟨k, rfl⟩ : ∃ j, k = j + 1 := ⟨k - 1, by omega⟩
    have e1 : rd l (i : Int) = l.getD i 0 := rfl
    have e2 : rd m (i : Int) = m.getD i 0 := rfl
    rw [api_Sort_51.l0, if_pos (by omega), if_pos (by omega), if_pos (by omega), if_pos (by omega), e1, e2, hsm]
    have d1 : l.drop i = l.getD i 0 :: l.drop (i + 1) := by rw [List.drop_eq_getElem_cons h]; simp [h]
    have d2 : m.drop i = m.getD i 0 :: m.drop (i + 1) := by
     have h' : i < m.length := by omega
     rw [List.drop_eq_getElem_cons h']; simp [h']
    by_cases c : l.getD i 0 = m.getD i 0
    · rw [if_pos c, hK1 k (by omega), d1, d2, c]; simp
    · rw [if_neg c, d1, d2]; exact congrArg some (decide_eq_false (fun e => c (List.cons.inj e).1)).symm
  · refine ⟨1, fun k hk => ?_⟩
    obtain ⟨k, rfl⟩ : ∃ j, k = j + 1 := ⟨k - 1, by omega⟩
    rw [api_Sort_51.l0, if_neg (by omega), List.drop_of_length_le (by omega), List.drop_of_length_le (by omega)]; rfl
theorem eqInts_f (l m : List Int) (hl : l.length ≤ maxLen) : ∃ k, api_Sort_51.f k l m = some (decide (l = m)) := by
 by_cases h : l.length = m.length
 · obtain ⟨K, hK⟩ := eqInts_l0 l m hl h l.length 0 (by omega) (by omega)
   refine ⟨K, ?_⟩
   unfold api_Sort_51.f
   rw [if_pos (by omega)]
   have := hK K (Nat.le_refl _)
   simpa using this
 · refine ⟨0, ?_⟩
   unfold api_Sort_51.f
   rw [if_neg (by omega)]
   have : ¬ l = m := fun e => h (by rw [e])
   simp [this]
def mapZ (z : List S78) : DataW Unit := z.foldl (fun D s => D.put (.int .i64 s.f0) (.lit (.int .i64 s.f1))) (.map [])
theorem mapZ_succ (z : List S78) (s : S78) : mapZ (z ++ [s]) = (mapZ z).put (.int .i64 s.f0) (.lit (.int .i64 s.f1)) := by simp [mapZ]
theorem new_at (w : World) (l : List Value) (t : TypeId) (j : Nat) (u : Value) (h : l[j]? = some u) : (w.alloc (.cells l.toArray t)).cell? ((⟨w.heap.size, 0, none⟩ : Addr).add j) = some u := by
 have := (CellsW.new w l t j u h).1
 rw [show ((⟨w.heap.size, 0, none⟩ : Addr).add j) = ⟨w.heap.size, j, none⟩ by cases j <;> simp [Addr.add]]
 exact this
theorem I64.wf {n : Int} (h : I64 n) : (Lit.int .i64 n).wf = true := by
 have l1 : IntKind.i64.min = -9223372036854775808 := by decide
 have l2 : IntKind.i64.max = 9223372036854775807 := by decide
 simp only [Lit.wf, Bool.and_eq_true, decide_eq_true_eq]; rw [l1, l2]; exact h
def liveF : List (Fd × List Int) → Int → List (Int × Fd × List Int)
 | [], _ => []
 | p :: t, i => if p.1.df = true then liveF t (i + 1) else (i, p) :: liveF t (i + 1)
theorem liveF_append : ∀ (a b : List (Fd × List Int)) (i : Int), liveF (a ++ b) i = liveF a i ++ liveF b (i + a.length)
 | [], b, i => by simp [liveF]
 | p :: a, b, i => by
  simp only [List.cons_append, liveF, List.length_cons]
  rw [liveF_append a b (i + 1), show i + 1 + (a.length : Int) = i + ((a.length + 1 : Nat) : Int) by omega]
  split <;> simp
theorem liveF_len : ∀ (a : List (Fd × List Int)) (i : Int), (liveF a i).length ≤ a.length
 | [], _ => Nat.le_refl _
 | p :: a, i => by
  have := liveF_len a (i + 1)
  simp only [liveF]; split <;> simp <;> omega
theorem liveF_mem : ∀ (a : List (Fd × List Int)) (i : Int) (q : Int × Fd × List Int), q ∈ liveF a i → ∃ j : Nat, a[j]? = some q.2 ∧ q.1 = i + j
 | [], _, _, h => by simp [liveF] at h
 | p :: a, i, q, h => by
  simp only [liveF] at h
  have rest : q ∈ liveF a (i + 1) → ∃ j : Nat, (p :: a)[j]? = some q.2 ∧ q.1 = i + j := fun h => by
   obtain ⟨j, h1, h2⟩ := liveF_mem a (i + 1) q h
   exact ⟨j + 1, by simpa using h1, by omega⟩
  split at h
  · exact rest h
  · rcases List.mem_cons.1 h with rfl | h
    · exact ⟨0, by simp, by simp⟩
    · exact rest h
def tabsP (D : DataW Unit) : List (Int × Fd × List Int) → List S81 → Bool
 | q :: t, y :: ys => (y.f0 == q.1 && tableB D y.f1 y.f2 q.2.1.res q.2.2) && tabsP D t ys
 | _, _ => true
def mayP (n : Nat) (es : List (Fd × List Int)) (z : List S78) (f : List S81) : Bool :=
 (z.all fun s => !decide (s.f1 < 1)) && (decide (z.map (·.f0) = rangeI 2 n) && (decide ((liveF es 0).length = f.length) && tabsP (mapZ z) (liveF es 0) f))
def ZP27t (b : Nat) (ad : Addr) (l c2 k bb oo _q m : Nat) (yn i : Int) (vt vf : Value) (ans : Bool) : Nat → Value → Prop
 | 0, v => v = .pointer (some ⟨b, 1, none⟩)
 | 1, v => v = .slice (some ad) l c2
 | 2, v => v = .int .i64 k
 | 3, v => v = .pointer (some ⟨bb, oo, none⟩)
 | 4, v => v = .pointer (some ⟨bb, oo, none⟩)
 | 5, v => v = .int .i64 yn
 | 6, v => v = .int .i64 i
 | 7, v => v = .bool false
 | 8, v => v = .bool false
 | 9, v => v = .map (some m)
 | 10, v => v = .pointer (some ⟨b, 1, none⟩)
 | 11, v => v = .slice (some ad) l c2
 | 12, v => v = .int .i64 k
 | 13, v => v = .pointer (some ⟨bb, oo, none⟩)
 | 14, v => v = vt
 | 15, v => v = vf
 | 16, v => v = .bool ans
 | _, v => v = .bool (!ans)
def ZP27f (b : Nat) (ad : Addr) (l c2 k bb oo _q _m : Nat) (yn i : Int) (_vt _vf : Value) (_ans : Bool) : Nat → Value → Prop
 | 0, v => v = .pointer (some ⟨b, 1, none⟩)
 | 1, v => v = .slice (some ad) l c2
 | 2, v => v = .int .i64 k
 | 3, v => v = .pointer (some ⟨bb, oo, none⟩)
 | 4, v => v = .pointer (some ⟨bb, oo, none⟩)
 | 5, v => v = .int .i64 yn
 | 6, v => v = .int .i64 i
 | 7, v => v = .bool true
 | 8, v => v = .bool true
 | 9, v => v = undef
 | 10, v => v = undef
 | 11, v => v = undef
 | 12, v => v = undef
 | 13, v => v = undef
 | 14, v => v = undef
 | 15, v => v = undef
 | 16, v => v = undef
 | _, v => v = undef
set_option maxRecDepth 100000 in
set_option maxHeartbeats 4000000 in
theorem pmay_any {B : Nat} {w : World} {g : Nat} {x y : Nm} (h : STab B w g x y) (hNx : Nums x.fs x.D) (hNy : Nums y.fs y.D)
 (hrx : ∀ vs, Rises x.D vs → vs.map (· + 2) = rangeI 2 x.fs.length) (hry : ∀ vs, Rises y.D vs → vs = rangeI 0 y.fs.length)
 {A1 : Option Addr} {c1 : Nat} {z : List S78} {A2 : Option Addr} {c2 : Nat} {f : List S81}
 (es : List (Fd × List Int)) (hes : es.map Prod.fst = y.fs) (hargs : ∀ p ∈ es, p.2.length ≤ 20 ∧ (∀ s ∈ p.2, I64 s) ∧ I64 p.1.res ∧ w.ownsRow B 43 1 p.1.ar p.2.length (p.2.map (Value.int .i64)))
 (hw : WorldC w A1 c1 z A2 c2 f) (hin : WorldIn z f) :
 Calls Tryz.prog 18 #[.pointer (some ⟨g, 0, none⟩), .agg #[.slice A1 z.length c1, .slice A2 f.length c2]] w fun e w' => e = .returned (.bool (mayP x.fs.length es z f)) ∧ Below w.heap.size w w' := by
 have hmm := @run_makeMap Tryz.prog
 obtain ⟨i0, hi, hz0, hz1, hz2⟩ := info_parts infoI
 obtain ⟨j0, hj, hy0, hy1, hy2⟩ := info_parts infoN
 have HA := Lib.hid hargs
 have HES := Lib.hid hes
 have HW := Lib.hid hw
 have HI := Lib.hid hin
 have HT := Lib.hid h
 have HN := Lib.hid (And.intro hNx hNy)
 have HR := Lib.hid (And.intro hrx hry)
 have hx2 := h.okx.nf
 have hy2k := h.oky.nf
 have hzl : z.length ≤ bN := HI.out.1.1
 have hbN : bN = 1048576 := rfl
 clear h hw hin hargs hes hNx hNy hrx hry
 go_enter Tryz.func18, Tryz.ntmps18
 go_wp2_with fail
 have HR0 := Lib.hid (show RowB ((w.alloc (.cells #[.slice A1 z.length c1, .slice A2 f.length c2] 37)).alloc (.map #[] 0)) w.heap.size 37 [.slice A1 z.length c1, .slice A2 f.length c2] from RowB.alloc (RowB.new w [.slice A1 z.length c1, .slice A2 f.length c2] 37) _)
 have HM0 := Lib.hid (show ownsZ ((w.alloc (.cells #[.slice A1 z.length c1, .slice A2 f.length c2] 37)).alloc (.map #[] 0)) (w.heap.size + 1) 0 (mapZ []) by
  have := World.ownsMap_made (H := Unit) (w.alloc (.cells #[.slice A1 z.length c1, .slice A2 f.length c2] 37)) Tryz.prog 43 (plainElem Tryz.prog 2)
  rw [show (w.alloc (.cells #[.slice A1 z.length c1, .slice A2 f.length c2] 37)).heap.size = w.heap.size + 1 by simp] at this
  exact this)
 have HB0 := Lib.hid (show Below w.heap.size w ((w.alloc (.cells #[.slice A1 z.length c1, .slice A2 f.length c2] 37)).alloc (.map #[] 0)) from ((Below.refl _ w).alloc (Nat.le_refl _) _).alloc (by simp) _)
 have hmb : w.heap.size ≤ w.heap.size + 1 := by omega
 generalize hm : w.heap.size + 1 = m at HM0 hmb ⊢
 generalize hb : w.heap.size = b at HR0 ⊢
 have HBE := Lib.hid hb
 clear hb hm
 go_loopw [6, 24] (fun vt vi wr => ∃ k : Nat, vi = .int .i64 k ∧ k ≤ z.length ∧ Hid (Below w.heap.size w wr ∧ RowB wr b 37 [.slice A1 z.length c1, .slice A2 f.length c2] ∧ wr.ownsRow w.heap.size 43 1 vt k (((z.take k).map (·.f0)).map (Value.int .i64)) ∧ ownsZ wr m k (mapZ (z.take k)) ∧ ((z.take k).all fun s => !decide (s.f1 < 1)) = true)) (fun _ vi _ => z.length - (intOf vi).toNat)
 case atStart => exact ⟨0, rfl, by omega, Lib.hid ⟨HB0.out, HR0.out, World.ownsRow_nil _ _ _ _, HM0.out, rfl⟩⟩
 case round =>
  clear HB0 HR0 HM0
  obtain ⟨k, rfl, hk, hh⟩ := hrel
  have HB := Lib.hid hh.out.1
  have HRB := Lib.hid hh.out.2.1
  obtain ⟨av, cv, hve, _⟩ := own_slice hh.out.2.2.1
  subst hve
  have HV := Lib.hid hh.out.2.2.1
  have HM := Lib.hid hh.out.2.2.2.1
  have HQ := Lib.hid hh.out.2.2.2.2
  have cb0 : wr.cell? ⟨b, 0, none⟩ = some (.slice A1 z.length c1) := hh.out.2.1.cell 0
  have cb1 : wr.cell? ⟨b, 1, none⟩ = some (.slice A2 f.length c2) := hh.out.2.1.cell 1
  have hbl : b < wr.heap.size := hh.out.2.1.lt
  clear hh
  by_cases hkl : k < z.length
  case neg =>
   have hkl' : ¬ (k : Int) < z.length := by omega
   obtain rfl : k = z.length := by omega
   have hv := HV.out
   have hmz := HM.out
   have hqz := HQ.out
   rw [List.take_length] at hv hmz hqz
   have HV := Lib.hid hv
   have HM := Lib.hid hmz
   have HQ := Lib.hid hqz
   have hmw : m < wr.heap.size := by obtain ⟨es, clock, hb, _⟩ := hmz; exact lt_of_block hb
   clear hv hmz hqz hk hkl cb0 cb1 hbl
   go_wp2_with fail
   refine (funs_any (HT.out.below HB.out) HN.out.2).mono ?_; rintro e w2 ⟨fv, vs, rfl, hri, hfo, hb2⟩
   obtain rfl := HR.out.2 vs hri
   rw [rangeI_len] at hfo
   obtain ⟨fa, fcap, rfl, _⟩ := own_slice hfo
   have HB2 := Lib.hid (HB.out.trans (hb2.mono HB.out.size))
   have HR2 := Lib.hid (HRB.out.kept (S := fun _ => False) (Ch.ofBelow hb2) (fun e => e))
   have HV2 := Lib.hid (ownsRow_ch (S := fun _ => False) HV.out (Ch.ofBelow hb2) (fun _ _ e => e))
   have HM2 := Lib.hid (ownsMap_ch (S := fun _ => False) HM.out (Ch.ofBelow hb2) (fun e => e))
   have HFN := Lib.hid (show NumR w2 3 (.slice fa y.fs.length fcap) (rangeI 0 y.fs.length) by unfold NumR; rw [rangeI_len]; exact own_lower hfo (Nat.zero_le _))
   clear hb2 hfo HB HRB HV HM hri
   go_wp2_with fail
   have hvn : ∀ vf : Value, vf = vf := fun _ => rfl
   clear hvn
   go_loopw [9, 45] (fun vf vi wr => ∃ k : Nat, vi = .int .i64 k ∧ k ≤ y.fs.length ∧ Hid (Below w2.heap.size w2 wr ∧ wr.ownsRow w2.heap.size 3 1 vf (liveF (es.take k) 0).length ((liveF (es.take k) 0).map fun q => Value.int .i64 q.1))) (fun _ vi _ => y.fs.length - (intOf vi).toNat)
   case atStart => exact ⟨0, rfl, by omega, Lib.hid ⟨Below.refl _ _, World.ownsRow_nil _ _ _ _⟩⟩
   case round =>
    obtain ⟨k, rfl, hk, hh⟩ := hrel
    obtain ⟨av2, cv2, hve, _⟩ := own_slice hh.out.2
    subst hve
    have HB := Lib.hid hh.out.1
    have HV := Lib.hid hh.out.2
    clear hh
    have hel : es.length = y.fs.length := by rw [← HES.out]; simp
    by_cases hkl : k < y.fs.length
    case neg =>
     have hkl' : ¬ (k : Int) < y.fs.length := by omega
     obtain rfl : k = y.fs.length := by omega
     have hv := HV.out
     rw [← hel, List.take_length] at hv
     generalize hlv : liveF es 0 = lv at *
     have HLV := Lib.hid hlv
     have hll : lv.length ≤ 2000 := by have := liveF_len es 0; rw [hlv] at this; omega
     clear hlv
     have hnn : (liveF (List.take y.fs.length es) 0).length = lv.length := by rw [← hel, List.take_length, HLV.out]
     rw [hnn]
     have HV := Lib.hid hv
     have HBK := Lib.hid (HB2.out.trans (HB.out.mono HB2.out.size))
     have hrk := HR2.out.kept (S := fun _ => False) (Ch.ofBelow HB.out) (fun e => e)
     have cb1 : wr.cell? ⟨b, 1, none⟩ = some (.slice A2 f.length c2) := hrk.cell 1
     have HRK := Lib.hid hrk
     clear hv hrk
     go_wp2_with fail
     refine (sorts_any (HT.out.below HBK.out) HN.out.1).mono ?_; rintro e w4 ⟨sv, vs, rfl, hri, hso, hb4⟩
     have e2 := HR.out.1 vs hri
     have hvl : vs.length = x.fs.length := by have := congrArg List.length e2; simpa [rangeI_len] using this
     rw [e2, hvl] at hso
     obtain ⟨sa, scap, rfl, hsc⟩ := own_slice hso
     have HB4 := Lib.hid (HB.out.trans (hb4.mono HB.out.size))
     have HV4 := Lib.hid (ownsRow_ch (S := fun _ => False) HV.out (Ch.ofBelow hb4) (fun _ _ e => e))
     have hst : (Kd.int .i64).C w4 sa x.fs.length (rangeI 2 x.fs.length) ∧ x.fs.length ≤ scap := by
      have h0 : ArOk w4 (rangeI 2 x.fs.length) (.slice sa x.fs.length scap) := by unfold ArOk; rw [rangeI_len]; exact own_lower hso (Nat.zero_le _)
      obtain ⟨A5, c5, he, hle, hC⟩ := args_C h0
      rw [rangeI_len] at he hle hC
      simp only [Value.slice.injEq] at he
      obtain ⟨rfl, _, rfl⟩ := he
      exact ⟨hC, hle⟩
     have hth : (Kd.int .i64).C w4 av z.length (z.map (·.f0)) ∧ z.length ≤ cv := by
      have h1 := ownsRow_ch (S := fun _ => False) HV2.out (Ch.ofBelow HB4.out) (fun _ _ e => e)
      have h0 : ArOk w4 (z.map (·.f0)) (.slice av z.length cv) := by unfold ArOk; rw [List.length_map]; exact own_lower h1 (Nat.zero_le _)
      obtain ⟨A5, c5, he, hle, hC⟩ := args_C h0
      rw [List.length_map] at he hle hC
      simp only [Value.slice.injEq] at he
      obtain ⟨rfl, _, rfl⟩ := he
      exact ⟨hC, hle⟩
     obtain ⟨kk, hkk⟩ := eqInts_f (z.map (·.f0)) (rangeI 2 x.fs.length) (by rw [List.length_map]; unfold maxLen; omega)
     have HEQ := Lib.hid (show Calls Tryz.prog 51 #[.slice av z.length cv, .slice sa x.fs.length scap] w4 fun e w' => e = .returned (.bool (decide (z.map (·.f0) = rangeI 2 x.fs.length))) ∧ Drawn0 w4 w' by
      have := api_Sort_51.calls kk av cv (z.map (·.f0)) sa scap (rangeI 2 x.fs.length) _ w4 (by rw [List.length_map]; exact hth.1) (by rw [List.length_map]; exact hth.2) (by rw [rangeI_len]; exact hst.1) (by rw [rangeI_len]; exact hst.2) hkk
      rw [List.length_map, rangeI_len] at this
      exact this)
     clear hst hth hkk hso e2 hvl hri hb4 hsc cb1
     go_wp2_with fail
     refine HEQ.out.mono ?_; rintro e w5 ⟨rfl, hdr⟩
     have HB5 := Lib.hid (HB4.out.trans ((Drawn0.below hdr).mono HB4.out.size))
     have HVL := Lib.hid (ownsRow_ch (S := fun _ => False) HV4.out (Ch.ofBelow (Drawn0.below hdr)) (fun _ _ e => e))
     have HBK := Lib.hid (HB2.out.trans (HB5.out.mono HB2.out.size))
     have hrk := HR2.out.kept (S := fun _ => False) (Ch.ofBelow HB5.out) (fun e => e)
     have cb1 : w5.cell? ⟨b, 1, none⟩ = some (.slice A2 f.length c2) := hrk.cell 1
     have hbl := hrk.lt
     have HRK := Lib.hid hrk
     clear HEQ hdr hrk HB4
     have HQZ := Lib.hid (show mayP x.fs.length es z f = (decide (z.map (·.f0) = rangeI 2 x.fs.length) && (decide (lv.length = f.length) && tabsP (mapZ z) lv f)) by unfold mayP; rw [HQ.out, HLV.out]; rfl)
     by_cases heq : z.map (·.f0) = rangeI 2 x.fs.length
     case neg =>
      have hdq : decide (z.map (·.f0) = rangeI 2 x.fs.length) = false := decide_eq_false heq
      have HX := Lib.hid (show mayP x.fs.length es z f = false by rw [HQZ.out, hdq]; rfl)
      rw [hdq]
      go_wp2_with fail
      go_ret
      exact ⟨by rw [HX.out]; rfl, HBK.out⟩
     case pos =>
     have hdq : decide (z.map (·.f0) = rangeI 2 x.fs.length) = true := decide_eq_true heq
     rw [hdq]
     have hdq2 := HQZ.out
     rw [hdq] at hdq2
     have HQZ2 := Lib.hid hdq2
     clear hdq2 hdq heq
     by_cases hlf : lv.length = f.length
     case neg =>
      have hlf' : ((lv.length : Int) != (f.length : Int)) = true := by simp; omega
      have HX := Lib.hid (show mayP x.fs.length es z f = false by rw [HQZ2.out, decide_eq_false hlf]; rfl)
      go_wp2_with fail
      go_ret
      exact ⟨by rw [HX.out]; rfl, HBK.out⟩
     case pos =>
     have hlf' : ((lv.length : Int) != (f.length : Int)) = false := by simp; omega
     have HX := Lib.hid (show mayP x.fs.length es z f = tabsP (mapZ z) lv f by rw [HQZ2.out, decide_eq_true hlf]; rfl)
     have HMZ := Lib.hid (ownsMap_ch (S := fun _ => False) HM2.out (Ch.ofBelow HB5.out) (fun e => e))
     have HWC := Lib.hid (HW.out.below HBK.out)
     have HLM := Lib.hid (show ∀ (k : Nat) (q : Int × Fd × List Int), lv[k]? = some q → ∃ j : Nat, es[j]? = some q.2 ∧ q.1 = (j : Int) from fun k q h => by
      have := liveF_mem es 0 q (by rw [HLV.out]; exact List.mem_of_getElem? h)
      simpa using this)
     go_wp2_with fail
     clear cb1 hbl HV HB HB5 hnn
     go_loopw [78] (fun vi wr => ∃ k : Nat, vi = .int .i64 k ∧ k ≤ lv.length ∧ Hid (Below w5.heap.size w5 wr ∧ tabsP (mapZ z) lv f = tabsP (mapZ z) (lv.drop k) (f.drop k))) (fun vi _ => lv.length - (intOf vi).toNat)
     case atStart => exact ⟨0, rfl, by omega, Lib.hid ⟨Below.refl _ _, rfl⟩⟩
     case round =>
      obtain ⟨k, rfl, hk, hh⟩ := hrel
      have HB := Lib.hid hh.out.1
      have HT2 := Lib.hid hh.out.2
      have HBW := Lib.hid (HBK.out.trans (HB.out.mono HBK.out.size))
      clear hh
      by_cases hkl : k < lv.length
      case neg =>
       have hkl' : ¬ (k : Int) < lv.length := by omega
       have HXX := Lib.hid (show mayP x.fs.length es z f = true by rw [HX.out, HT2.out, List.drop_of_length_le (by omega)]; rfl)
       go_wp2_with fail
       go_ret
       exact ⟨by rw [HXX.out]; rfl, HBW.out⟩
      case pos =>
       have hkl' : (k : Int) < lv.length := by omega
       have hkf : k < f.length := by omega
       obtain ⟨⟨i, xf, la⟩, hq⟩ : ∃ p, lv[k]? = some p := ⟨_, List.getElem?_eq_getElem (by omega)⟩
       obtain ⟨j, hx2, hij⟩ := HLM.out k _ hq
       simp only at hx2 hij
       have hx : y.fs[j]? = some xf := by rw [← HES.out, List.getElem?_map, hx2]; rfl
       obtain ⟨hla, hsI, hrI, har⟩ := HA.out (xf, la) (List.mem_of_getElem? hx2)
       have har' := ownsRow_ch (S := fun _ => False) har (Ch.ofBelow HBW.out) (fun _ _ e => e)
       have HIN := Lib.hid (info_any (HT.out.below HBW.out) j xf hx la hla har')
       have hjl : j < y.fs.length := (List.getElem?_eq_some_iff.1 hx).1
       have HSI := Lib.hid hsI
       have HRI := Lib.hid hrI
       have hd1 : lv.drop k = (i, xf, la) :: lv.drop (k + 1) := by
        rw [List.drop_eq_getElem_cons hkl]
        have := (List.getElem?_eq_some_iff.1 hq).2
        rw [this]
       have hnr := ownsRow_ch (S := fun _ => False) HVL.out (Ch.ofBelow HB.out) (fun _ _ e => e)
       obtain ⟨sg, rfl⟩ : ∃ sg, av2 = some ⟨sg, 0, none⟩ := by
        rcases hnr.2 with ⟨_, h⟩ | ⟨sg, cap', cur, h1, _⟩
        · omega
        · simp at h1; exact ⟨sg, h1.1⟩
       have s0 : wr.cell? ⟨sg, k, none⟩ = some (.int .i64 i) := by
        rw [hnr.cellAt k (by omega)]; simp [hq]
       obtain ⟨ad, bb, oo, cs, hA, hadd, hK, hc, hbl2⟩ := cells_at z81 HWC.out.hf k hkf (by decide)
       subst hA
       obtain ⟨A4, c4, rfl, hle4, hC4⟩ := k81_open hK
       replace hadd : ad.add (k * 7) = ⟨bb, oo, none⟩ := hadd
       have hd2 : f.drop k = f.getD k z81 :: f.drop (k + 1) := by rw [List.drop_eq_getElem_cons hkf]; simp [hkf]
       have HTI := Lib.hid (HI.out.2.2 (f.getD k z81) (by rw [List.getD_eq_getElem?_getD, List.getElem?_eq_getElem hkf]; exact List.getElem_mem _))
       have HE := Lib.hid (show tabsP (mapZ z) lv f = (((f.getD k z81).f0 == i && tableB (mapZ z) (f.getD k z81).f1 (f.getD k z81).f2 xf.res la) && tabsP (mapZ z) (lv.drop (k + 1)) (f.drop (k + 1))) by rw [HT2.out, hd1, hd2]; rfl)
       clear hnr har har' hx hx2 hsI hrI hq hd1 hd2 hK HT2
       subst hij
       go_wp2_with fail
       refine HIN.out.mono ?_; rintro e w3 ⟨⟨v', rfl, har3⟩, hb3⟩
       obtain ⟨za, zc, rfl, _⟩ := own_slice har3
       have HB3 := Lib.hid (HB.out.trans (hb3.mono HB.out.size))
       have har3' : (Kd.int .i64).C w3 za la.length la ∧ la.length ≤ zc := by
        have h0 : ArOk w3 la (.slice za la.length zc) := own_lower har3 (Nat.zero_le _)
        obtain ⟨A5, c5, he, hle, hC⟩ := args_C h0
        simp only [Value.slice.injEq] at he
        obtain ⟨rfl, _, rfl⟩ := he
        exact ⟨hC, hle⟩
       have HAR := Lib.hid har3'
       clear hb3 har3 har3' HIN s0 HB HBW
       go_wp2_with fail
       have hq4 : w3.heap.size < (w3.alloc (.cells #[.string xf.nm, .slice za la.length zc, .int .i64 xf.res, .bool xf.df] 72)).heap.size := by simp
       have hrw := RowB.new w3 [.string xf.nm, .slice za la.length zc, .int .i64 xf.res, .bool xf.df] 72
       have HB4 := Lib.hid (show Below w5.heap.size w5 (w3.alloc (.cells #[.string xf.nm, .slice za la.length zc, .int .i64 xf.res, .bool xf.df] 72)) from HB3.out.alloc HB3.out.size _)
       have HC4 := Lib.hid (show (Kd.int .i64).C (w3.alloc (.cells #[.string xf.nm, .slice za la.length zc, .int .i64 xf.res, .bool xf.df] 72)) za la.length la from Kd.C_below HAR.out.1 ((Below.refl _ _).alloc (Nat.le_refl _) _))
       replace hrw : RowB (w3.alloc (.cells #[.string xf.nm, .slice za la.length zc, .int .i64 xf.res, .bool xf.df] 72)) w3.heap.size 72 [.string xf.nm, .slice za la.length zc, .int .i64 xf.res, .bool xf.df] := hrw
       generalize w3.alloc (.cells #[.string xf.nm, .slice za la.length zc, .int .i64 xf.res, .bool xf.df] 72) = w4 at *
       generalize w3.heap.size = q at *
       have hql : q < w4.heap.size := hq4
       have u0 : w4.cell? ⟨q, 0, none⟩ = some (.string xf.nm) := hrw.cell 0
       have u1 : w4.cell? ⟨q, 1, none⟩ = some (.slice za la.length zc) := hrw.cell 1
       have u2 : w4.cell? ⟨q, 2, none⟩ = some (.int .i64 xf.res) := hrw.cell 2
       have u3 : w4.cell? ⟨q, 3, none⟩ = some (.bool xf.df) := hrw.cell 3
       have qs := fun i v (h : _) => ((bcell HB4.out).1 bb (oo + i) hbl2).trans (hc i v h)
       have hbr : bb < w4.heap.size := Nat.lt_of_lt_of_le hbl2 HB4.out.size
       have hrk := HRK.out.kept (S := fun _ => False) (Ch.ofBelow HB4.out) (fun e => e)
       have cb1 : w4.cell? ⟨b, 1, none⟩ = some (.slice (some ad) f.length c2) := hrk.cell 1
       have hbl : b < w4.heap.size := hrk.lt
       clear hc hrk hrw hq4
       generalize f.getD k z81 = yy at *
       obtain ⟨yn, yl, ⟨y0, y1, ⟨y2, y3⟩, y4⟩⟩ := yy
       simp only at hC4 hle4 HE qs HTI
       have q0 : w4.cell? ⟨bb, oo, none⟩ = some (.int .i64 yn) := by have := qs 0 _ rfl; simpa using this
       have q1 := qs 1 _ rfl
       have q2 := qs 2 _ rfl
       have q3 := qs 3 _ rfl
       have q4 := qs 4 _ rfl
       have q5 := qs 5 _ rfl
       have q6 := qs 6 _ rfl
       clear qs hbl2
       have HTB := Lib.hid (show ∀ w', Below w4.heap.size w4 w' → Calls Tryz.prog 52 #[.map (some m), .agg #[.int .i64 yn, .slice A4 yl.length c4, .int .i64 y0, .bool y1, .int .i64 y2, .int .i64 y3, .int .i64 y4], .agg #[.string xf.nm, .slice za la.length zc, .int .i64 xf.res, .bool xf.df]] w' fun e w'' => e = .returned (.bool (tableB (mapZ z) yl ⟨y0, y1, ⟨y2, y3⟩, y4⟩ xf.res la)) ∧ Below w'.heap.size w' w'' from fun w' hb' =>
        table_any (ownsMap_ch (S := fun _ => False) HMZ.out (Ch.ofBelow (HB4.out.trans (hb'.mono HB4.out.size))) (fun e => e)) xf.nm za zc la xf.res xf.df (Kd.C_below HC4.out hb') HSI.out HRI.out yn A4 yl c4 (Kd.C_below (Kd.C_below hC4 HB4.out) hb') (fun r hr => ⟨(HTI.out.2.1.2 r hr).1.2, (HTI.out.2.1.2 r hr).2, Nat.le_trans (HTI.out.2.1.2 r hr).1.1 (by decide)⟩) ⟨y0, y1, ⟨y2, y3⟩, y4⟩ HTI.out.2.2)
       generalize hans : tableB (mapZ z) yl ⟨y0, y1, ⟨y2, y3⟩, y4⟩ xf.res la = ans at *
       generalize hji : (j : Int) = i at *
       clear hC4 hle4
       by_cases hyk : yn = i
       case neg =>
        have hq2 : (yn != i) = true := by simpa using hyk
        have HXX := Lib.hid (show mayP x.fs.length es z f = false by rw [HX.out, HE.out, show (yn == i) = false by simpa using hyk]; rfl)
        refine wp_region_flow3 18 (by kernel_rfl) (by kernel_rfl) ?_ (fun iz _ v => (ZP27f b ad f.length c2 k bb oo q m yn i (.agg #[.int .i64 yn, .slice A4 yl.length c4, .int .i64 y0, .bool y1, .int .i64 y2, .int .i64 y3, .int .i64 y4]) (.agg #[.string xf.nm, .slice za la.length zc, .int .i64 xf.res, .bool xf.df]) ans) iz v) (fun w' => Below w4.heap.size w4 w') (Below.drew (Below.refl _ w4)) ?_ ?_
        · intro i o' d hi ho hd
          have : i = 0 ∨ i = 1 ∨ i = 2 ∨ i = 3 ∨ i = 4 ∨ i = 5 ∨ i = 6 ∨ i = 7 ∨ i = 8 ∨ i = 9 ∨ i = 10 ∨ i = 11 ∨ i = 12 ∨ i = 13 ∨ i = 14 ∨ i = 15 ∨ i = 16 ∨ i = 17 := by omega
          rcases this with rfl | rfl | rfl | rfl | rfl | rfl | rfl | rfl | rfl | rfl | rfl | rfl | rfl | rfl | rfl | rfl | rfl | rfl <;> (simp at ho; subst ho; simp at hd; subst hd; simp)
        · intro i o' hi ho
          have : i = 0 ∨ i = 1 ∨ i = 2 ∨ i = 3 ∨ i = 4 ∨ i = 5 ∨ i = 6 ∨ i = 7 ∨ i = 8 ∨ i = 9 ∨ i = 10 ∨ i = 11 ∨ i = 12 ∨ i = 13 ∨ i = 14 ∨ i = 15 ∨ i = 16 ∨ i = 17 := by omega
          rcases this with rfl | rfl | rfl | rfl | rfl | rfl | rfl | rfl | rfl | rfl | rfl | rfl | rfl | rfl | rfl | rfl | rfl | rfl <;> (simp at ho; subst ho; intro a w' hC hd hr)
          · rw [if_pos (by rfl)]; have e3 : a.tmps[3]?.getD undef = .pointer (some ⟨b, 0, none⟩) := gd (hr 3 (free_of (by rfl))); exact flow_val (by go_simp; try rfl) ⟨rfl, hC, fun _ _ _ h => h⟩
          · rw [if_pos (by rfl)]; have e89 : a.tmps[89]?.getD undef = .pointer (some ⟨b, 1, none⟩) := gd (hd ⟨0, .data⟩ (by simp) rfl _ _ rfl rfl); have g0 := bget hC cb1 hbl; exact flow_val (by go_simp; try rfl) ⟨rfl, hC, fun _ _ _ h => h⟩
          · rw [if_pos (by rfl)]; have e14 : a.tmps[14]?.getD undef = .int .i64 k := gd (hr 14 (free_of (by rfl))); exact flow_val (by go_simp; try rfl) ⟨rfl, hC, fun _ _ _ h => h⟩
          · rw [if_pos (by rfl)]; have e90 : a.tmps[90]?.getD undef = .slice (some ad) f.length c2 := gd (hd ⟨1, .data⟩ (by simp) rfl _ _ rfl rfl); have e91 : a.tmps[91]?.getD undef = .int .i64 k := gd (hd ⟨2, .data⟩ (by simp) rfl _ _ rfl rfl); have hx := hadd; exact flow_val (by go_simp; try rfl) ⟨rfl, hC, fun _ _ _ h => h⟩
          · rw [if_pos (by rfl)]; have e92 : a.tmps[92]?.getD undef = .pointer (some ⟨bb, oo, none⟩) := gd (hd ⟨3, .data⟩ (by simp) rfl _ _ rfl rfl); exact flow_val (by go_simp; try rfl) ⟨rfl, hC, fun _ _ _ h => h⟩
          · rw [if_pos (by rfl)]; have e93 : a.tmps[93]?.getD undef = .pointer (some ⟨bb, oo, none⟩) := gd (hd ⟨4, .data⟩ (by simp) rfl _ _ rfl rfl); have g0 := bget hC q0 hbr; exact flow_val (by go_simp; try rfl) ⟨rfl, hC, fun _ _ _ h => h⟩
          · rw [if_pos (by rfl)]; have e15 : a.tmps[15]?.getD undef = .int .i64 i := gd (hr 15 (free_of (by rfl))); exact flow_val (by go_simp; try rfl) ⟨rfl, hC, fun _ _ _ h => h⟩
          · rw [if_pos (by rfl)]; have e94 : a.tmps[94]?.getD undef = .int .i64 yn := gd (hd ⟨5, .data⟩ (by simp) rfl _ _ rfl rfl); have e95 : a.tmps[95]?.getD undef = .int .i64 i := gd (hd ⟨6, .data⟩ (by simp) rfl _ _ rfl rfl); exact flow_val (by first | (go_simp; done) | (go_simp; rfl) | (go_simp; simp [hq2]; done)) ⟨rfl, hC, fun _ _ _ h => h⟩
          · rw [if_pos (by rfl)]; have e96 : a.tmps[96]?.getD undef = .bool true := gd (hd ⟨7, .data⟩ (by simp) rfl _ _ rfl rfl); exact flow_val (by go_simp; try rfl) ⟨rfl, hC, fun _ _ _ h => h⟩
          · have eg := tmp_bool (hd ⟨8, .guard⟩ (by simp) rfl _ _ rfl rfl : a.tmps.getD 97 undef = .bool true); rw [if_neg (by simp [Region.wanted, yielded, eg])]; exact rfl
          · have eg := tmp_bool (hd ⟨8, .guard⟩ (by simp) rfl _ _ rfl rfl : a.tmps.getD 97 undef = .bool true); rw [if_neg (by simp [Region.wanted, yielded, eg])]; exact rfl
          · have eg := tmp_bool (hd ⟨8, .guard⟩ (by simp) rfl _ _ rfl rfl : a.tmps.getD 97 undef = .bool true); rw [if_neg (by simp [Region.wanted, yielded, eg])]; exact rfl
          · have eg := tmp_bool (hd ⟨8, .guard⟩ (by simp) rfl _ _ rfl rfl : a.tmps.getD 97 undef = .bool true); rw [if_neg (by simp [Region.wanted, yielded, eg])]; exact rfl
          · have eg := tmp_bool (hd ⟨8, .guard⟩ (by simp) rfl _ _ rfl rfl : a.tmps.getD 97 undef = .bool true); rw [if_neg (by simp [Region.wanted, yielded, eg])]; exact rfl
          · have eg := tmp_bool (hd ⟨8, .guard⟩ (by simp) rfl _ _ rfl rfl : a.tmps.getD 97 undef = .bool true); rw [if_neg (by simp [Region.wanted, yielded, eg])]; exact rfl
          · have eg := tmp_bool (hd ⟨8, .guard⟩ (by simp) rfl _ _ rfl rfl : a.tmps.getD 97 undef = .bool true); rw [if_neg (by simp [Region.wanted, yielded, eg])]; exact rfl
          · have eg := tmp_bool (hd ⟨8, .guard⟩ (by simp) rfl _ _ rfl rfl : a.tmps.getD 97 undef = .bool true); rw [if_neg (by simp [Region.wanted, yielded, eg])]; exact rfl
          · have eg := tmp_bool (hd ⟨8, .guard⟩ (by simp) rfl _ _ rfl rfl : a.tmps.getD 97 undef = .bool true); rw [if_neg (by simp [Region.wanted, yielded, eg])]; exact rfl
        intro vs' w4 hb4 hZ
        have v8 : vs' 8 = .bool true := hZ 8 _ _ (by omega) rfl rfl
        have v17 : vs' 17 = undef := hZ 17 _ _ (by omega) rfl rfl
        clear hZ cb1 q0 q1 q2 q3 q4 q5 q6 u0 u1 u2 u3
        simp only [List.drop_succ_cons, List.drop_zero, List.take_succ_cons, List.take_zero, putAll, v8, v17]
        have HB5 := Lib.hid (HBK.out.trans ((HB4.out.trans (hb4.mono HB4.out.size)).mono HBK.out.size))
        clear hb4
        go_wp2_with fail
        go_ret
        exact ⟨by rw [HXX.out]; rfl, HB5.out⟩
       case pos =>
        subst hyk
        have hq2 : (yn != yn) = false := by simp
        refine wp_region_flow3 18 (by kernel_rfl) (by kernel_rfl) ?_ (fun iz _ v => (ZP27t b ad f.length c2 k bb oo q m yn yn (.agg #[.int .i64 yn, .slice A4 yl.length c4, .int .i64 y0, .bool y1, .int .i64 y2, .int .i64 y3, .int .i64 y4]) (.agg #[.string xf.nm, .slice za la.length zc, .int .i64 xf.res, .bool xf.df]) ans) iz v) (fun w' => Below w4.heap.size w4 w') (Below.drew (Below.refl _ w4)) ?_ ?_
        · intro i o' d hi ho hd
          have : i = 0 ∨ i = 1 ∨ i = 2 ∨ i = 3 ∨ i = 4 ∨ i = 5 ∨ i = 6 ∨ i = 7 ∨ i = 8 ∨ i = 9 ∨ i = 10 ∨ i = 11 ∨ i = 12 ∨ i = 13 ∨ i = 14 ∨ i = 15 ∨ i = 16 ∨ i = 17 := by omega
          rcases this with rfl | rfl | rfl | rfl | rfl | rfl | rfl | rfl | rfl | rfl | rfl | rfl | rfl | rfl | rfl | rfl | rfl | rfl <;> (simp at ho; subst ho; simp at hd; subst hd; simp)
        · intro i o' hi ho
          have : i = 0 ∨ i = 1 ∨ i = 2 ∨ i = 3 ∨ i = 4 ∨ i = 5 ∨ i = 6 ∨ i = 7 ∨ i = 8 ∨ i = 9 ∨ i = 10 ∨ i = 11 ∨ i = 12 ∨ i = 13 ∨ i = 14 ∨ i = 15 ∨ i = 16 ∨ i = 17 := by omega
          rcases this with rfl | rfl | rfl | rfl | rfl | rfl | rfl | rfl | rfl | rfl | rfl | rfl | rfl | rfl | rfl | rfl | rfl | rfl <;> (simp at ho; subst ho; intro a w' hC hd hr)
          · rw [if_pos (by rfl)]; have e3 : a.tmps[3]?.getD undef = .pointer (some ⟨b, 0, none⟩) := gd (hr 3 (free_of (by rfl))); exact flow_val (by go_simp; try rfl) ⟨rfl, hC, fun _ _ _ h => h⟩
          · rw [if_pos (by rfl)]; have e89 : a.tmps[89]?.getD undef = .pointer (some ⟨b, 1, none⟩) := gd (hd ⟨0, .data⟩ (by simp) rfl _ _ rfl rfl); have g0 := bget hC cb1 hbl; exact flow_val (by go_simp; try rfl) ⟨rfl, hC, fun _ _ _ h => h⟩
          · rw [if_pos (by rfl)]; have e14 : a.tmps[14]?.getD undef = .int .i64 k := gd (hr 14 (free_of (by rfl))); exact flow_val (by go_simp; try rfl) ⟨rfl, hC, fun _ _ _ h => h⟩
          · rw [if_pos (by rfl)]; have e90 : a.tmps[90]?.getD undef = .slice (some ad) f.length c2 := gd (hd ⟨1, .data⟩ (by simp) rfl _ _ rfl rfl); have e91 : a.tmps[91]?.getD undef = .int .i64 k := gd (hd ⟨2, .data⟩ (by simp) rfl _ _ rfl rfl); have hx := hadd; exact flow_val (by go_simp; try rfl) ⟨rfl, hC, fun _ _ _ h => h⟩
          · rw [if_pos (by rfl)]; have e92 : a.tmps[92]?.getD undef = .pointer (some ⟨bb, oo, none⟩) := gd (hd ⟨3, .data⟩ (by simp) rfl _ _ rfl rfl); exact flow_val (by go_simp; try rfl) ⟨rfl, hC, fun _ _ _ h => h⟩
          · rw [if_pos (by rfl)]; have e93 : a.tmps[93]?.getD undef = .pointer (some ⟨bb, oo, none⟩) := gd (hd ⟨4, .data⟩ (by simp) rfl _ _ rfl rfl); have g0 := bget hC q0 hbr; exact flow_val (by go_simp; try rfl) ⟨rfl, hC, fun _ _ _ h => h⟩
          · rw [if_pos (by rfl)]; have e15 : a.tmps[15]?.getD undef = .int .i64 yn := gd (hr 15 (free_of (by rfl))); exact flow_val (by go_simp; try rfl) ⟨rfl, hC, fun _ _ _ h => h⟩
          · rw [if_pos (by rfl)]; have e94 : a.tmps[94]?.getD undef = .int .i64 yn := gd (hd ⟨5, .data⟩ (by simp) rfl _ _ rfl rfl); have e95 : a.tmps[95]?.getD undef = .int .i64 yn := gd (hd ⟨6, .data⟩ (by simp) rfl _ _ rfl rfl); exact flow_val (by first | (go_simp; done) | (go_simp; rfl) | (go_simp; simp [hq2]; done)) ⟨rfl, hC, fun _ _ _ h => h⟩
          · rw [if_pos (by rfl)]; have e96 : a.tmps[96]?.getD undef = .bool false := gd (hd ⟨7, .data⟩ (by simp) rfl _ _ rfl rfl); exact flow_val (by go_simp; try rfl) ⟨rfl, hC, fun _ _ _ h => h⟩
          · have eg := tmp_bool (hd ⟨8, .guard⟩ (by simp) rfl _ _ rfl rfl : a.tmps.getD 97 undef = .bool false); rw [if_pos (by simp [Region.wanted, yielded, eg])]; clear eg; have e5 : a.tmps[5]?.getD undef = .map (some m) := gd (hr 5 (free_of (by rfl))); exact flow_val (by go_simp; try rfl) ⟨rfl, hC, fun _ _ _ h => h⟩
          · have eg := tmp_bool (hd ⟨8, .guard⟩ (by simp) rfl _ _ rfl rfl : a.tmps.getD 97 undef = .bool false); rw [if_pos (by simp [Region.wanted, yielded, eg])]; clear eg; have e3 : a.tmps[3]?.getD undef = .pointer (some ⟨b, 0, none⟩) := gd (hr 3 (free_of (by rfl))); exact flow_val (by go_simp; try rfl) ⟨rfl, hC, fun _ _ _ h => h⟩
          · have eg := tmp_bool (hd ⟨8, .guard⟩ (by simp) rfl _ _ rfl rfl : a.tmps.getD 97 undef = .bool false); rw [if_pos (by simp [Region.wanted, yielded, eg])]; clear eg; have e99 : a.tmps[99]?.getD undef = .pointer (some ⟨b, 1, none⟩) := gd (hd ⟨10, .data⟩ (by simp) rfl _ _ rfl rfl); have g0 := bget hC cb1 hbl; exact flow_val (by go_simp; try rfl) ⟨rfl, hC, fun _ _ _ h => h⟩
          · have eg := tmp_bool (hd ⟨8, .guard⟩ (by simp) rfl _ _ rfl rfl : a.tmps.getD 97 undef = .bool false); rw [if_pos (by simp [Region.wanted, yielded, eg])]; clear eg; have e14 : a.tmps[14]?.getD undef = .int .i64 k := gd (hr 14 (free_of (by rfl))); exact flow_val (by go_simp; try rfl) ⟨rfl, hC, fun _ _ _ h => h⟩
          · have eg := tmp_bool (hd ⟨8, .guard⟩ (by simp) rfl _ _ rfl rfl : a.tmps.getD 97 undef = .bool false); rw [if_pos (by simp [Region.wanted, yielded, eg])]; clear eg; have e100 : a.tmps[100]?.getD undef = .slice (some ad) f.length c2 := gd (hd ⟨11, .data⟩ (by simp) rfl _ _ rfl rfl); have e101 : a.tmps[101]?.getD undef = .int .i64 k := gd (hd ⟨12, .data⟩ (by simp) rfl _ _ rfl rfl); have hx := hadd; exact flow_val (by go_simp; try rfl) ⟨rfl, hC, fun _ _ _ h => h⟩
          · have eg := tmp_bool (hd ⟨8, .guard⟩ (by simp) rfl _ _ rfl rfl : a.tmps.getD 97 undef = .bool false); rw [if_pos (by simp [Region.wanted, yielded, eg])]; clear eg; have e102 : a.tmps[102]?.getD undef = .pointer (some ⟨bb, oo, none⟩) := gd (hd ⟨13, .data⟩ (by simp) rfl _ _ rfl rfl); have g0 := bget hC q0 hbr; have g1 := bget hC q1 hbr; have g2 := bget hC q2 hbr; have g3 := bget hC q3 hbr; have g4 := bget hC q4 hbr; have g5 := bget hC q5 hbr; have g6 := bget hC q6 hbr; exact flow_val (by go_simp; try rfl) ⟨rfl, hC, fun _ _ _ h => h⟩
          · have eg := tmp_bool (hd ⟨8, .guard⟩ (by simp) rfl _ _ rfl rfl : a.tmps.getD 97 undef = .bool false); rw [if_pos (by simp [Region.wanted, yielded, eg])]; clear eg; have e16 : a.tmps[16]?.getD undef = .pointer (some ⟨q, 0, none⟩) := gd (hr 16 (free_of (by rfl))); have g0 := bget hC u0 hql; have g1 := bget hC u1 hql; have g2 := bget hC u2 hql; have g3 := bget hC u3 hql; exact flow_val (by go_simp; try rfl) ⟨rfl, hC, fun _ _ _ h => h⟩
          · have eg := tmp_bool (hd ⟨8, .guard⟩ (by simp) rfl _ _ rfl rfl : a.tmps.getD 97 undef = .bool false); rw [if_pos (by simp [Region.wanted, yielded, eg])]; clear eg; have e98 : a.tmps[98]?.getD undef = .map (some m) := gd (hd ⟨9, .data⟩ (by simp) rfl _ _ rfl rfl); have e103 : a.tmps[103]?.getD undef = .agg #[.int .i64 yn, .slice A4 yl.length c4, .int .i64 y0, .bool y1, .int .i64 y2, .int .i64 y3, .int .i64 y4] := gd (hd ⟨14, .data⟩ (by simp) rfl _ _ rfl rfl); have e104 : a.tmps[104]?.getD undef = .agg #[.string xf.nm, .slice za la.length zc, .int .i64 xf.res, .bool xf.df] := gd (hd ⟨15, .data⟩ (by simp) rfl _ _ rfl rfl); exact flow_call (by go_simp) ((HTB.out w' hC).mono fun e w'' ⟨he, hb⟩ => ⟨_, he, rfl, hC.trans (hb.mono hC.size), fun _ _ _ h => h⟩)
          · have eg := tmp_bool (hd ⟨8, .guard⟩ (by simp) rfl _ _ rfl rfl : a.tmps.getD 97 undef = .bool false); rw [if_pos (by simp [Region.wanted, yielded, eg])]; clear eg; have e105 : a.tmps[105]?.getD undef = .bool ans := gd (hd ⟨16, .data⟩ (by simp) rfl _ _ rfl rfl); exact flow_val (by go_simp; try rfl) ⟨rfl, hC, fun _ _ _ h => h⟩
        intro vs' w4 hb4 hZ
        have v8 : vs' 8 = .bool false := hZ 8 _ _ (by omega) rfl rfl
        have v17 : vs' 17 = .bool (!ans) := hZ 17 _ _ (by omega) rfl rfl
        clear hZ cb1 q0 q1 q2 q3 q4 q5 q6 u0 u1 u2 u3
        simp only [List.drop_succ_cons, List.drop_zero, List.take_succ_cons, List.take_zero, putAll, v8, v17]
        have HB5 := Lib.hid (HB4.out.trans (hb4.mono HB4.out.size))
        clear hb4
        cases ans
        case false =>
         have HXX := Lib.hid (show mayP x.fs.length es z f = false by rw [HX.out, HE.out]; simp)
         have HB6 := Lib.hid (HBK.out.trans (HB5.out.mono HBK.out.size))
         go_wp2_with fail
         go_ret
         exact ⟨by rw [HXX.out]; rfl, HB6.out⟩
        case true =>
         have HXX := Lib.hid (show tabsP (mapZ z) lv f = tabsP (mapZ z) (lv.drop (k + 1)) (f.drop (k + 1)) by rw [HE.out]; simp)
         go_wp2_with fail
         go_roundw
         case rel => exact ⟨k + 1, by go_num, by omega, Lib.hid ⟨HB5.out, HXX.out⟩⟩
         case measure => simp [intOf]; omega
    case pos =>
     have hkl' : (k : Int) < y.fs.length := by omega
     obtain ⟨⟨xf, la⟩, hx2⟩ : ∃ p, es[k]? = some p := ⟨_, List.getElem?_eq_getElem (by omega)⟩
     have hx : y.fs[k]? = some xf := by rw [← HES.out, List.getElem?_map, hx2]; rfl
     obtain ⟨hla, hsI, hrI, har⟩ := HA.out (xf, la) (List.mem_of_getElem? hx2)
     have HBK := Lib.hid (HB2.out.trans (HB.out.mono HB2.out.size))
     have har' := ownsRow_ch (S := fun _ => False) har (Ch.ofBelow HBK.out) (fun _ _ e => e)
     have HIN := Lib.hid (info_any (HT.out.below HBK.out) k xf hx la hla har')
     have htk : es.take (k + 1) = es.take k ++ [(xf, la)] := by rw [List.take_add_one, hx2]; rfl
     have HTK := Lib.hid (show liveF (es.take (k + 1)) 0 = liveF (es.take k) 0 ++ (if xf.df = true then [] else [((k : Int), xf, la)]) by
      rw [htk, liveF_append, List.length_take, Nat.min_eq_left (by omega)]
      simp only [liveF, Int.zero_add])
     have hnr := ownsRow_ch (S := fun _ => False) HFN.out (Ch.ofBelow HB.out) (fun _ _ e => e)
     rw [rangeI_len] at hnr
     obtain ⟨sg, rfl⟩ : ∃ sg, fa = some ⟨sg, 0, none⟩ := by
      rcases hnr.2 with ⟨_, h⟩ | ⟨sg, cap', cur, h1, _⟩
      · omega
      · simp at h1; exact ⟨sg, h1.1⟩
     have s0 : wr.cell? ⟨sg, k, none⟩ = some (.int .i64 k) := by
      rw [hnr.cellAt k (by omega)]; simp [rangeI, hkl]
     clear hnr har har' htk hx hx2 hla hsI hrI
     go_wp2_with fail
     refine HIN.out.mono ?_; rintro e w3 ⟨⟨v', rfl, har3⟩, hb3⟩
     obtain ⟨za, zc, rfl, _⟩ := own_slice har3
     have HB3 := Lib.hid (HB.out.trans (hb3.mono HB.out.size))
     have HV3 := Lib.hid (ownsRow_ch (S := fun _ => False) HV.out (Ch.ofBelow hb3) (fun _ _ e => e))
     clear hb3 har3 HIN s0 HB HV HBK
     generalize hlv : liveF (es.take k) 0 = lv at *
     have hlk : lv.length ≤ k := by have := liveF_len (es.take k) 0; rw [hlv, List.length_take] at this; omega
     clear hlv
     cases hdf : xf.df
     case true =>
      have HX := Lib.hid (show liveF (es.take (k + 1)) 0 = lv by rw [HTK.out, if_pos hdf]; simp)
      go_wp2_with fail
      go_roundw
      case rel => exact ⟨k + 1, by go_num, by omega, Lib.hid ⟨HB3.out.alloc HB3.out.size _, by rw [HX.out]; exact HV3.out.alloc _⟩⟩
      case measure => simp [intOf]; omega
     case false =>
      have HX := Lib.hid (show liveF (es.take (k + 1)) 0 = lv ++ [((k : Int), xf, la)] by rw [HTK.out, if_neg (by rw [hdf]; decide)])
      have HN0 := Lib.hid (show ∀ (A : Obj) (j : Nat) (u : Value), ([.int .i64 k] : List Value)[j]? = some u → ((w3.alloc A).alloc (.cells #[.int .i64 k] 3)).cell? ((⟨w3.heap.size + 1, 0, none⟩ : Addr).add j) = some u from fun A j u h => by
       have := new_at (w3.alloc A) [.int .i64 k] 3 j u h
       rwa [show (w3.alloc A).heap.size = w3.heap.size + 1 by simp] at this)
      go_wp2_with (first | (at_builtin; refine wpList_append_own_at _ rfl _ _ 24 rfl w2.heap.size 3 j0 (.int .i64 0) 1 8 Tryz.underlying24 hj hy0 hy1 hy2 rfl (by decide) (.slice av2 lv.length cv2) lv.length _ rfl ((HV3.out.alloc _).alloc _) ⟨w3.heap.size + 1, 0, none⟩ 1 1 [.int .i64 k] rfl rfl (HN0.out _) (by simp [Value.oneCell']) (by unfold maxLen; omega) (by omega) (by have := HB3.out.size; simp; omega) ?_; intro v5 w5 hown hgrow hnil hat) | fail)
      have hb5 : Below w2.heap.size w2 w5 := ((HB3.out.alloc HB3.out.size (.cells #[.string xf.nm, .slice za la.length zc, .int .i64 xf.res, .bool false] 72)).alloc (by have := HB3.out.size; simp; omega) (.cells #[.int .i64 k] 3)).grown hgrow (by have := HB3.out.size; simp; omega) (fun q e => (HV3.out.lt q e).1)
      have HXX := Lib.hid (show Below w2.heap.size w2 w5 ∧ w5.ownsRow w2.heap.size 3 1 v5 (liveF (es.take (k + 1)) 0).length ((liveF (es.take (k + 1)) 0).map fun q => Value.int .i64 q.1) from ⟨hb5, by rw [HX.out, List.map_append, List.length_append]; exact hown⟩)
      clear hown hgrow hnil hat hb5
      go_wp2_with fail
      go_roundw
      case rel => exact ⟨k + 1, by go_num, by omega, HXX⟩
      case measure => simp [intOf]; omega
  case pos =>
   have hkl' : (k : Int) < z.length := by omega
   obtain ⟨ad, bb, oo, cs, hA, hadd, hK, hc, hbl2⟩ := cells_at z78 HW.out.hz k hkl (by decide)
   subst hA
   obtain rfl := k78_open hK
   replace hadd : ad.add (k * 2) = ⟨bb, oo, none⟩ := hadd
   have htk : z.take (k + 1) = z.take k ++ [z.getD k z78] := by rw [List.take_add_one]; simp [hkl]
   have hmemk : z.getD k z78 ∈ z := by rw [List.getD_eq_getElem?_getD, List.getElem?_eq_getElem hkl]; exact List.getElem_mem _
   have HZI := Lib.hid (HI.out.1.2 (z.getD k z78) hmemk)
   have hall : (z.all fun s => !decide (s.f1 < 1)) = true → (!decide ((z.getD k z78).f1 < 1)) = true := fun h => List.all_eq_true.1 h _ hmemk
   have HALL := Lib.hid hall
   clear hall hmemk
   generalize z.getD k z78 = v at *
   obtain ⟨v0, v1⟩ := v
   simp only at hc htk HALL HZI
   have q0 : wr.cell? ⟨bb, oo, none⟩ = some (.int .i64 v0) := ((bcell HB.out).1 bb _ hbl2).trans (by have := hc 0 _ rfl; simpa using this)
   have q1 : wr.cell? ⟨bb, oo + 1, none⟩ = some (.int .i64 v1) := ((bcell HB.out).1 bb _ hbl2).trans (hc 1 _ rfl)
   have hbr : bb < wr.heap.size := Nat.lt_of_lt_of_le hbl2 HB.out.size
   have HTK := Lib.hid htk
   clear hK hc hbl2 htk
   by_cases hv1 : v1 < 1
   case pos =>
    have HX := Lib.hid (show mayP x.fs.length es z f = false by
     unfold mayP
     cases h : (z.all fun s => !decide (s.f1 < 1))
     · rfl
     · have := HALL.out h
       simp at this; omega)
    go_wp2_with fail
    go_ret
    exact ⟨by rw [HX.out]; rfl, by (repeat (first | (with_reducible exact Below.refl _ _) | ((with_reducible refine Below.alloc ?_ ?_ _); rotate_left; focus (first | (simp; done) | (simp; omega) | (have q0 := HB.out.size; (try simp at q0); (try simp); omega))) | ((with_reducible refine Below.setCell ?_ ?_ _); rotate_left; focus (first | (simp; done) | (simp; omega) | (have q0 := HB.out.size; (try simp at q0); (try simp); omega))) | (with_reducible refine Below.drew ?_) | (with_reducible refine Below.drewN' ?_ _) | (with_reducible refine Below.trans ?_ (HB.out.mono ?_); rotate_left; focus (first | (simp; done) | (simp; omega) | (have q0 := HB.out.size; (try simp at q0); (try simp); omega)))))⟩
   case neg =>
    have hw0 : (Lit.int .i64 v0).wf = true := I64.wf HZI.out.1
    have hw1 : (Lit.int .i64 v1).wf = true := I64.wf HZI.out.2
    have HMA := Lib.hid (HM.out.alloc (.cells #[.int .i64 v0, .int .i64 v1] 78))
    have hbm : b ≠ m := row_ne_map HRB.out HM.out
    have hmw : m < wr.heap.size := by obtain ⟨es, clock, hb, _⟩ := HM.out; exact lt_of_block hb
    have HQ8 := Lib.hid (fun w8 (hg : (wr.alloc (.cells #[.int .i64 v0, .int .i64 v1] 78)).grownBy w8 (some m)) => show w8.cell? ⟨wr.heap.size, 0, none⟩ = some (.int .i64 v0) from
     ((RowB.new wr [.int .i64 v0, .int .i64 v1] 78).kept (Ch.ofGrown hg) (fun e => by simp at e; omega)).cell 0)
    have HR8 := Lib.hid (fun w8 (hg : (wr.alloc (.cells #[.int .i64 v0, .int .i64 v1] 78)).grownBy w8 (some m)) => show RowB w8 b 37 [.slice (some ad) z.length c1, .slice A2 f.length c2] from
     (RowB.alloc HRB.out _).kept (Ch.ofGrown hg) (fun e => hbm (by simpa using e)))
    have HV8 := Lib.hid (fun w8 (hg : (wr.alloc (.cells #[.int .i64 v0, .int .i64 v1] 78)).grownBy w8 (some m)) => show w8.ownsRow w.heap.size 43 1 (.slice av k cv) k (((z.take k).map (·.f0)).map (Value.int .i64)) from
     ownsRow_ch (HV.out.alloc _) (Ch.ofGrown hg) (fun q hq e => own_ne_map HV.out HM.out (by rw [hq]; exact e)))
    have HB8 := Lib.hid (fun w8 (hg : (wr.alloc (.cells #[.int .i64 v0, .int .i64 v1] 78)).grownBy w8 (some m)) => show Below w.heap.size w w8 from
     (HB.out.alloc HB.out.size (.cells #[.int .i64 v0, .int .i64 v1] 78)).grown hg (by have := HB.out.size; simp; omega) (fun q e => by simp at e; omega))
    go_wp2_with (first | (refine wpList_mapUpdate_own _ rfl _ _ _ 129 rfl 43 2 (Maps.int_keyed Tryz.underlying43) Tryz.underlying129 _ m k (mapZ (z.take k)) (by go_simp) HMA.out (by unfold maxLen; omega) (.int .i64 v0) (.int .i64 v1) (.int .i64 v0) (by go_simp) (by go_simp) (Maps.keyOf_int_mk Tryz.underlying43 hw0) (.lit (.int .i64 v1)) [] (plainElem_int Tryz.underlying2 hw1) ?_; intro w8 hm8 hg8; have q8 := HQ8.out w8 hg8; have HM8 := Lib.hid hm8; have HG8 := Lib.hid hg8; clear hm8 hg8) | (at_builtin; refine wpList_append_own_at _ rfl _ _ 70 rfl w.heap.size 43 i0 (.int .i64 0) 1 8 Tryz.underlying70 hi hz0 hz1 hz2 rfl (by decide) (.slice av k cv) k _ rfl ((HV8.out w8 HG8.out).alloc _) ⟨w8.heap.size, 0, none⟩ 1 1 [.int .i64 v0] rfl rfl (new_at w8 _ _) (by simp [Value.oneCell']) (by unfold maxLen; omega) (by omega) (by have := (HB8.out w8 HG8.out).size; simp; omega) ?_; intro v' w5 hown hgrow hnil hat) | fail)
    have hb5 : Below w.heap.size w w5 := ((HB8.out w8 HG8.out).alloc (HB8.out w8 HG8.out).size (.cells #[.int .i64 v0] 43)).grown hgrow (by have := (HB8.out w8 HG8.out).size; simp; omega) (fun q e => ((HV8.out w8 HG8.out).lt q e).1)
    have hr5 : RowB w5 b 37 [.slice (some ad) z.length c1, .slice A2 f.length c2] := (RowB.alloc (HR8.out w8 HG8.out) _).kept (Ch.ofGrown hgrow) (fun e => own_ne_row (HV8.out w8 HG8.out) (HR8.out w8 HG8.out) (by decide) e.symm)
    have hm5 : ownsZ w5 m (k + 1) (mapZ (z.take (k + 1))) := by
     rw [HTK.out, mapZ_succ]
     exact ownsMap_ch (HM8.out.alloc _) (Ch.ofGrown hgrow) (fun e => own_ne_map (HV8.out w8 HG8.out) HM8.out e.symm)
    have hv5 : w5.ownsRow w.heap.size 43 1 v' (k + 1) (((z.take (k + 1)).map (·.f0)).map (Value.int .i64)) := by
     rw [HTK.out, List.map_append, List.map_append]; exact hown
    have hq5 : ((z.take (k + 1)).all fun s => !decide (s.f1 < 1)) = true := by
     rw [HTK.out, List.all_append, HQ.out]; simp; omega
    have HX := Lib.hid (And.intro hb5 (And.intro hr5 (And.intro hv5 (And.intro hm5 hq5))))
    clear hown hgrow hnil hat hb5 hr5 hm5 hv5 hq5 cb0 cb1 q0 q1 q8
    go_wp2_with fail
    go_roundw
    case rel => exact ⟨k + 1, by go_num, by omega, HX⟩
    case measure => simp [intOf]; omega
end Go.Proofs.YtendekbckfpmgaaGreat
