/- The walk of the reference's Pop. -/
import Derived.Test.YtggbnjdbbomjoaaSorV
namespace Go.Proofs.Ytggbnjdbbomjoaa
open Go Go.RowKit
theorem tmp_bool {t : Array Value} {i : Nat} {b : Bool} (h : t.getD i undef = .bool b) : t[i]? = some (.bool b) := by
  rw [Array.getD_eq_getD_getElem?] at h
  cases e : t[i]? with
  | none => rw [e] at h; simp [undef] at h
  | some v => rw [e] at h; simpa using h
/-- the values of the operations of a round of the first loop, the entry gone -/
def ZQ0f (g g' k cap n : Nat) (_lv : Int) (_dp : Nat) : Nat → World → Value → Prop
  | 0, _, v => v = .pointer (some ⟨g, 0, none⟩)
  | 1, _, v => v = .pointer (some ⟨g, 0, none⟩)
  | 2, _, v => v = .pointer (some ⟨g, 0, none⟩)
  | 3, _, v => v = (.slice (some ⟨g', 0, none⟩) n cap)
  | 4, _, v => v = .int .i64 k
  | 5, _, v => v = .pointer (some ⟨g, 0, none⟩)
  | 6, _, v => v = .pointer (some ⟨g, 0, none⟩)
  | 7, _, v => v = .pointer (some ⟨g, 0, none⟩)
  | 8, _, v => v = (.slice (some ⟨g', 0, none⟩) n cap)
  | 9, _, v => v = .int .i64 k
  | 10, _, v => v = (.pointer (some ⟨g', k * 6, none⟩))
  | 11, _, v => v = (.pointer (some ⟨g', k * 6 + 5, none⟩))
  | 12, _, v => v = .bool false
  | 13, _, v => v = .bool false
  | 14, _, v => v = undef
  | 15, _, v => v = undef
  | 16, _, v => v = undef
  | 17, _, v => v = undef
  | 18, _, v => v = undef
  | 19, _, v => v = undef
  | 20, _, v => v = undef
  | 21, _, v => v = undef
  | 22, _, v => v = undef
  | 23, _, v => v = undef
  | 24, _, v => v = undef
  | 25, _, v => v = undef
  | 26, _, v => v = undef
  | 27, _, v => v = .bool false
  | 28, _, v => v = (.pointer (some ⟨g', k * 6, none⟩))
  | _, _, v => v = (.pointer (some ⟨g', k * 6 + 5, none⟩))
/-- the values of the operations of a round of the first loop, the entry stands -/
def ZQ0t (g g' k cap n : Nat) (_lv : Int) (_dp : Nat) : Nat → World → Value → Prop
  | 0, _, v => v = .pointer (some ⟨g, 0, none⟩)
  | 1, _, v => v = .pointer (some ⟨g, 0, none⟩)
  | 2, _, v => v = .pointer (some ⟨g, 0, none⟩)
  | 3, _, v => v = (.slice (some ⟨g', 0, none⟩) n cap)
  | 4, _, v => v = .int .i64 k
  | 5, _, v => v = .pointer (some ⟨g, 0, none⟩)
  | 6, _, v => v = .pointer (some ⟨g, 0, none⟩)
  | 7, _, v => v = .pointer (some ⟨g, 0, none⟩)
  | 8, _, v => v = (.slice (some ⟨g', 0, none⟩) n cap)
  | 9, _, v => v = .int .i64 k
  | 10, _, v => v = (.pointer (some ⟨g', k * 6, none⟩))
  | 11, _, v => v = (.pointer (some ⟨g', k * 6 + 5, none⟩))
  | 12, _, v => v = .bool true
  | 13, _, v => v = .bool true
  | 14, _, v => v = .pointer (some ⟨g, 0, none⟩)
  | 15, _, v => v = .pointer (some ⟨g, 0, none⟩)
  | 16, _, v => v = .pointer (some ⟨g, 0, none⟩)
  | 17, _, v => v = (.slice (some ⟨g', 0, none⟩) n cap)
  | 18, _, v => v = .int .i64 k
  | 19, _, v => v = (.pointer (some ⟨g', k * 6, none⟩))
  | 20, _, v => v = (.pointer (some ⟨g', k * 6 + 4, none⟩))
  | 21, _, v => v = .int .i64 _lv
  | 22, _, v => v = .pointer (some ⟨g, 0, none⟩)
  | 23, _, v => v = .pointer (some ⟨g, 0, none⟩)
  | 24, _, v => v = .pointer (some ⟨g, 2, none⟩)
  | 25, _, v => v = .int .i64 _dp
  | 26, _, v => v = .bool (decide (_lv ≤ _dp))
  | 27, _, v => v = .bool (decide (_lv ≤ _dp))
  | 28, _, v => v = (.pointer (some ⟨g', k * 6, none⟩))
  | _, _, v => v = (.pointer (some ⟨g', k * 6 + 5, none⟩))
/-- the values of the operations of a round of the second loop, the entry gone -/
def ZQ1f (g g' k cap n : Nat) (_lv : Int) (_dp : Nat) : Nat → World → Value → Prop
  | 0, _, v => v = .pointer (some ⟨g, 0, none⟩)
  | 1, _, v => v = .pointer (some ⟨g, 0, none⟩)
  | 2, _, v => v = .pointer (some ⟨g, 1, none⟩)
  | 3, _, v => v = (.slice (some ⟨g', 0, none⟩) n cap)
  | 4, _, v => v = .int .i64 k
  | 5, _, v => v = .pointer (some ⟨g, 0, none⟩)
  | 6, _, v => v = .pointer (some ⟨g, 0, none⟩)
  | 7, _, v => v = .pointer (some ⟨g, 1, none⟩)
  | 8, _, v => v = (.slice (some ⟨g', 0, none⟩) n cap)
  | 9, _, v => v = .int .i64 k
  | 10, _, v => v = (.pointer (some ⟨g', k * 6, none⟩))
  | 11, _, v => v = (.pointer (some ⟨g', k * 6 + 5, none⟩))
  | 12, _, v => v = .bool false
  | 13, _, v => v = .bool false
  | 14, _, v => v = undef
  | 15, _, v => v = undef
  | 16, _, v => v = undef
  | 17, _, v => v = undef
  | 18, _, v => v = undef
  | 19, _, v => v = undef
  | 20, _, v => v = undef
  | 21, _, v => v = undef
  | 22, _, v => v = undef
  | 23, _, v => v = undef
  | 24, _, v => v = undef
  | 25, _, v => v = undef
  | 26, _, v => v = undef
  | 27, _, v => v = .bool false
  | 28, _, v => v = (.pointer (some ⟨g', k * 6, none⟩))
  | _, _, v => v = (.pointer (some ⟨g', k * 6 + 5, none⟩))
/-- the values of the operations of a round of the second loop, the entry stands -/
def ZQ1t (g g' k cap n : Nat) (_lv : Int) (_dp : Nat) : Nat → World → Value → Prop
  | 0, _, v => v = .pointer (some ⟨g, 0, none⟩)
  | 1, _, v => v = .pointer (some ⟨g, 0, none⟩)
  | 2, _, v => v = .pointer (some ⟨g, 1, none⟩)
  | 3, _, v => v = (.slice (some ⟨g', 0, none⟩) n cap)
  | 4, _, v => v = .int .i64 k
  | 5, _, v => v = .pointer (some ⟨g, 0, none⟩)
  | 6, _, v => v = .pointer (some ⟨g, 0, none⟩)
  | 7, _, v => v = .pointer (some ⟨g, 1, none⟩)
  | 8, _, v => v = (.slice (some ⟨g', 0, none⟩) n cap)
  | 9, _, v => v = .int .i64 k
  | 10, _, v => v = (.pointer (some ⟨g', k * 6, none⟩))
  | 11, _, v => v = (.pointer (some ⟨g', k * 6 + 5, none⟩))
  | 12, _, v => v = .bool true
  | 13, _, v => v = .bool true
  | 14, _, v => v = .pointer (some ⟨g, 0, none⟩)
  | 15, _, v => v = .pointer (some ⟨g, 0, none⟩)
  | 16, _, v => v = .pointer (some ⟨g, 1, none⟩)
  | 17, _, v => v = (.slice (some ⟨g', 0, none⟩) n cap)
  | 18, _, v => v = .int .i64 k
  | 19, _, v => v = (.pointer (some ⟨g', k * 6, none⟩))
  | 20, _, v => v = (.pointer (some ⟨g', k * 6 + 4, none⟩))
  | 21, _, v => v = .int .i64 _lv
  | 22, _, v => v = .pointer (some ⟨g, 0, none⟩)
  | 23, _, v => v = .pointer (some ⟨g, 0, none⟩)
  | 24, _, v => v = .pointer (some ⟨g, 2, none⟩)
  | 25, _, v => v = .int .i64 _dp
  | 26, _, v => v = .bool (decide (_lv ≤ _dp))
  | 27, _, v => v = .bool (decide (_lv ≤ _dp))
  | 28, _, v => v = (.pointer (some ⟨g', k * 6, none⟩))
  | _, _, v => v = (.pointer (some ⟨g', k * 6 + 5, none⟩))
set_option maxRecDepth 100000 in
set_option maxHeartbeats 8000000 in
theorem rpop_any {B : Nat} {w : World} {g : Nat} {r : Rt} (h : RTab B w g r) (n : Int) : Calls Try.prog 36 #[.pointer (some ⟨g, 0, none⟩), .int .i64 n] w (RPop B w g r) := by
  have HT := Lib.hid h
  have c2 := h.c2
  have hgl := h.lt
  have hf2 := h.row.free 2
  have hdl := h.dl
  clear h
  by_cases h0 : n < 0
  case pos =>
    go_enter Try.func36, Try.ntmps36
    go_wp2
    go_ret
    exact ⟨⟨_, rfl⟩, r, HT.out, rfl, rfl, Ch.refl _ _⟩
  by_cases h1 : (r.dp : Int) < n
  case pos =>
    go_enter Try.func36, Try.ntmps36
    go_wp2
    go_ret
    exact ⟨⟨_, rfl⟩, r, HT.out, rfl, rfl, Ch.refl _ _⟩
  obtain ⟨d, hd⟩ : ∃ d : Nat, (r.dp : Int) - n = d := ⟨((r.dp : Int) - n).toNat, by omega⟩
  have hw : IntKind.i64.wrap ((r.dp : Int) - n) = d := by rw [hd]; exact IntWalk.i64_in _ (by constructor <;> omega)
  have hS : ∃ r2 : Rt, RTab B (w.setCell ⟨g, 2, none⟩ (.int .i64 d)) g r2 ∧ r2.A0 = r.A0 ∧ r2.A1 = r.A1 ∧ r2.l0.length = r.l0.length ∧ r2.l1.length = r.l1.length ∧ Ch (ROwn g r) w (w.setCell ⟨g, 2, none⟩ (.int .i64 d)) := by
    obtain ⟨t1, t2⟩ := HT.out.setD d (by omega)
    exact ⟨_, t1, rfl, rfl, rfl, rfl, t2⟩
  have HS := Lib.hid hS
  clear HT hS hd
  go_enter Try.func36, Try.ntmps36
  go_wp2
  clear c2 hf2 hgl
  go_loopw [5] (fun vi wr => ∃ k : Nat, vi = .int .i64 k ∧ Hid (∃ r2 : Rt, RTab B wr g r2 ∧ r2.A0 = r.A0 ∧ r2.A1 = r.A1 ∧ r2.l0.length = r.l0.length ∧ r2.l1.length = r.l1.length ∧ Ch (ROwn g r) w wr) ∧ k ≤ r.l0.length) (fun vi _ => r.l0.length - (intOf vi).toNat)
  case atStart => exact ⟨0, rfl, HS.out, by omega⟩
  case round =>
    obtain ⟨k, rfl, hh, hk⟩ := hrel
    obtain ⟨r2, hT, hA0, hA1, hn0, hn1, hch⟩ := hh.out
    have c0 := hT.c0
    have c2 := hT.c2
    have hgl := hT.lt
    have hs := hT.s0
    obtain ⟨ao, cap, hAe, hcap⟩ := own_slice hT.o0
    rw [hAe] at c0
    by_cases hkl : k < r2.l0.length
    case neg =>
      have hkl' : ¬ (k : Int) < r2.l0.length := by omega
      have HS := hh
      clear hT hch c2 hh
      go_wp2_with fail
      clear hAe c0 hcap hkl hkl' hs hgl hk hA0 hA1 hn0 hn1
      go_loopw [6] (fun vi wr => ∃ k : Nat, vi = .int .i64 k ∧ Hid (∃ r2 : Rt, RTab B wr g r2 ∧ r2.A0 = r.A0 ∧ r2.A1 = r.A1 ∧ r2.l0.length = r.l0.length ∧ r2.l1.length = r.l1.length ∧ Ch (ROwn g r) w wr) ∧ k ≤ r.l1.length) (fun vi _ => r.l1.length - (intOf vi).toNat)
      case atStart => exact ⟨0, rfl, HS.out, by omega⟩
      case round =>
        obtain ⟨k, rfl, hh, hk⟩ := hrel
        obtain ⟨r2, hT, hA0, hA1, hn0, hn1, hch⟩ := hh.out
        have c1 := hT.c1
        have c2 := hT.c2
        have hgl := hT.lt
        have hs := hT.s1
        obtain ⟨ao, cap, hAe, hcap⟩ := own_slice hT.o1
        rw [hAe] at c1
        by_cases hkl : k < r2.l1.length
        case neg =>
          have hkl' : ¬ (k : Int) < r2.l1.length := by omega
          have HS := hh
          clear hT hch c2 hh
          go_wp2_with fail
          go_ret
          obtain ⟨r3, p1, p2, p3, _, _, p6⟩ := HS.out
          exact ⟨⟨_, rfl⟩, r3, p1, p2, p3, p6⟩
        case pos =>
          have hkl' : (k : Int) < r2.l1.length := by omega
          obtain ⟨g', rfl⟩ : ∃ g', ao = some ⟨g', 0, none⟩ := by
            have ho := hT.o1
            rw [hAe] at ho
            rcases ho.2 with ⟨_, h⟩ | ⟨g', cap', cur, h1, _⟩
            · omega
            · simp at h1; exact ⟨g', h1.1⟩
          obtain ⟨x, hx⟩ : ∃ x, r2.l1[k]? = some x := ⟨_, List.getElem?_eq_getElem hkl⟩
          have hc : ∀ w', Below wr.heap.size wr w' → ∀ j, j < 6 → w'.cell? ⟨g', k * 6 + j, none⟩ = x.cells[j]? := fun w' hb j hj => by
            have ho := (hT.below hb).o1
            rw [hAe] at ho
            rw [ho.cellAt (k * 6 + j) (by omega), flatE_get r2.l1 k x j hx hj]
          have cA : ∀ w', Below wr.heap.size wr w' → w'.cell? ⟨g, 1, none⟩ = some (.slice (some ⟨g', 0, none⟩) r2.l1.length cap) := fun w' hb => by
            have := (hT.below hb).c1
            rw [hAe] at this
            exact this
          have cD : ∀ w', Below wr.heap.size wr w' → w'.cell? ⟨g, 2, none⟩ = some (.int .i64 r2.dp) := fun w' hb => (hT.below hb).c2
          have cL : ∀ w', Below wr.heap.size wr w' → w'.cell? ⟨g', k * 6 + 4, none⟩ = some (.int .i64 x.lv) := fun w' hb => hc w' hb 4 (by omega)
          have cS : ∀ w', Below wr.heap.size wr w' → w'.cell? ⟨g', k * 6 + 5, none⟩ = some (.bool x.st) := fun w' hb => hc w' hb 5 (by omega)
          have hfz : ∀ w', Below wr.heap.size wr w' → w'.frozen? ⟨g', k * 6 + 5, none⟩ = false := fun w' hb => by
            have ho := (hT.below hb).o1
            rw [hAe] at ho
            exact ho.frozenAt _
          have next : ∀ w' b, Below wr.heap.size wr w' → ∃ r3 : Rt, RTab B (w'.setCell ⟨g', k * 6 + 5, none⟩ (.bool b)) g r3 ∧ r3.A0 = r.A0 ∧ r3.A1 = r.A1 ∧ r3.l0.length = r.l0.length ∧ r3.l1.length = r.l1.length ∧ Ch (ROwn g r) w (w'.setCell ⟨g', k * 6 + 5, none⟩ (.bool b)) := fun w' b hb => by
            obtain ⟨q1, q2⟩ := (hT.below hb).st1 hAe hx b
            refine ⟨_, q1, hA0, hA1, by simpa using hn0, by simpa using hn1, hch.trans (Ch.trans (Ch.ofBelow hb) (q2.mono fun k _ hk => ?_))⟩
            rcases hk with e | e | e
            · exact Or.inl e
            · exact Or.inr (Or.inl (by rw [← hA0]; exact e))
            · exact Or.inr (Or.inr (by rw [← hA1]; exact e))
          have HX := Lib.hid next
          have HF := Lib.hid hfz
          have HCZ := Lib.hid cS
          have HLN := Lib.hid (show k < r.l1.length by omega)
          obtain ⟨nm, ar, res, df, lv, st⟩ := x
          simp only at cL cS
          clear hT hch hc hx next hfz hh hA0 hA1 HS
          cases st
          case false =>
            go_wp2_with fail
            refine wp_region_flow3 30 (by kernel_rfl) (by kernel_rfl) ?_ (ZQ1f g g' k cap r2.l1.length lv r2.dp) (fun w' => Below wr.heap.size wr w') (Below.drew (Below.refl _ wr)) ?_ ?_
            · intro i o' d hi ho hd
              have : i = 0 ∨ i = 1 ∨ i = 2 ∨ i = 3 ∨ i = 4 ∨ i = 5 ∨ i = 6 ∨ i = 7 ∨ i = 8 ∨ i = 9 ∨ i = 10 ∨ i = 11 ∨ i = 12 ∨ i = 13 ∨ i = 14 ∨ i = 15 ∨ i = 16 ∨ i = 17 ∨ i = 18 ∨ i = 19 ∨ i = 20 ∨ i = 21 ∨ i = 22 ∨ i = 23 ∨ i = 24 ∨ i = 25 ∨ i = 26 ∨ i = 27 ∨ i = 28 ∨ i = 29 := by omega
              rcases this with rfl | rfl | rfl | rfl | rfl | rfl | rfl | rfl | rfl | rfl | rfl | rfl | rfl | rfl | rfl | rfl | rfl | rfl | rfl | rfl | rfl | rfl | rfl | rfl | rfl | rfl | rfl | rfl | rfl | rfl <;> (simp at ho; subst ho; simp at hd; subst hd; simp)
            · intro i o' hi ho
              have : i = 0 ∨ i = 1 ∨ i = 2 ∨ i = 3 ∨ i = 4 ∨ i = 5 ∨ i = 6 ∨ i = 7 ∨ i = 8 ∨ i = 9 ∨ i = 10 ∨ i = 11 ∨ i = 12 ∨ i = 13 ∨ i = 14 ∨ i = 15 ∨ i = 16 ∨ i = 17 ∨ i = 18 ∨ i = 19 ∨ i = 20 ∨ i = 21 ∨ i = 22 ∨ i = 23 ∨ i = 24 ∨ i = 25 ∨ i = 26 ∨ i = 27 ∨ i = 28 ∨ i = 29 := by omega
              rcases this with rfl | rfl | rfl | rfl | rfl | rfl | rfl | rfl | rfl | rfl | rfl | rfl | rfl | rfl | rfl | rfl | rfl | rfl | rfl | rfl | rfl | rfl | rfl | rfl | rfl | rfl | rfl | rfl | rfl | rfl <;> (simp at ho; subst ho; intro a w' hC hd hr)
              · rw [if_pos (by rfl)]
                have e0 : a.tmps.getD 0 undef = .pointer (some ⟨g, 0, none⟩) := hr 0 (free_of (by rfl))
                have e0' : a.tmps[0]?.getD undef = .pointer (some ⟨g, 0, none⟩) := by simpa using e0
                exact flow_val (v := .pointer (some ⟨g, 0, none⟩)) (by go_simp; try rfl) ⟨rfl, hC, fun _ _ _ h => h⟩
              · rw [if_pos (by rfl)]
                have e74 : a.tmps.getD 74 undef = .pointer (some ⟨g, 0, none⟩) := hd ⟨0, .data⟩ (by simp) rfl _ _ rfl rfl
                have e74' : a.tmps[74]?.getD undef = .pointer (some ⟨g, 0, none⟩) := by simpa using e74
                exact flow_val (v := .pointer (some ⟨g, 0, none⟩)) (by go_simp; try rfl) ⟨rfl, hC, fun _ _ _ h => h⟩
              · rw [if_pos (by rfl)]
                have e75 : a.tmps.getD 75 undef = .pointer (some ⟨g, 0, none⟩) := hd ⟨1, .data⟩ (by simp) rfl _ _ rfl rfl
                have e75' : a.tmps[75]?.getD undef = .pointer (some ⟨g, 0, none⟩) := by simpa using e75
                exact flow_val (v := .pointer (some ⟨g, 1, none⟩)) (by go_simp; try rfl) ⟨rfl, hC, fun _ _ _ h => h⟩
              · rw [if_pos (by rfl)]
                have e76 : a.tmps.getD 76 undef = .pointer (some ⟨g, 1, none⟩) := hd ⟨2, .data⟩ (by simp) rfl _ _ rfl rfl
                have e76' : a.tmps[76]?.getD undef = .pointer (some ⟨g, 1, none⟩) := by simpa using e76
                have c0 : w'.cell? ⟨g, 1, none⟩ = some (.slice (some ⟨g', 0, none⟩) r2.l1.length cap) := cA w' hC
                exact flow_val (v := (.slice (some ⟨g', 0, none⟩) r2.l1.length cap)) (by go_simp; try rfl) ⟨rfl, hC, fun _ _ _ h => h⟩
              · rw [if_pos (by rfl)]
                have e6 : a.tmps.getD 6 undef = .int .i64 k := hr 6 (free_of (by rfl))
                have e6' : a.tmps[6]?.getD undef = .int .i64 k := by simpa using e6
                exact flow_val (v := .int .i64 k) (by go_simp; try rfl) ⟨rfl, hC, fun _ _ _ h => h⟩
              · rw [if_pos (by rfl)]
                have e0 : a.tmps.getD 0 undef = .pointer (some ⟨g, 0, none⟩) := hr 0 (free_of (by rfl))
                have e0' : a.tmps[0]?.getD undef = .pointer (some ⟨g, 0, none⟩) := by simpa using e0
                exact flow_val (v := .pointer (some ⟨g, 0, none⟩)) (by go_simp; try rfl) ⟨rfl, hC, fun _ _ _ h => h⟩
              · rw [if_pos (by rfl)]
                have e79 : a.tmps.getD 79 undef = .pointer (some ⟨g, 0, none⟩) := hd ⟨5, .data⟩ (by simp) rfl _ _ rfl rfl
                have e79' : a.tmps[79]?.getD undef = .pointer (some ⟨g, 0, none⟩) := by simpa using e79
                exact flow_val (v := .pointer (some ⟨g, 0, none⟩)) (by go_simp; try rfl) ⟨rfl, hC, fun _ _ _ h => h⟩
              · rw [if_pos (by rfl)]
                have e80 : a.tmps.getD 80 undef = .pointer (some ⟨g, 0, none⟩) := hd ⟨6, .data⟩ (by simp) rfl _ _ rfl rfl
                have e80' : a.tmps[80]?.getD undef = .pointer (some ⟨g, 0, none⟩) := by simpa using e80
                exact flow_val (v := .pointer (some ⟨g, 1, none⟩)) (by go_simp; try rfl) ⟨rfl, hC, fun _ _ _ h => h⟩
              · rw [if_pos (by rfl)]
                have e81 : a.tmps.getD 81 undef = .pointer (some ⟨g, 1, none⟩) := hd ⟨7, .data⟩ (by simp) rfl _ _ rfl rfl
                have e81' : a.tmps[81]?.getD undef = .pointer (some ⟨g, 1, none⟩) := by simpa using e81
                have c0 : w'.cell? ⟨g, 1, none⟩ = some (.slice (some ⟨g', 0, none⟩) r2.l1.length cap) := cA w' hC
                exact flow_val (v := (.slice (some ⟨g', 0, none⟩) r2.l1.length cap)) (by go_simp; try rfl) ⟨rfl, hC, fun _ _ _ h => h⟩
              · rw [if_pos (by rfl)]
                have e6 : a.tmps.getD 6 undef = .int .i64 k := hr 6 (free_of (by rfl))
                have e6' : a.tmps[6]?.getD undef = .int .i64 k := by simpa using e6
                exact flow_val (v := .int .i64 k) (by go_simp; try rfl) ⟨rfl, hC, fun _ _ _ h => h⟩
              · rw [if_pos (by rfl)]
                have e82 : a.tmps.getD 82 undef = (.slice (some ⟨g', 0, none⟩) r2.l1.length cap) := hd ⟨8, .data⟩ (by simp) rfl _ _ rfl rfl
                have e82' : a.tmps[82]?.getD undef = (.slice (some ⟨g', 0, none⟩) r2.l1.length cap) := by simpa using e82
                have e83 : a.tmps.getD 83 undef = .int .i64 k := hd ⟨9, .data⟩ (by simp) rfl _ _ rfl rfl
                have e83' : a.tmps[83]?.getD undef = .int .i64 k := by simpa using e83
                exact flow_val (v := (.pointer (some ⟨g', k * 6, none⟩))) (by go_simp; try rfl) ⟨rfl, hC, fun _ _ _ h => h⟩
              · rw [if_pos (by rfl)]
                have e84 : a.tmps.getD 84 undef = (.pointer (some ⟨g', k * 6, none⟩)) := hd ⟨10, .data⟩ (by simp) rfl _ _ rfl rfl
                have e84' : a.tmps[84]?.getD undef = (.pointer (some ⟨g', k * 6, none⟩)) := by simpa using e84
                exact flow_val (v := (.pointer (some ⟨g', k * 6 + 5, none⟩))) (by go_simp; try rfl) ⟨rfl, hC, fun _ _ _ h => h⟩
              · rw [if_pos (by rfl)]
                have e85 : a.tmps.getD 85 undef = (.pointer (some ⟨g', k * 6 + 5, none⟩)) := hd ⟨11, .data⟩ (by simp) rfl _ _ rfl rfl
                have e85' : a.tmps[85]?.getD undef = (.pointer (some ⟨g', k * 6 + 5, none⟩)) := by simpa using e85
                have c0 : w'.cell? ⟨g', k * 6 + 5, none⟩ = some (.bool false) := cS w' hC
                exact flow_val (v := .bool false) (by go_simp; try rfl) ⟨rfl, hC, fun _ _ _ h => h⟩
              · rw [if_pos (by rfl)]
                have e86 : a.tmps.getD 86 undef = .bool false := hd ⟨12, .data⟩ (by simp) rfl _ _ rfl rfl
                have e86' : a.tmps[86]?.getD undef = .bool false := by simpa using e86
                exact flow_val (v := .bool false) (by go_simp; try rfl) ⟨rfl, hC, fun _ _ _ h => h⟩
              · have eg := tmp_bool (hd ⟨13, .guard⟩ (by simp) rfl _ _ rfl rfl : a.tmps.getD 87 undef = .bool false)
                rw [if_neg (by simp [Region.wanted, yielded, eg])]
                exact rfl
              · have eg := tmp_bool (hd ⟨13, .guard⟩ (by simp) rfl _ _ rfl rfl : a.tmps.getD 87 undef = .bool false)
                rw [if_neg (by simp [Region.wanted, yielded, eg])]
                exact rfl
              · have eg := tmp_bool (hd ⟨13, .guard⟩ (by simp) rfl _ _ rfl rfl : a.tmps.getD 87 undef = .bool false)
                rw [if_neg (by simp [Region.wanted, yielded, eg])]
                exact rfl
              · have eg := tmp_bool (hd ⟨13, .guard⟩ (by simp) rfl _ _ rfl rfl : a.tmps.getD 87 undef = .bool false)
                rw [if_neg (by simp [Region.wanted, yielded, eg])]
                exact rfl
              · have eg := tmp_bool (hd ⟨13, .guard⟩ (by simp) rfl _ _ rfl rfl : a.tmps.getD 87 undef = .bool false)
                rw [if_neg (by simp [Region.wanted, yielded, eg])]
                exact rfl
              · have eg := tmp_bool (hd ⟨13, .guard⟩ (by simp) rfl _ _ rfl rfl : a.tmps.getD 87 undef = .bool false)
                rw [if_neg (by simp [Region.wanted, yielded, eg])]
                exact rfl
              · have eg := tmp_bool (hd ⟨13, .guard⟩ (by simp) rfl _ _ rfl rfl : a.tmps.getD 87 undef = .bool false)
                rw [if_neg (by simp [Region.wanted, yielded, eg])]
                exact rfl
              · have eg := tmp_bool (hd ⟨13, .guard⟩ (by simp) rfl _ _ rfl rfl : a.tmps.getD 87 undef = .bool false)
                rw [if_neg (by simp [Region.wanted, yielded, eg])]
                exact rfl
              · have eg := tmp_bool (hd ⟨13, .guard⟩ (by simp) rfl _ _ rfl rfl : a.tmps.getD 87 undef = .bool false)
                rw [if_neg (by simp [Region.wanted, yielded, eg])]
                exact rfl
              · have eg := tmp_bool (hd ⟨13, .guard⟩ (by simp) rfl _ _ rfl rfl : a.tmps.getD 87 undef = .bool false)
                rw [if_neg (by simp [Region.wanted, yielded, eg])]
                exact rfl
              · have eg := tmp_bool (hd ⟨13, .guard⟩ (by simp) rfl _ _ rfl rfl : a.tmps.getD 87 undef = .bool false)
                rw [if_neg (by simp [Region.wanted, yielded, eg])]
                exact rfl
              · have eg := tmp_bool (hd ⟨13, .guard⟩ (by simp) rfl _ _ rfl rfl : a.tmps.getD 87 undef = .bool false)
                rw [if_neg (by simp [Region.wanted, yielded, eg])]
                exact rfl
              · have eg := tmp_bool (hd ⟨13, .guard⟩ (by simp) rfl _ _ rfl rfl : a.tmps.getD 87 undef = .bool false)
                rw [if_neg (by simp [Region.wanted, yielded, eg])]
                exact rfl
              · rw [if_pos (by rfl)]
                have e87 : a.tmps.getD 87 undef = .bool false := hd ⟨13, .data⟩ (by simp) rfl _ _ rfl rfl
                have e87' : a.tmps[87]?.getD undef = .bool false := by simpa using e87
                exact flow_val (v := .bool false) (by go_simp; try rfl) ⟨rfl, hC, fun _ _ _ h => h⟩
              · rw [if_pos (by rfl)]
                have e77 : a.tmps.getD 77 undef = (.slice (some ⟨g', 0, none⟩) r2.l1.length cap) := hd ⟨3, .data⟩ (by simp) rfl _ _ rfl rfl
                have e77' : a.tmps[77]?.getD undef = (.slice (some ⟨g', 0, none⟩) r2.l1.length cap) := by simpa using e77
                have e78 : a.tmps.getD 78 undef = .int .i64 k := hd ⟨4, .data⟩ (by simp) rfl _ _ rfl rfl
                have e78' : a.tmps[78]?.getD undef = .int .i64 k := by simpa using e78
                exact flow_val (v := (.pointer (some ⟨g', k * 6, none⟩))) (by go_simp; try rfl) ⟨rfl, hC, fun _ _ _ h => h⟩
              · rw [if_pos (by rfl)]
                have e102 : a.tmps.getD 102 undef = (.pointer (some ⟨g', k * 6, none⟩)) := hd ⟨28, .data⟩ (by simp) rfl _ _ rfl rfl
                have e102' : a.tmps[102]?.getD undef = (.pointer (some ⟨g', k * 6, none⟩)) := by simpa using e102
                exact flow_val (v := (.pointer (some ⟨g', k * 6 + 5, none⟩))) (by go_simp; try rfl) ⟨rfl, hC, fun _ _ _ h => h⟩
            · intro vs' w4 hb4 hZ
              have v29 : vs' 29 = (.pointer (some ⟨g', k * 6 + 5, none⟩)) := hZ 29 _ _ (by omega) rfl rfl
              have v27 : vs' 27 = .bool false := hZ 27 _ _ (by omega) rfl rfl
              clear hZ cA cS cL cD
              simp only [List.drop_succ_cons, List.drop_zero, List.take_succ_cons, List.take_zero, putAll, v29, v27]
              have f5 := HF.out w4 hb4
              have cz := HCZ.out w4 hb4
              have HX4 := Lib.hid (fun b => HX.out w4 b hb4)
              clear HX HF HCZ c1 c2 hb4
              go_wp2_with fail
              go_roundw
              case rel => exact ⟨k + 1, by go_num, Lib.hid (HX4.out _), HLN.out⟩
              case measure => have := HLN.out; simp [intOf]; omega
          case true =>
            go_wp2_with fail
            refine wp_region_flow3 30 (by kernel_rfl) (by kernel_rfl) ?_ (ZQ1t g g' k cap r2.l1.length lv r2.dp) (fun w' => Below wr.heap.size wr w') (Below.drew (Below.refl _ wr)) ?_ ?_
            · intro i o' d hi ho hd
              have : i = 0 ∨ i = 1 ∨ i = 2 ∨ i = 3 ∨ i = 4 ∨ i = 5 ∨ i = 6 ∨ i = 7 ∨ i = 8 ∨ i = 9 ∨ i = 10 ∨ i = 11 ∨ i = 12 ∨ i = 13 ∨ i = 14 ∨ i = 15 ∨ i = 16 ∨ i = 17 ∨ i = 18 ∨ i = 19 ∨ i = 20 ∨ i = 21 ∨ i = 22 ∨ i = 23 ∨ i = 24 ∨ i = 25 ∨ i = 26 ∨ i = 27 ∨ i = 28 ∨ i = 29 := by omega
              rcases this with rfl | rfl | rfl | rfl | rfl | rfl | rfl | rfl | rfl | rfl | rfl | rfl | rfl | rfl | rfl | rfl | rfl | rfl | rfl | rfl | rfl | rfl | rfl | rfl | rfl | rfl | rfl | rfl | rfl | rfl <;> (simp at ho; subst ho; simp at hd; subst hd; simp)
            · intro i o' hi ho
              have : i = 0 ∨ i = 1 ∨ i = 2 ∨ i = 3 ∨ i = 4 ∨ i = 5 ∨ i = 6 ∨ i = 7 ∨ i = 8 ∨ i = 9 ∨ i = 10 ∨ i = 11 ∨ i = 12 ∨ i = 13 ∨ i = 14 ∨ i = 15 ∨ i = 16 ∨ i = 17 ∨ i = 18 ∨ i = 19 ∨ i = 20 ∨ i = 21 ∨ i = 22 ∨ i = 23 ∨ i = 24 ∨ i = 25 ∨ i = 26 ∨ i = 27 ∨ i = 28 ∨ i = 29 := by omega
              rcases this with rfl | rfl | rfl | rfl | rfl | rfl | rfl | rfl | rfl | rfl | rfl | rfl | rfl | rfl | rfl | rfl | rfl | rfl | rfl | rfl | rfl | rfl | rfl | rfl | rfl | rfl | rfl | rfl | rfl | rfl <;> (simp at ho; subst ho; intro a w' hC hd hr)
              · rw [if_pos (by rfl)]
                have e0 : a.tmps.getD 0 undef = .pointer (some ⟨g, 0, none⟩) := hr 0 (free_of (by rfl))
                have e0' : a.tmps[0]?.getD undef = .pointer (some ⟨g, 0, none⟩) := by simpa using e0
                exact flow_val (v := .pointer (some ⟨g, 0, none⟩)) (by go_simp; try rfl) ⟨rfl, hC, fun _ _ _ h => h⟩
              · rw [if_pos (by rfl)]
                have e74 : a.tmps.getD 74 undef = .pointer (some ⟨g, 0, none⟩) := hd ⟨0, .data⟩ (by simp) rfl _ _ rfl rfl
                have e74' : a.tmps[74]?.getD undef = .pointer (some ⟨g, 0, none⟩) := by simpa using e74
                exact flow_val (v := .pointer (some ⟨g, 0, none⟩)) (by go_simp; try rfl) ⟨rfl, hC, fun _ _ _ h => h⟩
              · rw [if_pos (by rfl)]
                have e75 : a.tmps.getD 75 undef = .pointer (some ⟨g, 0, none⟩) := hd ⟨1, .data⟩ (by simp) rfl _ _ rfl rfl
                have e75' : a.tmps[75]?.getD undef = .pointer (some ⟨g, 0, none⟩) := by simpa using e75
                exact flow_val (v := .pointer (some ⟨g, 1, none⟩)) (by go_simp; try rfl) ⟨rfl, hC, fun _ _ _ h => h⟩
              · rw [if_pos (by rfl)]
                have e76 : a.tmps.getD 76 undef = .pointer (some ⟨g, 1, none⟩) := hd ⟨2, .data⟩ (by simp) rfl _ _ rfl rfl
                have e76' : a.tmps[76]?.getD undef = .pointer (some ⟨g, 1, none⟩) := by simpa using e76
                have c0 : w'.cell? ⟨g, 1, none⟩ = some (.slice (some ⟨g', 0, none⟩) r2.l1.length cap) := cA w' hC
                exact flow_val (v := (.slice (some ⟨g', 0, none⟩) r2.l1.length cap)) (by go_simp; try rfl) ⟨rfl, hC, fun _ _ _ h => h⟩
              · rw [if_pos (by rfl)]
                have e6 : a.tmps.getD 6 undef = .int .i64 k := hr 6 (free_of (by rfl))
                have e6' : a.tmps[6]?.getD undef = .int .i64 k := by simpa using e6
                exact flow_val (v := .int .i64 k) (by go_simp; try rfl) ⟨rfl, hC, fun _ _ _ h => h⟩
              · rw [if_pos (by rfl)]
                have e0 : a.tmps.getD 0 undef = .pointer (some ⟨g, 0, none⟩) := hr 0 (free_of (by rfl))
                have e0' : a.tmps[0]?.getD undef = .pointer (some ⟨g, 0, none⟩) := by simpa using e0
                exact flow_val (v := .pointer (some ⟨g, 0, none⟩)) (by go_simp; try rfl) ⟨rfl, hC, fun _ _ _ h => h⟩
              · rw [if_pos (by rfl)]
                have e79 : a.tmps.getD 79 undef = .pointer (some ⟨g, 0, none⟩) := hd ⟨5, .data⟩ (by simp) rfl _ _ rfl rfl
                have e79' : a.tmps[79]?.getD undef = .pointer (some ⟨g, 0, none⟩) := by simpa using e79
                exact flow_val (v := .pointer (some ⟨g, 0, none⟩)) (by go_simp; try rfl) ⟨rfl, hC, fun _ _ _ h => h⟩
              · rw [if_pos (by rfl)]
                have e80 : a.tmps.getD 80 undef = .pointer (some ⟨g, 0, none⟩) := hd ⟨6, .data⟩ (by simp) rfl _ _ rfl rfl
                have e80' : a.tmps[80]?.getD undef = .pointer (some ⟨g, 0, none⟩) := by simpa using e80
                exact flow_val (v := .pointer (some ⟨g, 1, none⟩)) (by go_simp; try rfl) ⟨rfl, hC, fun _ _ _ h => h⟩
              · rw [if_pos (by rfl)]
                have e81 : a.tmps.getD 81 undef = .pointer (some ⟨g, 1, none⟩) := hd ⟨7, .data⟩ (by simp) rfl _ _ rfl rfl
                have e81' : a.tmps[81]?.getD undef = .pointer (some ⟨g, 1, none⟩) := by simpa using e81
                have c0 : w'.cell? ⟨g, 1, none⟩ = some (.slice (some ⟨g', 0, none⟩) r2.l1.length cap) := cA w' hC
                exact flow_val (v := (.slice (some ⟨g', 0, none⟩) r2.l1.length cap)) (by go_simp; try rfl) ⟨rfl, hC, fun _ _ _ h => h⟩
              · rw [if_pos (by rfl)]
                have e6 : a.tmps.getD 6 undef = .int .i64 k := hr 6 (free_of (by rfl))
                have e6' : a.tmps[6]?.getD undef = .int .i64 k := by simpa using e6
                exact flow_val (v := .int .i64 k) (by go_simp; try rfl) ⟨rfl, hC, fun _ _ _ h => h⟩
              · rw [if_pos (by rfl)]
                have e82 : a.tmps.getD 82 undef = (.slice (some ⟨g', 0, none⟩) r2.l1.length cap) := hd ⟨8, .data⟩ (by simp) rfl _ _ rfl rfl
                have e82' : a.tmps[82]?.getD undef = (.slice (some ⟨g', 0, none⟩) r2.l1.length cap) := by simpa using e82
                have e83 : a.tmps.getD 83 undef = .int .i64 k := hd ⟨9, .data⟩ (by simp) rfl _ _ rfl rfl
                have e83' : a.tmps[83]?.getD undef = .int .i64 k := by simpa using e83
                exact flow_val (v := (.pointer (some ⟨g', k * 6, none⟩))) (by go_simp; try rfl) ⟨rfl, hC, fun _ _ _ h => h⟩
              · rw [if_pos (by rfl)]
                have e84 : a.tmps.getD 84 undef = (.pointer (some ⟨g', k * 6, none⟩)) := hd ⟨10, .data⟩ (by simp) rfl _ _ rfl rfl
                have e84' : a.tmps[84]?.getD undef = (.pointer (some ⟨g', k * 6, none⟩)) := by simpa using e84
                exact flow_val (v := (.pointer (some ⟨g', k * 6 + 5, none⟩))) (by go_simp; try rfl) ⟨rfl, hC, fun _ _ _ h => h⟩
              · rw [if_pos (by rfl)]
                have e85 : a.tmps.getD 85 undef = (.pointer (some ⟨g', k * 6 + 5, none⟩)) := hd ⟨11, .data⟩ (by simp) rfl _ _ rfl rfl
                have e85' : a.tmps[85]?.getD undef = (.pointer (some ⟨g', k * 6 + 5, none⟩)) := by simpa using e85
                have c0 : w'.cell? ⟨g', k * 6 + 5, none⟩ = some (.bool true) := cS w' hC
                exact flow_val (v := .bool true) (by go_simp; try rfl) ⟨rfl, hC, fun _ _ _ h => h⟩
              · rw [if_pos (by rfl)]
                have e86 : a.tmps.getD 86 undef = .bool true := hd ⟨12, .data⟩ (by simp) rfl _ _ rfl rfl
                have e86' : a.tmps[86]?.getD undef = .bool true := by simpa using e86
                exact flow_val (v := .bool true) (by go_simp; try rfl) ⟨rfl, hC, fun _ _ _ h => h⟩
              · have eg := tmp_bool (hd ⟨13, .guard⟩ (by simp) rfl _ _ rfl rfl : a.tmps.getD 87 undef = .bool true)
                rw [if_pos (by simp [Region.wanted, yielded, eg])]
                clear eg
                have e0 : a.tmps.getD 0 undef = .pointer (some ⟨g, 0, none⟩) := hr 0 (free_of (by rfl))
                have e0' : a.tmps[0]?.getD undef = .pointer (some ⟨g, 0, none⟩) := by simpa using e0
                exact flow_val (v := .pointer (some ⟨g, 0, none⟩)) (by go_simp; try rfl) ⟨rfl, hC, fun _ _ _ h => h⟩
              · have eg := tmp_bool (hd ⟨13, .guard⟩ (by simp) rfl _ _ rfl rfl : a.tmps.getD 87 undef = .bool true)
                rw [if_pos (by simp [Region.wanted, yielded, eg])]
                clear eg
                have e88 : a.tmps.getD 88 undef = .pointer (some ⟨g, 0, none⟩) := hd ⟨14, .data⟩ (by simp) rfl _ _ rfl rfl
                have e88' : a.tmps[88]?.getD undef = .pointer (some ⟨g, 0, none⟩) := by simpa using e88
                exact flow_val (v := .pointer (some ⟨g, 0, none⟩)) (by go_simp; try rfl) ⟨rfl, hC, fun _ _ _ h => h⟩
              · have eg := tmp_bool (hd ⟨13, .guard⟩ (by simp) rfl _ _ rfl rfl : a.tmps.getD 87 undef = .bool true)
                rw [if_pos (by simp [Region.wanted, yielded, eg])]
                clear eg
                have e89 : a.tmps.getD 89 undef = .pointer (some ⟨g, 0, none⟩) := hd ⟨15, .data⟩ (by simp) rfl _ _ rfl rfl
                have e89' : a.tmps[89]?.getD undef = .pointer (some ⟨g, 0, none⟩) := by simpa using e89
                exact flow_val (v := .pointer (some ⟨g, 1, none⟩)) (by go_simp; try rfl) ⟨rfl, hC, fun _ _ _ h => h⟩
              · have eg := tmp_bool (hd ⟨13, .guard⟩ (by simp) rfl _ _ rfl rfl : a.tmps.getD 87 undef = .bool true)
                rw [if_pos (by simp [Region.wanted, yielded, eg])]
                clear eg
                have e90 : a.tmps.getD 90 undef = .pointer (some ⟨g, 1, none⟩) := hd ⟨16, .data⟩ (by simp) rfl _ _ rfl rfl
                have e90' : a.tmps[90]?.getD undef = .pointer (some ⟨g, 1, none⟩) := by simpa using e90
                have c0 : w'.cell? ⟨g, 1, none⟩ = some (.slice (some ⟨g', 0, none⟩) r2.l1.length cap) := cA w' hC
                exact flow_val (v := (.slice (some ⟨g', 0, none⟩) r2.l1.length cap)) (by go_simp; try rfl) ⟨rfl, hC, fun _ _ _ h => h⟩
              · have eg := tmp_bool (hd ⟨13, .guard⟩ (by simp) rfl _ _ rfl rfl : a.tmps.getD 87 undef = .bool true)
                rw [if_pos (by simp [Region.wanted, yielded, eg])]
                clear eg
                have e6 : a.tmps.getD 6 undef = .int .i64 k := hr 6 (free_of (by rfl))
                have e6' : a.tmps[6]?.getD undef = .int .i64 k := by simpa using e6
                exact flow_val (v := .int .i64 k) (by go_simp; try rfl) ⟨rfl, hC, fun _ _ _ h => h⟩
              · have eg := tmp_bool (hd ⟨13, .guard⟩ (by simp) rfl _ _ rfl rfl : a.tmps.getD 87 undef = .bool true)
                rw [if_pos (by simp [Region.wanted, yielded, eg])]
                clear eg
                have e91 : a.tmps.getD 91 undef = (.slice (some ⟨g', 0, none⟩) r2.l1.length cap) := hd ⟨17, .data⟩ (by simp) rfl _ _ rfl rfl
                have e91' : a.tmps[91]?.getD undef = (.slice (some ⟨g', 0, none⟩) r2.l1.length cap) := by simpa using e91
                have e92 : a.tmps.getD 92 undef = .int .i64 k := hd ⟨18, .data⟩ (by simp) rfl _ _ rfl rfl
                have e92' : a.tmps[92]?.getD undef = .int .i64 k := by simpa using e92
                exact flow_val (v := (.pointer (some ⟨g', k * 6, none⟩))) (by go_simp; try rfl) ⟨rfl, hC, fun _ _ _ h => h⟩
              · have eg := tmp_bool (hd ⟨13, .guard⟩ (by simp) rfl _ _ rfl rfl : a.tmps.getD 87 undef = .bool true)
                rw [if_pos (by simp [Region.wanted, yielded, eg])]
                clear eg
                have e93 : a.tmps.getD 93 undef = (.pointer (some ⟨g', k * 6, none⟩)) := hd ⟨19, .data⟩ (by simp) rfl _ _ rfl rfl
                have e93' : a.tmps[93]?.getD undef = (.pointer (some ⟨g', k * 6, none⟩)) := by simpa using e93
                exact flow_val (v := (.pointer (some ⟨g', k * 6 + 4, none⟩))) (by go_simp; try rfl) ⟨rfl, hC, fun _ _ _ h => h⟩
              · have eg := tmp_bool (hd ⟨13, .guard⟩ (by simp) rfl _ _ rfl rfl : a.tmps.getD 87 undef = .bool true)
                rw [if_pos (by simp [Region.wanted, yielded, eg])]
                clear eg
                have e94 : a.tmps.getD 94 undef = (.pointer (some ⟨g', k * 6 + 4, none⟩)) := hd ⟨20, .data⟩ (by simp) rfl _ _ rfl rfl
                have e94' : a.tmps[94]?.getD undef = (.pointer (some ⟨g', k * 6 + 4, none⟩)) := by simpa using e94
                have c0 : w'.cell? ⟨g', k * 6 + 4, none⟩ = some (.int .i64 lv) := cL w' hC
                exact flow_val (v := .int .i64 lv) (by go_simp; try rfl) ⟨rfl, hC, fun _ _ _ h => h⟩
              · have eg := tmp_bool (hd ⟨13, .guard⟩ (by simp) rfl _ _ rfl rfl : a.tmps.getD 87 undef = .bool true)
                rw [if_pos (by simp [Region.wanted, yielded, eg])]
                clear eg
                have e0 : a.tmps.getD 0 undef = .pointer (some ⟨g, 0, none⟩) := hr 0 (free_of (by rfl))
                have e0' : a.tmps[0]?.getD undef = .pointer (some ⟨g, 0, none⟩) := by simpa using e0
                exact flow_val (v := .pointer (some ⟨g, 0, none⟩)) (by go_simp; try rfl) ⟨rfl, hC, fun _ _ _ h => h⟩
              · have eg := tmp_bool (hd ⟨13, .guard⟩ (by simp) rfl _ _ rfl rfl : a.tmps.getD 87 undef = .bool true)
                rw [if_pos (by simp [Region.wanted, yielded, eg])]
                clear eg
                have e96 : a.tmps.getD 96 undef = .pointer (some ⟨g, 0, none⟩) := hd ⟨22, .data⟩ (by simp) rfl _ _ rfl rfl
                have e96' : a.tmps[96]?.getD undef = .pointer (some ⟨g, 0, none⟩) := by simpa using e96
                exact flow_val (v := .pointer (some ⟨g, 0, none⟩)) (by go_simp; try rfl) ⟨rfl, hC, fun _ _ _ h => h⟩
              · have eg := tmp_bool (hd ⟨13, .guard⟩ (by simp) rfl _ _ rfl rfl : a.tmps.getD 87 undef = .bool true)
                rw [if_pos (by simp [Region.wanted, yielded, eg])]
                clear eg
                have e97 : a.tmps.getD 97 undef = .pointer (some ⟨g, 0, none⟩) := hd ⟨23, .data⟩ (by simp) rfl _ _ rfl rfl
                have e97' : a.tmps[97]?.getD undef = .pointer (some ⟨g, 0, none⟩) := by simpa using e97
                exact flow_val (v := .pointer (some ⟨g, 2, none⟩)) (by go_simp; try rfl) ⟨rfl, hC, fun _ _ _ h => h⟩
              · have eg := tmp_bool (hd ⟨13, .guard⟩ (by simp) rfl _ _ rfl rfl : a.tmps.getD 87 undef = .bool true)
                rw [if_pos (by simp [Region.wanted, yielded, eg])]
                clear eg
                have e98 : a.tmps.getD 98 undef = .pointer (some ⟨g, 2, none⟩) := hd ⟨24, .data⟩ (by simp) rfl _ _ rfl rfl
                have e98' : a.tmps[98]?.getD undef = .pointer (some ⟨g, 2, none⟩) := by simpa using e98
                have c0 : w'.cell? ⟨g, 2, none⟩ = some (.int .i64 r2.dp) := cD w' hC
                exact flow_val (v := .int .i64 r2.dp) (by go_simp; try rfl) ⟨rfl, hC, fun _ _ _ h => h⟩
              · have eg := tmp_bool (hd ⟨13, .guard⟩ (by simp) rfl _ _ rfl rfl : a.tmps.getD 87 undef = .bool true)
                rw [if_pos (by simp [Region.wanted, yielded, eg])]
                clear eg
                have e95 : a.tmps.getD 95 undef = .int .i64 lv := hd ⟨21, .data⟩ (by simp) rfl _ _ rfl rfl
                have e95' : a.tmps[95]?.getD undef = .int .i64 lv := by simpa using e95
                have e99 : a.tmps.getD 99 undef = .int .i64 r2.dp := hd ⟨25, .data⟩ (by simp) rfl _ _ rfl rfl
                have e99' : a.tmps[99]?.getD undef = .int .i64 r2.dp := by simpa using e99
                exact flow_val (v := .bool (decide (lv ≤ r2.dp))) (by go_simp; try rfl) ⟨rfl, hC, fun _ _ _ h => h⟩
              · rw [if_pos (by rfl)]
                have e87 : a.tmps.getD 87 undef = .bool true := hd ⟨13, .data⟩ (by simp) rfl _ _ rfl rfl
                have e87' : a.tmps[87]?.getD undef = .bool true := by simpa using e87
                have e100 : a.tmps.getD 100 undef = .bool (decide (lv ≤ r2.dp)) := hd ⟨26, .data⟩ (by simp) rfl _ _ rfl rfl
                have e100' : a.tmps[100]?.getD undef = .bool (decide (lv ≤ r2.dp)) := by simpa using e100
                exact flow_val (v := .bool (decide (lv ≤ r2.dp))) (by go_simp; try rfl) ⟨rfl, hC, fun _ _ _ h => h⟩
              · rw [if_pos (by rfl)]
                have e77 : a.tmps.getD 77 undef = (.slice (some ⟨g', 0, none⟩) r2.l1.length cap) := hd ⟨3, .data⟩ (by simp) rfl _ _ rfl rfl
                have e77' : a.tmps[77]?.getD undef = (.slice (some ⟨g', 0, none⟩) r2.l1.length cap) := by simpa using e77
                have e78 : a.tmps.getD 78 undef = .int .i64 k := hd ⟨4, .data⟩ (by simp) rfl _ _ rfl rfl
                have e78' : a.tmps[78]?.getD undef = .int .i64 k := by simpa using e78
                exact flow_val (v := (.pointer (some ⟨g', k * 6, none⟩))) (by go_simp; try rfl) ⟨rfl, hC, fun _ _ _ h => h⟩
              · rw [if_pos (by rfl)]
                have e102 : a.tmps.getD 102 undef = (.pointer (some ⟨g', k * 6, none⟩)) := hd ⟨28, .data⟩ (by simp) rfl _ _ rfl rfl
                have e102' : a.tmps[102]?.getD undef = (.pointer (some ⟨g', k * 6, none⟩)) := by simpa using e102
                exact flow_val (v := (.pointer (some ⟨g', k * 6 + 5, none⟩))) (by go_simp; try rfl) ⟨rfl, hC, fun _ _ _ h => h⟩
            · intro vs' w4 hb4 hZ
              have v29 : vs' 29 = (.pointer (some ⟨g', k * 6 + 5, none⟩)) := hZ 29 _ _ (by omega) rfl rfl
              have v27 : vs' 27 = .bool (decide (lv ≤ r2.dp)) := hZ 27 _ _ (by omega) rfl rfl
              clear hZ cA cS cL cD
              simp only [List.drop_succ_cons, List.drop_zero, List.take_succ_cons, List.take_zero, putAll, v29, v27]
              have f5 := HF.out w4 hb4
              have cz := HCZ.out w4 hb4
              have HX4 := Lib.hid (fun b => HX.out w4 b hb4)
              clear HX HF HCZ c1 c2 hb4
              go_wp2_with fail
              go_roundw
              case rel => exact ⟨k + 1, by go_num, Lib.hid (HX4.out _), HLN.out⟩
              case measure => have := HLN.out; simp [intOf]; omega
    case pos =>
      have hkl' : (k : Int) < r2.l0.length := by omega
      obtain ⟨g', rfl⟩ : ∃ g', ao = some ⟨g', 0, none⟩ := by
        have ho := hT.o0
        rw [hAe] at ho
        rcases ho.2 with ⟨_, h⟩ | ⟨g', cap', cur, h1, _⟩
        · omega
        · simp at h1; exact ⟨g', h1.1⟩
      obtain ⟨x, hx⟩ : ∃ x, r2.l0[k]? = some x := ⟨_, List.getElem?_eq_getElem hkl⟩
      have hc : ∀ w', Below wr.heap.size wr w' → ∀ j, j < 6 → w'.cell? ⟨g', k * 6 + j, none⟩ = x.cells[j]? := fun w' hb j hj => by
        have ho := (hT.below hb).o0
        rw [hAe] at ho
        rw [ho.cellAt (k * 6 + j) (by omega), flatE_get r2.l0 k x j hx hj]
      have cA : ∀ w', Below wr.heap.size wr w' → w'.cell? ⟨g, 0, none⟩ = some (.slice (some ⟨g', 0, none⟩) r2.l0.length cap) := fun w' hb => by
        have := (hT.below hb).c0
        rw [hAe] at this
        exact this
      have cD : ∀ w', Below wr.heap.size wr w' → w'.cell? ⟨g, 2, none⟩ = some (.int .i64 r2.dp) := fun w' hb => (hT.below hb).c2
      have cL : ∀ w', Below wr.heap.size wr w' → w'.cell? ⟨g', k * 6 + 4, none⟩ = some (.int .i64 x.lv) := fun w' hb => hc w' hb 4 (by omega)
      have cS : ∀ w', Below wr.heap.size wr w' → w'.cell? ⟨g', k * 6 + 5, none⟩ = some (.bool x.st) := fun w' hb => hc w' hb 5 (by omega)
      have hfz : ∀ w', Below wr.heap.size wr w' → w'.frozen? ⟨g', k * 6 + 5, none⟩ = false := fun w' hb => by
        have ho := (hT.below hb).o0
        rw [hAe] at ho
        exact ho.frozenAt _
      have next : ∀ w' b, Below wr.heap.size wr w' → ∃ r3 : Rt, RTab B (w'.setCell ⟨g', k * 6 + 5, none⟩ (.bool b)) g r3 ∧ r3.A0 = r.A0 ∧ r3.A1 = r.A1 ∧ r3.l0.length = r.l0.length ∧ r3.l1.length = r.l1.length ∧ Ch (ROwn g r) w (w'.setCell ⟨g', k * 6 + 5, none⟩ (.bool b)) := fun w' b hb => by
        obtain ⟨q1, q2⟩ := (hT.below hb).st0 hAe hx b
        refine ⟨_, q1, hA0, hA1, by simpa using hn0, by simpa using hn1, hch.trans (Ch.trans (Ch.ofBelow hb) (q2.mono fun k _ hk => ?_))⟩
        rcases hk with e | e | e
        · exact Or.inl e
        · exact Or.inr (Or.inl (by rw [← hA0]; exact e))
        · exact Or.inr (Or.inr (by rw [← hA1]; exact e))
      have HX := Lib.hid next
      have HF := Lib.hid hfz
      have HCZ := Lib.hid cS
      have HLN := Lib.hid (show k < r.l0.length by omega)
      obtain ⟨nm, ar, res, df, lv, st⟩ := x
      simp only at cL cS
      clear hT hch hc hx next hfz hh hA0 hA1 HS
      cases st
      case false =>
        go_wp2_with fail
        refine wp_region_flow3 30 (by kernel_rfl) (by kernel_rfl) ?_ (ZQ0f g g' k cap r2.l0.length lv r2.dp) (fun w' => Below wr.heap.size wr w') (Below.drew (Below.refl _ wr)) ?_ ?_
        · intro i o' d hi ho hd
          have : i = 0 ∨ i = 1 ∨ i = 2 ∨ i = 3 ∨ i = 4 ∨ i = 5 ∨ i = 6 ∨ i = 7 ∨ i = 8 ∨ i = 9 ∨ i = 10 ∨ i = 11 ∨ i = 12 ∨ i = 13 ∨ i = 14 ∨ i = 15 ∨ i = 16 ∨ i = 17 ∨ i = 18 ∨ i = 19 ∨ i = 20 ∨ i = 21 ∨ i = 22 ∨ i = 23 ∨ i = 24 ∨ i = 25 ∨ i = 26 ∨ i = 27 ∨ i = 28 ∨ i = 29 := by omega
          rcases this with rfl | rfl | rfl | rfl | rfl | rfl | rfl | rfl | rfl | rfl | rfl | rfl | rfl | rfl | rfl | rfl | rfl | rfl | rfl | rfl | rfl | rfl | rfl | rfl | rfl | rfl | rfl | rfl | rfl | rfl <;> (simp at ho; subst ho; simp at hd; subst hd; simp)
        · intro i o' hi ho
          have : i = 0 ∨ i = 1 ∨ i = 2 ∨ i = 3 ∨ i = 4 ∨ i = 5 ∨ i = 6 ∨ i = 7 ∨ i = 8 ∨ i = 9 ∨ i = 10 ∨ i = 11 ∨ i = 12 ∨ i = 13 ∨ i = 14 ∨ i = 15 ∨ i = 16 ∨ i = 17 ∨ i = 18 ∨ i = 19 ∨ i = 20 ∨ i = 21 ∨ i = 22 ∨ i = 23 ∨ i = 24 ∨ i = 25 ∨ i = 26 ∨ i = 27 ∨ i = 28 ∨ i = 29 := by omega
          rcases this with rfl | rfl | rfl | rfl | rfl | rfl | rfl | rfl | rfl | rfl | rfl | rfl | rfl | rfl | rfl | rfl | rfl | rfl | rfl | rfl | rfl | rfl | rfl | rfl | rfl | rfl | rfl | rfl | rfl | rfl <;> (simp at ho; subst ho; intro a w' hC hd hr)
          · rw [if_pos (by rfl)]
            have e0 : a.tmps.getD 0 undef = .pointer (some ⟨g, 0, none⟩) := hr 0 (free_of (by rfl))
            have e0' : a.tmps[0]?.getD undef = .pointer (some ⟨g, 0, none⟩) := by simpa using e0
            exact flow_val (v := .pointer (some ⟨g, 0, none⟩)) (by go_simp; try rfl) ⟨rfl, hC, fun _ _ _ h => h⟩
          · rw [if_pos (by rfl)]
            have e35 : a.tmps.getD 35 undef = .pointer (some ⟨g, 0, none⟩) := hd ⟨0, .data⟩ (by simp) rfl _ _ rfl rfl
            have e35' : a.tmps[35]?.getD undef = .pointer (some ⟨g, 0, none⟩) := by simpa using e35
            exact flow_val (v := .pointer (some ⟨g, 0, none⟩)) (by go_simp; try rfl) ⟨rfl, hC, fun _ _ _ h => h⟩
          · rw [if_pos (by rfl)]
            have e36 : a.tmps.getD 36 undef = .pointer (some ⟨g, 0, none⟩) := hd ⟨1, .data⟩ (by simp) rfl _ _ rfl rfl
            have e36' : a.tmps[36]?.getD undef = .pointer (some ⟨g, 0, none⟩) := by simpa using e36
            exact flow_val (v := .pointer (some ⟨g, 0, none⟩)) (by go_simp; try rfl) ⟨rfl, hC, fun _ _ _ h => h⟩
          · rw [if_pos (by rfl)]
            have e37 : a.tmps.getD 37 undef = .pointer (some ⟨g, 0, none⟩) := hd ⟨2, .data⟩ (by simp) rfl _ _ rfl rfl
            have e37' : a.tmps[37]?.getD undef = .pointer (some ⟨g, 0, none⟩) := by simpa using e37
            have c0 : w'.cell? ⟨g, 0, none⟩ = some (.slice (some ⟨g', 0, none⟩) r2.l0.length cap) := cA w' hC
            exact flow_val (v := (.slice (some ⟨g', 0, none⟩) r2.l0.length cap)) (by go_simp; try rfl) ⟨rfl, hC, fun _ _ _ h => h⟩
          · rw [if_pos (by rfl)]
            have e5 : a.tmps.getD 5 undef = .int .i64 k := hr 5 (free_of (by rfl))
            have e5' : a.tmps[5]?.getD undef = .int .i64 k := by simpa using e5
            exact flow_val (v := .int .i64 k) (by go_simp; try rfl) ⟨rfl, hC, fun _ _ _ h => h⟩
          · rw [if_pos (by rfl)]
            have e0 : a.tmps.getD 0 undef = .pointer (some ⟨g, 0, none⟩) := hr 0 (free_of (by rfl))
            have e0' : a.tmps[0]?.getD undef = .pointer (some ⟨g, 0, none⟩) := by simpa using e0
            exact flow_val (v := .pointer (some ⟨g, 0, none⟩)) (by go_simp; try rfl) ⟨rfl, hC, fun _ _ _ h => h⟩
          · rw [if_pos (by rfl)]
            have e40 : a.tmps.getD 40 undef = .pointer (some ⟨g, 0, none⟩) := hd ⟨5, .data⟩ (by simp) rfl _ _ rfl rfl
            have e40' : a.tmps[40]?.getD undef = .pointer (some ⟨g, 0, none⟩) := by simpa using e40
            exact flow_val (v := .pointer (some ⟨g, 0, none⟩)) (by go_simp; try rfl) ⟨rfl, hC, fun _ _ _ h => h⟩
          · rw [if_pos (by rfl)]
            have e41 : a.tmps.getD 41 undef = .pointer (some ⟨g, 0, none⟩) := hd ⟨6, .data⟩ (by simp) rfl _ _ rfl rfl
            have e41' : a.tmps[41]?.getD undef = .pointer (some ⟨g, 0, none⟩) := by simpa using e41
            exact flow_val (v := .pointer (some ⟨g, 0, none⟩)) (by go_simp; try rfl) ⟨rfl, hC, fun _ _ _ h => h⟩
          · rw [if_pos (by rfl)]
            have e42 : a.tmps.getD 42 undef = .pointer (some ⟨g, 0, none⟩) := hd ⟨7, .data⟩ (by simp) rfl _ _ rfl rfl
            have e42' : a.tmps[42]?.getD undef = .pointer (some ⟨g, 0, none⟩) := by simpa using e42
            have c0 : w'.cell? ⟨g, 0, none⟩ = some (.slice (some ⟨g', 0, none⟩) r2.l0.length cap) := cA w' hC
            exact flow_val (v := (.slice (some ⟨g', 0, none⟩) r2.l0.length cap)) (by go_simp; try rfl) ⟨rfl, hC, fun _ _ _ h => h⟩
          · rw [if_pos (by rfl)]
            have e5 : a.tmps.getD 5 undef = .int .i64 k := hr 5 (free_of (by rfl))
            have e5' : a.tmps[5]?.getD undef = .int .i64 k := by simpa using e5
            exact flow_val (v := .int .i64 k) (by go_simp; try rfl) ⟨rfl, hC, fun _ _ _ h => h⟩
          · rw [if_pos (by rfl)]
            have e43 : a.tmps.getD 43 undef = (.slice (some ⟨g', 0, none⟩) r2.l0.length cap) := hd ⟨8, .data⟩ (by simp) rfl _ _ rfl rfl
            have e43' : a.tmps[43]?.getD undef = (.slice (some ⟨g', 0, none⟩) r2.l0.length cap) := by simpa using e43
            have e44 : a.tmps.getD 44 undef = .int .i64 k := hd ⟨9, .data⟩ (by simp) rfl _ _ rfl rfl
            have e44' : a.tmps[44]?.getD undef = .int .i64 k := by simpa using e44
            exact flow_val (v := (.pointer (some ⟨g', k * 6, none⟩))) (by go_simp; try rfl) ⟨rfl, hC, fun _ _ _ h => h⟩
          · rw [if_pos (by rfl)]
            have e45 : a.tmps.getD 45 undef = (.pointer (some ⟨g', k * 6, none⟩)) := hd ⟨10, .data⟩ (by simp) rfl _ _ rfl rfl
            have e45' : a.tmps[45]?.getD undef = (.pointer (some ⟨g', k * 6, none⟩)) := by simpa using e45
            exact flow_val (v := (.pointer (some ⟨g', k * 6 + 5, none⟩))) (by go_simp; try rfl) ⟨rfl, hC, fun _ _ _ h => h⟩
          · rw [if_pos (by rfl)]
            have e46 : a.tmps.getD 46 undef = (.pointer (some ⟨g', k * 6 + 5, none⟩)) := hd ⟨11, .data⟩ (by simp) rfl _ _ rfl rfl
            have e46' : a.tmps[46]?.getD undef = (.pointer (some ⟨g', k * 6 + 5, none⟩)) := by simpa using e46
            have c0 : w'.cell? ⟨g', k * 6 + 5, none⟩ = some (.bool false) := cS w' hC
            exact flow_val (v := .bool false) (by go_simp; try rfl) ⟨rfl, hC, fun _ _ _ h => h⟩
          · rw [if_pos (by rfl)]
            have e47 : a.tmps.getD 47 undef = .bool false := hd ⟨12, .data⟩ (by simp) rfl _ _ rfl rfl
            have e47' : a.tmps[47]?.getD undef = .bool false := by simpa using e47
            exact flow_val (v := .bool false) (by go_simp; try rfl) ⟨rfl, hC, fun _ _ _ h => h⟩
          · have eg := tmp_bool (hd ⟨13, .guard⟩ (by simp) rfl _ _ rfl rfl : a.tmps.getD 48 undef = .bool false)
            rw [if_neg (by simp [Region.wanted, yielded, eg])]
            exact rfl
          · have eg := tmp_bool (hd ⟨13, .guard⟩ (by simp) rfl _ _ rfl rfl : a.tmps.getD 48 undef = .bool false)
            rw [if_neg (by simp [Region.wanted, yielded, eg])]
            exact rfl
          · have eg := tmp_bool (hd ⟨13, .guard⟩ (by simp) rfl _ _ rfl rfl : a.tmps.getD 48 undef = .bool false)
            rw [if_neg (by simp [Region.wanted, yielded, eg])]
            exact rfl
          · have eg := tmp_bool (hd ⟨13, .guard⟩ (by simp) rfl _ _ rfl rfl : a.tmps.getD 48 undef = .bool false)
            rw [if_neg (by simp [Region.wanted, yielded, eg])]
            exact rfl
          · have eg := tmp_bool (hd ⟨13, .guard⟩ (by simp) rfl _ _ rfl rfl : a.tmps.getD 48 undef = .bool false)
            rw [if_neg (by simp [Region.wanted, yielded, eg])]
            exact rfl
          · have eg := tmp_bool (hd ⟨13, .guard⟩ (by simp) rfl _ _ rfl rfl : a.tmps.getD 48 undef = .bool false)
            rw [if_neg (by simp [Region.wanted, yielded, eg])]
            exact rfl
          · have eg := tmp_bool (hd ⟨13, .guard⟩ (by simp) rfl _ _ rfl rfl : a.tmps.getD 48 undef = .bool false)
            rw [if_neg (by simp [Region.wanted, yielded, eg])]
            exact rfl
          · have eg := tmp_bool (hd ⟨13, .guard⟩ (by simp) rfl _ _ rfl rfl : a.tmps.getD 48 undef = .bool false)
            rw [if_neg (by simp [Region.wanted, yielded, eg])]
            exact rfl
          · have eg := tmp_bool (hd ⟨13, .guard⟩ (by simp) rfl _ _ rfl rfl : a.tmps.getD 48 undef = .bool false)
            rw [if_neg (by simp [Region.wanted, yielded, eg])]
            exact rfl
          · have eg := tmp_bool (hd ⟨13, .guard⟩ (by simp) rfl _ _ rfl rfl : a.tmps.getD 48 undef = .bool false)
            rw [if_neg (by simp [Region.wanted, yielded, eg])]
            exact rfl
          · have eg := tmp_bool (hd ⟨13, .guard⟩ (by simp) rfl _ _ rfl rfl : a.tmps.getD 48 undef = .bool false)
            rw [if_neg (by simp [Region.wanted, yielded, eg])]
            exact rfl
          · have eg := tmp_bool (hd ⟨13, .guard⟩ (by simp) rfl _ _ rfl rfl : a.tmps.getD 48 undef = .bool false)
            rw [if_neg (by simp [Region.wanted, yielded, eg])]
            exact rfl
          · have eg := tmp_bool (hd ⟨13, .guard⟩ (by simp) rfl _ _ rfl rfl : a.tmps.getD 48 undef = .bool false)
            rw [if_neg (by simp [Region.wanted, yielded, eg])]
            exact rfl
          · rw [if_pos (by rfl)]
            have e48 : a.tmps.getD 48 undef = .bool false := hd ⟨13, .data⟩ (by simp) rfl _ _ rfl rfl
            have e48' : a.tmps[48]?.getD undef = .bool false := by simpa using e48
            exact flow_val (v := .bool false) (by go_simp; try rfl) ⟨rfl, hC, fun _ _ _ h => h⟩
          · rw [if_pos (by rfl)]
            have e38 : a.tmps.getD 38 undef = (.slice (some ⟨g', 0, none⟩) r2.l0.length cap) := hd ⟨3, .data⟩ (by simp) rfl _ _ rfl rfl
            have e38' : a.tmps[38]?.getD undef = (.slice (some ⟨g', 0, none⟩) r2.l0.length cap) := by simpa using e38
            have e39 : a.tmps.getD 39 undef = .int .i64 k := hd ⟨4, .data⟩ (by simp) rfl _ _ rfl rfl
            have e39' : a.tmps[39]?.getD undef = .int .i64 k := by simpa using e39
            exact flow_val (v := (.pointer (some ⟨g', k * 6, none⟩))) (by go_simp; try rfl) ⟨rfl, hC, fun _ _ _ h => h⟩
          · rw [if_pos (by rfl)]
            have e63 : a.tmps.getD 63 undef = (.pointer (some ⟨g', k * 6, none⟩)) := hd ⟨28, .data⟩ (by simp) rfl _ _ rfl rfl
            have e63' : a.tmps[63]?.getD undef = (.pointer (some ⟨g', k * 6, none⟩)) := by simpa using e63
            exact flow_val (v := (.pointer (some ⟨g', k * 6 + 5, none⟩))) (by go_simp; try rfl) ⟨rfl, hC, fun _ _ _ h => h⟩
        · intro vs' w4 hb4 hZ
          have v29 : vs' 29 = (.pointer (some ⟨g', k * 6 + 5, none⟩)) := hZ 29 _ _ (by omega) rfl rfl
          have v27 : vs' 27 = .bool false := hZ 27 _ _ (by omega) rfl rfl
          clear hZ cA cS cL cD
          simp only [List.drop_succ_cons, List.drop_zero, List.take_succ_cons, List.take_zero, putAll, v29, v27]
          have f5 := HF.out w4 hb4
          have cz := HCZ.out w4 hb4
          have HX4 := Lib.hid (fun b => HX.out w4 b hb4)
          clear HX HF HCZ c0 c2 hb4
          go_wp2_with fail
          go_roundw
          case rel => exact ⟨k + 1, by go_num, Lib.hid (HX4.out _), HLN.out⟩
          case measure => have := HLN.out; simp [intOf]; omega
      case true =>
        go_wp2_with fail
        refine wp_region_flow3 30 (by kernel_rfl) (by kernel_rfl) ?_ (ZQ0t g g' k cap r2.l0.length lv r2.dp) (fun w' => Below wr.heap.size wr w') (Below.drew (Below.refl _ wr)) ?_ ?_
        · intro i o' d hi ho hd
          have : i = 0 ∨ i = 1 ∨ i = 2 ∨ i = 3 ∨ i = 4 ∨ i = 5 ∨ i = 6 ∨ i = 7 ∨ i = 8 ∨ i = 9 ∨ i = 10 ∨ i = 11 ∨ i = 12 ∨ i = 13 ∨ i = 14 ∨ i = 15 ∨ i = 16 ∨ i = 17 ∨ i = 18 ∨ i = 19 ∨ i = 20 ∨ i = 21 ∨ i = 22 ∨ i = 23 ∨ i = 24 ∨ i = 25 ∨ i = 26 ∨ i = 27 ∨ i = 28 ∨ i = 29 := by omega
          rcases this with rfl | rfl | rfl | rfl | rfl | rfl | rfl | rfl | rfl | rfl | rfl | rfl | rfl | rfl | rfl | rfl | rfl | rfl | rfl | rfl | rfl | rfl | rfl | rfl | rfl | rfl | rfl | rfl | rfl | rfl <;> (simp at ho; subst ho; simp at hd; subst hd; simp)
        · intro i o' hi ho
          have : i = 0 ∨ i = 1 ∨ i = 2 ∨ i = 3 ∨ i = 4 ∨ i = 5 ∨ i = 6 ∨ i = 7 ∨ i = 8 ∨ i = 9 ∨ i = 10 ∨ i = 11 ∨ i = 12 ∨ i = 13 ∨ i = 14 ∨ i = 15 ∨ i = 16 ∨ i = 17 ∨ i = 18 ∨ i = 19 ∨ i = 20 ∨ i = 21 ∨ i = 22 ∨ i = 23 ∨ i = 24 ∨ i = 25 ∨ i = 26 ∨ i = 27 ∨ i = 28 ∨ i = 29 := by omega
          rcases this with rfl | rfl | rfl | rfl | rfl | rfl | rfl | rfl | rfl | rfl | rfl | rfl | rfl | rfl | rfl | rfl | rfl | rfl | rfl | rfl | rfl | rfl | rfl | rfl | rfl | rfl | rfl | rfl | rfl | rfl <;> (simp at ho; subst ho; intro a w' hC hd hr)
          · rw [if_pos (by rfl)]
            have e0 : a.tmps.getD 0 undef = .pointer (some ⟨g, 0, none⟩) := hr 0 (free_of (by rfl))
            have e0' : a.tmps[0]?.getD undef = .pointer (some ⟨g, 0, none⟩) := by simpa using e0
            exact flow_val (v := .pointer (some ⟨g, 0, none⟩)) (by go_simp; try rfl) ⟨rfl, hC, fun _ _ _ h => h⟩
          · rw [if_pos (by rfl)]
            have e35 : a.tmps.getD 35 undef = .pointer (some ⟨g, 0, none⟩) := hd ⟨0, .data⟩ (by simp) rfl _ _ rfl rfl
            have e35' : a.tmps[35]?.getD undef = .pointer (some ⟨g, 0, none⟩) := by simpa using e35
            exact flow_val (v := .pointer (some ⟨g, 0, none⟩)) (by go_simp; try rfl) ⟨rfl, hC, fun _ _ _ h => h⟩
          · rw [if_pos (by rfl)]
            have e36 : a.tmps.getD 36 undef = .pointer (some ⟨g, 0, none⟩) := hd ⟨1, .data⟩ (by simp) rfl _ _ rfl rfl
            have e36' : a.tmps[36]?.getD undef = .pointer (some ⟨g, 0, none⟩) := by simpa using e36
            exact flow_val (v := .pointer (some ⟨g, 0, none⟩)) (by go_simp; try rfl) ⟨rfl, hC, fun _ _ _ h => h⟩
          · rw [if_pos (by rfl)]
            have e37 : a.tmps.getD 37 undef = .pointer (some ⟨g, 0, none⟩) := hd ⟨2, .data⟩ (by simp) rfl _ _ rfl rfl
            have e37' : a.tmps[37]?.getD undef = .pointer (some ⟨g, 0, none⟩) := by simpa using e37
            have c0 : w'.cell? ⟨g, 0, none⟩ = some (.slice (some ⟨g', 0, none⟩) r2.l0.length cap) := cA w' hC
            exact flow_val (v := (.slice (some ⟨g', 0, none⟩) r2.l0.length cap)) (by go_simp; try rfl) ⟨rfl, hC, fun _ _ _ h => h⟩
          · rw [if_pos (by rfl)]
            have e5 : a.tmps.getD 5 undef = .int .i64 k := hr 5 (free_of (by rfl))
            have e5' : a.tmps[5]?.getD undef = .int .i64 k := by simpa using e5
            exact flow_val (v := .int .i64 k) (by go_simp; try rfl) ⟨rfl, hC, fun _ _ _ h => h⟩
          · rw [if_pos (by rfl)]
            have e0 : a.tmps.getD 0 undef = .pointer (some ⟨g, 0, none⟩) := hr 0 (free_of (by rfl))
            have e0' : a.tmps[0]?.getD undef = .pointer (some ⟨g, 0, none⟩) := by simpa using e0
            exact flow_val (v := .pointer (some ⟨g, 0, none⟩)) (by go_simp; try rfl) ⟨rfl, hC, fun _ _ _ h => h⟩
          · rw [if_pos (by rfl)]
            have e40 : a.tmps.getD 40 undef = .pointer (some ⟨g, 0, none⟩) := hd ⟨5, .data⟩ (by simp) rfl _ _ rfl rfl
            have e40' : a.tmps[40]?.getD undef = .pointer (some ⟨g, 0, none⟩) := by simpa using e40
            exact flow_val (v := .pointer (some ⟨g, 0, none⟩)) (by go_simp; try rfl) ⟨rfl, hC, fun _ _ _ h => h⟩
          · rw [if_pos (by rfl)]
            have e41 : a.tmps.getD 41 undef = .pointer (some ⟨g, 0, none⟩) := hd ⟨6, .data⟩ (by simp) rfl _ _ rfl rfl
            have e41' : a.tmps[41]?.getD undef = .pointer (some ⟨g, 0, none⟩) := by simpa using e41
            exact flow_val (v := .pointer (some ⟨g, 0, none⟩)) (by go_simp; try rfl) ⟨rfl, hC, fun _ _ _ h => h⟩
          · rw [if_pos (by rfl)]
            have e42 : a.tmps.getD 42 undef = .pointer (some ⟨g, 0, none⟩) := hd ⟨7, .data⟩ (by simp) rfl _ _ rfl rfl
            have e42' : a.tmps[42]?.getD undef = .pointer (some ⟨g, 0, none⟩) := by simpa using e42
            have c0 : w'.cell? ⟨g, 0, none⟩ = some (.slice (some ⟨g', 0, none⟩) r2.l0.length cap) := cA w' hC
            exact flow_val (v := (.slice (some ⟨g', 0, none⟩) r2.l0.length cap)) (by go_simp; try rfl) ⟨rfl, hC, fun _ _ _ h => h⟩
          · rw [if_pos (by rfl)]
            have e5 : a.tmps.getD 5 undef = .int .i64 k := hr 5 (free_of (by rfl))
            have e5' : a.tmps[5]?.getD undef = .int .i64 k := by simpa using e5
            exact flow_val (v := .int .i64 k) (by go_simp; try rfl) ⟨rfl, hC, fun _ _ _ h => h⟩
          · rw [if_pos (by rfl)]
            have e43 : a.tmps.getD 43 undef = (.slice (some ⟨g', 0, none⟩) r2.l0.length cap) := hd ⟨8, .data⟩ (by simp) rfl _ _ rfl rfl
            have e43' : a.tmps[43]?.getD undef = (.slice (some ⟨g', 0, none⟩) r2.l0.length cap) := by simpa using e43
            have e44 : a.tmps.getD 44 undef = .int .i64 k := hd ⟨9, .data⟩ (by simp) rfl _ _ rfl rfl
            have e44' : a.tmps[44]?.getD undef = .int .i64 k := by simpa using e44
            exact flow_val (v := (.pointer (some ⟨g', k * 6, none⟩))) (by go_simp; try rfl) ⟨rfl, hC, fun _ _ _ h => h⟩
          · rw [if_pos (by rfl)]
            have e45 : a.tmps.getD 45 undef = (.pointer (some ⟨g', k * 6, none⟩)) := hd ⟨10, .data⟩ (by simp) rfl _ _ rfl rfl
            have e45' : a.tmps[45]?.getD undef = (.pointer (some ⟨g', k * 6, none⟩)) := by simpa using e45
            exact flow_val (v := (.pointer (some ⟨g', k * 6 + 5, none⟩))) (by go_simp; try rfl) ⟨rfl, hC, fun _ _ _ h => h⟩
          · rw [if_pos (by rfl)]
            have e46 : a.tmps.getD 46 undef = (.pointer (some ⟨g', k * 6 + 5, none⟩)) := hd ⟨11, .data⟩ (by simp) rfl _ _ rfl rfl
            have e46' : a.tmps[46]?.getD undef = (.pointer (some ⟨g', k * 6 + 5, none⟩)) := by simpa using e46
            have c0 : w'.cell? ⟨g', k * 6 + 5, none⟩ = some (.bool true) := cS w' hC
            exact flow_val (v := .bool true) (by go_simp; try rfl) ⟨rfl, hC, fun _ _ _ h => h⟩
          · rw [if_pos (by rfl)]
            have e47 : a.tmps.getD 47 undef = .bool true := hd ⟨12, .data⟩ (by simp) rfl _ _ rfl rfl
            have e47' : a.tmps[47]?.getD undef = .bool true := by simpa using e47
            exact flow_val (v := .bool true) (by go_simp; try rfl) ⟨rfl, hC, fun _ _ _ h => h⟩
          · have eg := tmp_bool (hd ⟨13, .guard⟩ (by simp) rfl _ _ rfl rfl : a.tmps.getD 48 undef = .bool true)
            rw [if_pos (by simp [Region.wanted, yielded, eg])]
            clear eg
            have e0 : a.tmps.getD 0 undef = .pointer (some ⟨g, 0, none⟩) := hr 0 (free_of (by rfl))
            have e0' : a.tmps[0]?.getD undef = .pointer (some ⟨g, 0, none⟩) := by simpa using e0
            exact flow_val (v := .pointer (some ⟨g, 0, none⟩)) (by go_simp; try rfl) ⟨rfl, hC, fun _ _ _ h => h⟩
          · have eg := tmp_bool (hd ⟨13, .guard⟩ (by simp) rfl _ _ rfl rfl : a.tmps.getD 48 undef = .bool true)
            rw [if_pos (by simp [Region.wanted, yielded, eg])]
            clear eg
            have e49 : a.tmps.getD 49 undef = .pointer (some ⟨g, 0, none⟩) := hd ⟨14, .data⟩ (by simp) rfl _ _ rfl rfl
            have e49' : a.tmps[49]?.getD undef = .pointer (some ⟨g, 0, none⟩) := by simpa using e49
            exact flow_val (v := .pointer (some ⟨g, 0, none⟩)) (by go_simp; try rfl) ⟨rfl, hC, fun _ _ _ h => h⟩
          · have eg := tmp_bool (hd ⟨13, .guard⟩ (by simp) rfl _ _ rfl rfl : a.tmps.getD 48 undef = .bool true)
            rw [if_pos (by simp [Region.wanted, yielded, eg])]
            clear eg
            have e50 : a.tmps.getD 50 undef = .pointer (some ⟨g, 0, none⟩) := hd ⟨15, .data⟩ (by simp) rfl _ _ rfl rfl
            have e50' : a.tmps[50]?.getD undef = .pointer (some ⟨g, 0, none⟩) := by simpa using e50
            exact flow_val (v := .pointer (some ⟨g, 0, none⟩)) (by go_simp; try rfl) ⟨rfl, hC, fun _ _ _ h => h⟩
          · have eg := tmp_bool (hd ⟨13, .guard⟩ (by simp) rfl _ _ rfl rfl : a.tmps.getD 48 undef = .bool true)
            rw [if_pos (by simp [Region.wanted, yielded, eg])]
            clear eg
            have e51 : a.tmps.getD 51 undef = .pointer (some ⟨g, 0, none⟩) := hd ⟨16, .data⟩ (by simp) rfl _ _ rfl rfl
            have e51' : a.tmps[51]?.getD undef = .pointer (some ⟨g, 0, none⟩) := by simpa using e51
            have c0 : w'.cell? ⟨g, 0, none⟩ = some (.slice (some ⟨g', 0, none⟩) r2.l0.length cap) := cA w' hC
            exact flow_val (v := (.slice (some ⟨g', 0, none⟩) r2.l0.length cap)) (by go_simp; try rfl) ⟨rfl, hC, fun _ _ _ h => h⟩
          · have eg := tmp_bool (hd ⟨13, .guard⟩ (by simp) rfl _ _ rfl rfl : a.tmps.getD 48 undef = .bool true)
            rw [if_pos (by simp [Region.wanted, yielded, eg])]
            clear eg
            have e5 : a.tmps.getD 5 undef = .int .i64 k := hr 5 (free_of (by rfl))
            have e5' : a.tmps[5]?.getD undef = .int .i64 k := by simpa using e5
            exact flow_val (v := .int .i64 k) (by go_simp; try rfl) ⟨rfl, hC, fun _ _ _ h => h⟩
          · have eg := tmp_bool (hd ⟨13, .guard⟩ (by simp) rfl _ _ rfl rfl : a.tmps.getD 48 undef = .bool true)
            rw [if_pos (by simp [Region.wanted, yielded, eg])]
            clear eg
            have e52 : a.tmps.getD 52 undef = (.slice (some ⟨g', 0, none⟩) r2.l0.length cap) := hd ⟨17, .data⟩ (by simp) rfl _ _ rfl rfl
            have e52' : a.tmps[52]?.getD undef = (.slice (some ⟨g', 0, none⟩) r2.l0.length cap) := by simpa using e52
            have e53 : a.tmps.getD 53 undef = .int .i64 k := hd ⟨18, .data⟩ (by simp) rfl _ _ rfl rfl
            have e53' : a.tmps[53]?.getD undef = .int .i64 k := by simpa using e53
            exact flow_val (v := (.pointer (some ⟨g', k * 6, none⟩))) (by go_simp; try rfl) ⟨rfl, hC, fun _ _ _ h => h⟩
          · have eg := tmp_bool (hd ⟨13, .guard⟩ (by simp) rfl _ _ rfl rfl : a.tmps.getD 48 undef = .bool true)
            rw [if_pos (by simp [Region.wanted, yielded, eg])]
            clear eg
            have e54 : a.tmps.getD 54 undef = (.pointer (some ⟨g', k * 6, none⟩)) := hd ⟨19, .data⟩ (by simp) rfl _ _ rfl rfl
            have e54' : a.tmps[54]?.getD undef = (.pointer (some ⟨g', k * 6, none⟩)) := by simpa using e54
            exact flow_val (v := (.pointer (some ⟨g', k * 6 + 4, none⟩))) (by go_simp; try rfl) ⟨rfl, hC, fun _ _ _ h => h⟩
          · have eg := tmp_bool (hd ⟨13, .guard⟩ (by simp) rfl _ _ rfl rfl : a.tmps.getD 48 undef = .bool true)
            rw [if_pos (by simp [Region.wanted, yielded, eg])]
            clear eg
            have e55 : a.tmps.getD 55 undef = (.pointer (some ⟨g', k * 6 + 4, none⟩)) := hd ⟨20, .data⟩ (by simp) rfl _ _ rfl rfl
            have e55' : a.tmps[55]?.getD undef = (.pointer (some ⟨g', k * 6 + 4, none⟩)) := by simpa using e55
            have c0 : w'.cell? ⟨g', k * 6 + 4, none⟩ = some (.int .i64 lv) := cL w' hC
            exact flow_val (v := .int .i64 lv) (by go_simp; try rfl) ⟨rfl, hC, fun _ _ _ h => h⟩
          · have eg := tmp_bool (hd ⟨13, .guard⟩ (by simp) rfl _ _ rfl rfl : a.tmps.getD 48 undef = .bool true)
            rw [if_pos (by simp [Region.wanted, yielded, eg])]
            clear eg
            have e0 : a.tmps.getD 0 undef = .pointer (some ⟨g, 0, none⟩) := hr 0 (free_of (by rfl))
            have e0' : a.tmps[0]?.getD undef = .pointer (some ⟨g, 0, none⟩) := by simpa using e0
            exact flow_val (v := .pointer (some ⟨g, 0, none⟩)) (by go_simp; try rfl) ⟨rfl, hC, fun _ _ _ h => h⟩
          · have eg := tmp_bool (hd ⟨13, .guard⟩ (by simp) rfl _ _ rfl rfl : a.tmps.getD 48 undef = .bool true)
            rw [if_pos (by simp [Region.wanted, yielded, eg])]
            clear eg
            have e57 : a.tmps.getD 57 undef = .pointer (some ⟨g, 0, none⟩) := hd ⟨22, .data⟩ (by simp) rfl _ _ rfl rfl
            have e57' : a.tmps[57]?.getD undef = .pointer (some ⟨g, 0, none⟩) := by simpa using e57
            exact flow_val (v := .pointer (some ⟨g, 0, none⟩)) (by go_simp; try rfl) ⟨rfl, hC, fun _ _ _ h => h⟩
          · have eg := tmp_bool (hd ⟨13, .guard⟩ (by simp) rfl _ _ rfl rfl : a.tmps.getD 48 undef = .bool true)
            rw [if_pos (by simp [Region.wanted, yielded, eg])]
            clear eg
            have e58 : a.tmps.getD 58 undef = .pointer (some ⟨g, 0, none⟩) := hd ⟨23, .data⟩ (by simp) rfl _ _ rfl rfl
            have e58' : a.tmps[58]?.getD undef = .pointer (some ⟨g, 0, none⟩) := by simpa using e58
            exact flow_val (v := .pointer (some ⟨g, 2, none⟩)) (by go_simp; try rfl) ⟨rfl, hC, fun _ _ _ h => h⟩
          · have eg := tmp_bool (hd ⟨13, .guard⟩ (by simp) rfl _ _ rfl rfl : a.tmps.getD 48 undef = .bool true)
            rw [if_pos (by simp [Region.wanted, yielded, eg])]
            clear eg
            have e59 : a.tmps.getD 59 undef = .pointer (some ⟨g, 2, none⟩) := hd ⟨24, .data⟩ (by simp) rfl _ _ rfl rfl
            have e59' : a.tmps[59]?.getD undef = .pointer (some ⟨g, 2, none⟩) := by simpa using e59
            have c0 : w'.cell? ⟨g, 2, none⟩ = some (.int .i64 r2.dp) := cD w' hC
            exact flow_val (v := .int .i64 r2.dp) (by go_simp; try rfl) ⟨rfl, hC, fun _ _ _ h => h⟩
          · have eg := tmp_bool (hd ⟨13, .guard⟩ (by simp) rfl _ _ rfl rfl : a.tmps.getD 48 undef = .bool true)
            rw [if_pos (by simp [Region.wanted, yielded, eg])]
            clear eg
            have e56 : a.tmps.getD 56 undef = .int .i64 lv := hd ⟨21, .data⟩ (by simp) rfl _ _ rfl rfl
            have e56' : a.tmps[56]?.getD undef = .int .i64 lv := by simpa using e56
            have e60 : a.tmps.getD 60 undef = .int .i64 r2.dp := hd ⟨25, .data⟩ (by simp) rfl _ _ rfl rfl
            have e60' : a.tmps[60]?.getD undef = .int .i64 r2.dp := by simpa using e60
            exact flow_val (v := .bool (decide (lv ≤ r2.dp))) (by go_simp; try rfl) ⟨rfl, hC, fun _ _ _ h => h⟩
          · rw [if_pos (by rfl)]
            have e48 : a.tmps.getD 48 undef = .bool true := hd ⟨13, .data⟩ (by simp) rfl _ _ rfl rfl
            have e48' : a.tmps[48]?.getD undef = .bool true := by simpa using e48
            have e61 : a.tmps.getD 61 undef = .bool (decide (lv ≤ r2.dp)) := hd ⟨26, .data⟩ (by simp) rfl _ _ rfl rfl
            have e61' : a.tmps[61]?.getD undef = .bool (decide (lv ≤ r2.dp)) := by simpa using e61
            exact flow_val (v := .bool (decide (lv ≤ r2.dp))) (by go_simp; try rfl) ⟨rfl, hC, fun _ _ _ h => h⟩
          · rw [if_pos (by rfl)]
            have e38 : a.tmps.getD 38 undef = (.slice (some ⟨g', 0, none⟩) r2.l0.length cap) := hd ⟨3, .data⟩ (by simp) rfl _ _ rfl rfl
            have e38' : a.tmps[38]?.getD undef = (.slice (some ⟨g', 0, none⟩) r2.l0.length cap) := by simpa using e38
            have e39 : a.tmps.getD 39 undef = .int .i64 k := hd ⟨4, .data⟩ (by simp) rfl _ _ rfl rfl
            have e39' : a.tmps[39]?.getD undef = .int .i64 k := by simpa using e39
            exact flow_val (v := (.pointer (some ⟨g', k * 6, none⟩))) (by go_simp; try rfl) ⟨rfl, hC, fun _ _ _ h => h⟩
          · rw [if_pos (by rfl)]
            have e63 : a.tmps.getD 63 undef = (.pointer (some ⟨g', k * 6, none⟩)) := hd ⟨28, .data⟩ (by simp) rfl _ _ rfl rfl
            have e63' : a.tmps[63]?.getD undef = (.pointer (some ⟨g', k * 6, none⟩)) := by simpa using e63
            exact flow_val (v := (.pointer (some ⟨g', k * 6 + 5, none⟩))) (by go_simp; try rfl) ⟨rfl, hC, fun _ _ _ h => h⟩
        · intro vs' w4 hb4 hZ
          have v29 : vs' 29 = (.pointer (some ⟨g', k * 6 + 5, none⟩)) := hZ 29 _ _ (by omega) rfl rfl
          have v27 : vs' 27 = .bool (decide (lv ≤ r2.dp)) := hZ 27 _ _ (by omega) rfl rfl
          clear hZ cA cS cL cD
          simp only [List.drop_succ_cons, List.drop_zero, List.take_succ_cons, List.take_zero, putAll, v29, v27]
          have f5 := HF.out w4 hb4
          have cz := HCZ.out w4 hb4
          have HX4 := Lib.hid (fun b => HX.out w4 b hb4)
          clear HX HF HCZ c0 c2 hb4
          go_wp2_with fail
          go_roundw
          case rel => exact ⟨k + 1, by go_num, Lib.hid (HX4.out _), HLN.out⟩
          case measure => have := HLN.out; simp [intOf]; omega
end Go.Proofs.Ytggbnjdbbomjoaa
