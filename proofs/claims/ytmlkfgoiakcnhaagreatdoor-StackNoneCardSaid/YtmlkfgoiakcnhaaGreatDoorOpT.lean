/- What 'tame' of the stack's statements says of any one call: something. And what a call's reading tells of its memory. -/
import Derived.Test.YtmlkfgoiakcnhaaGreatDoorOpens
import Derived.Test.YtmlkfgoiakcnhaaGreatDoorPStackNonex1
import Derived.Test.YtmlkfgoiakcnhaaGreatDoorReg
namespace Go.Proofs.YtmlkfgoiakcnhaaGreatDoor
open Go Go.RowKit Go.ChangeShapes Go.WideShapes Go.Proofs.YtmlkfgoiakcnhaaGreatDoorW.PrintWords Go.Proofs.YtmlkfgoiakcnhaaGreatDoor.PStackNone
theorem wrap_step {i : Int} {n : Nat} (h0 : 0 ≤ i) (h1 : i < n) (h2 : n ≤ maxLen) : wrap64 (i + 1) = i + 1 := by
  have : maxLen ≤ 9223372036854775807 := by decide
  unfold wrap64; omega
theorem rd_one (x : S27) : rd_T27 [x] 0 = x := rfl
theorem tame_end (x : S27) (k : Nat) : juristlaw26_tame.l0 (k + 1) [x] (wrap64 (0 + 1)) = some true := by
  rw [juristlaw26_tame.l0, if_neg (by simp [wrap64])]
theorem tame_l2 (x : S27) (h5 : x.f5.length ≤ maxLen) : ∀ (m : Nat) (y6 y8 : Int), 0 ≤ y8 → y8 ≤ x.f5.length → x.f5.length - y8 = m → ∃ k r, juristlaw26_tame.l2 k [x] 0 y6 y8 = some r
  | 0, y6, y8, g0, g1, g2 => by
    refine ⟨2, ?_⟩
    rw [juristlaw26_tame.l2, if_pos (by omega), if_pos (by simp), rd_one, if_neg (by omega), tame_end]
    by_cases h : y6 > 3000
    · rw [if_pos h]; exact ⟨_, rfl⟩
    · rw [if_neg h]; exact ⟨_, rfl⟩
  | m + 1, y6, y8, g0, g1, g2 => by
    have hlt : y8 < x.f5.length := by omega
    have hs := wrap_step g0 hlt h5
    obtain ⟨k, r, h⟩ := tame_l2 x h5 m (wrap64 (y6 + ((rdOf ByteArray.empty x.f5 y8).size : Int))) (wrap64 (y8 + 1)) (by omega) (by omega) (by omega)
    refine ⟨k + 1, r, ?_⟩
    rw [juristlaw26_tame.l2, if_pos (by omega), if_pos (by simp), rd_one, if_pos hlt, if_pos g0]
    exact h
theorem tame_l1 (x : S27) (h4 : x.f4.length ≤ maxLen) (h5 : x.f5.length ≤ maxLen) : ∀ (m : Nat) (y6 y7 : Int), 0 ≤ y7 → y7 ≤ x.f4.length → x.f4.length - y7 = m → ∃ k r, juristlaw26_tame.l1 k [x] 0 y6 y7 = some r
  | 0, y6, y7, g0, g1, g2 => by
    obtain ⟨k, r, h⟩ := tame_l2 x h5 x.f5.length y6 0 (by omega) (by omega) (by omega)
    refine ⟨k + 1, r, ?_⟩
    rw [juristlaw26_tame.l1, if_pos (by omega), if_pos (by simp), rd_one, if_neg (by omega)]
    exact h
  | m + 1, y6, y7, g0, g1, g2 => by
    have hlt : y7 < x.f4.length := by omega
    have hs := wrap_step g0 hlt h4
    obtain ⟨k, r, h⟩ := tame_l1 x h4 h5 m (wrap64 (y6 + ((rdOf ByteArray.empty x.f4 y7).size : Int))) (wrap64 (y7 + 1)) (by omega) (by omega) (by omega)
    refine ⟨k + 1, r, ?_⟩
    rw [juristlaw26_tame.l1, if_pos (by omega), if_pos (by simp), rd_one, if_pos hlt, if_pos g0]
    exact h
theorem tame_says (x : S27) (h4 : x.f4.length ≤ maxLen) (h5 : x.f5.length ≤ maxLen) : ∃ k r, juristlaw26_tame.f k [x] 1 = some r := by
  have hj : ∀ (y6 : Int) (b : Bool), ∃ k r, juristlaw26_tame.j1 k [x] 0 y6 b = some r := fun y6 b => by
    obtain ⟨k, r, h⟩ := tame_l1 x h4 h5 x.f4.length y6 0 (by omega) (by omega) (by omega)
    cases b with
    | true => exact ⟨1, false, by rw [juristlaw26_tame.j1, if_pos rfl]⟩
    | false => exact ⟨k + 1, r, by rw [juristlaw26_tame.j1, if_neg (by simp)]; exact h⟩
  have hl : ∃ k r, juristlaw26_tame.l0 k [x] 0 = some r := by
    by_cases hc : ((x.f4.length : Nat) : Int) > 40
    · obtain ⟨k, r, h⟩ := hj (wrap64 ((wrap64 ((x.f3.size : Int) + (x.f6.size : Int))) + ((x.f7).length : Int))) true
      refine ⟨k + 1, r, ?_⟩
      rw [juristlaw26_tame.l0, if_pos (by simp), if_pos (by omega), rd_one, if_pos hc]
      exact h
    · obtain ⟨k, r, h⟩ := hj (wrap64 ((wrap64 ((x.f3.size : Int) + (x.f6.size : Int))) + ((x.f7).length : Int))) (decide (((x.f5).length : Int) > 40))
      refine ⟨k + 1, r, ?_⟩
      rw [juristlaw26_tame.l0, if_pos (by simp), if_pos (by omega), rd_one, if_neg hc]
      exact h
  obtain ⟨k, r, h⟩ := hl
  refine ⟨k, r, ?_⟩
  unfold juristlaw26_tame.f
  rw [if_neg (by simp)]
  exact h

theorem opens_Options : Opens Tryz.prog k23 (fun _ => True) 23 :=
  opens_imp (opens_iso _ (fun x : Bool × Bool × Bool => S23.mk x.1 x.2.1 x.2.2) (fun _ => rfl) (opens_struct Tryz.underlying23 rfl
    (opensL_cons rfl (opens_bool Tryz.underlying4) (opensL_cons (by kernel_rfl) (opens_bool Tryz.underlying4) (opensL_one (by kernel_rfl) (by kernel_rfl) (opens_bool Tryz.underlying4)))))) (fun _ _ => trivial)
theorem opens_Op : Opens Tryz.prog k27 (fun x => x.f4.length ≤ maxLen ∧ x.f5.length ≤ maxLen ∧ x.f7.length ≤ maxLen) 27 :=
  opens_imp (opens_iso _ (fun x : Int × Int × S23 × ByteArray × List ByteArray × List ByteArray × ByteArray × List Int => S27.mk x.1 x.2.1 x.2.2.1 x.2.2.2.1 x.2.2.2.2.1 x.2.2.2.2.2.1 x.2.2.2.2.2.2.1 x.2.2.2.2.2.2.2) (fun _ => rfl) (opens_struct Tryz.underlying27 rfl
    (opensL_cons rfl (opens_int Tryz.underlying3) (opensL_cons (by kernel_rfl) (opens_int Tryz.underlying3) (opensL_cons (by kernel_rfl) opens_Options (opensL_cons (by kernel_rfl) (opens_string Tryz.underlying9)
      (opensL_cons (by kernel_rfl) (opens_slice 9 Tryz.underlying24 (by kernel_rfl) (opens_string Tryz.underlying9)) (opensL_cons (by kernel_rfl) (opens_slice 9 Tryz.underlying24 (by kernel_rfl) (opens_string Tryz.underlying9))
        (opensL_cons (by kernel_rfl) (opens_string Tryz.underlying9) (opensL_one (by kernel_rfl) (by kernel_rfl) (opens_slice 5 Tryz.underlying25 (by kernel_rfl) (opens_int Tryz.underlying5))))))))))))
    (fun _ h => ⟨h.2.2.2.2.1.1, h.2.2.2.2.2.1.1, h.2.2.2.2.2.2.2.1⟩)

set_option maxRecDepth 100000 in
/-- A call that was read: its parts, what 'tame' says of it, and its body as a text. -/
theorem op_open {H : Type} {enc : TypeId × Value → H} {w : World} {base : Nat} {spare : Nat → Bool} {held : Bool} {v : Value} {d : DataW H} {p : List MemPlace} {r : Reach} {b0 : Nat}
    (hv : Value.okWide Tryz.prog w r b0 27 v) (h : DataW.Trod enc Tryz.prog w base spare held 27 v d p) :
    ∃ (kd n : Int) (o1 o2 o3 : Bool) (nm rs : ByteArray) (Ap Aa Ab : Option Addr) (np cp na ca nb cb : Nat), v = .agg #[.int .i64 kd, .int .i64 n, .bool o1, .bool o2, .bool o3, .string nm, .slice Ap np cp, .slice Aa na ca, .string rs, .slice Ab nb cb] ∧
      (∃ b : Bool, ∀ w1 g, Below w.heap.size w w1 → CellsAt w1 g 0 [.int .i64 kd, .int .i64 n, .bool o1, .bool o2, .bool o3, .string nm, .slice Ap np cp, .slice Aa na ca, .string rs, .slice Ab nb cb] →
        Calls Tryz.prog 4 #[.slice (some ⟨g, 0, none⟩) 1 1, .int .i64 1] w1 fun e w' => e = .returned (.bool b) ∧ Below w1.heap.size w1 w') ∧
      ∃ s : ByteArray, s.size ≤ 9223372036854775807 ∧ ∀ w1, Below w.heap.size w w1 → (convert 25 9 (.slice Ab nb cb)).run Tryz.prog w1 = .ok (.string s) w1 := by
  obtain ⟨cs, rfl, _⟩ := okWide_struct Tryz.underlying27 hv
  obtain ⟨fuel, hf⟩ := h
  obtain ⟨x, hk, h4, h5, h7⟩ := opens_Op _ _ _ _ _ _ _ _ _ hf
  obtain ⟨A6, c6, A7, c7, A9, c9, hcs, l6, g6, l7, g7, l9, g9⟩ := k27_open hk
  have : cs = #[.int .i64 x.f0, .int .i64 x.f1, .bool x.f2.f0, .bool x.f2.f1, .bool x.f2.f2, .string x.f3, .slice A6 x.f4.length c6, .slice A7 x.f5.length c7, .string x.f6, .slice A9 x.f7.length c9] := by
    apply Array.ext'
    simpa [Value.cells] using hcs
  subst this
  refine ⟨_, _, _, _, _, _, _, _, _, _, _, _, _, _, _, _, rfl, ?_, strOfNums x.f7, ?_, fun w1 hb => Kd.C_string Tryz.underlying25 Tryz.underlying5 Tryz.underlying9 (Kd.C_below g9 hb)⟩
  · obtain ⟨k, b, hr⟩ := tame_says x h4 h5
    refine ⟨b, fun w1 g hb hc => ?_⟩
    have hC : Kd.C k27 w1 (some ⟨g, 0, none⟩) [x].length [x] := by
      refine ⟨rfl, by simp, fun _ => ⟨_, rfl, fun j p hj => ?_⟩⟩
      have hj0 : j = 0 := by
        have := (List.getElem?_eq_some_iff.1 hj).1
        simpa using this
      subst hj0
      obtain rfl : x = p := by simpa using hj
      refine ⟨_, k27.K_len hk, k27.K_below hb hk, fun i u hu => ?_⟩
      have h1 := hc i u (by simpa [Value.cells] using hu)
      simpa [addr_add] using h1
    exact (juristlaw26_tame.calls k (some ⟨g, 0, none⟩) 1 [x] 1 b w1 hC (Nat.le_refl _) hr).mono fun e w' ⟨he, hd⟩ => ⟨he, hd.below⟩
  · have : (strOfNums x.f7).size = x.f7.length := by simp [strOfNums, ByteArray.size]
    rw [this]
    exact Nat.le_trans h7 (by decide)
end Go.Proofs.YtmlkfgoiakcnhaaGreatDoor
