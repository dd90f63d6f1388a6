/- A stack that is not there, or was not made, refuses all: one contract a method. -/
import Derived.Test.YtmlkfgoiakcnhaaGreatDoorEvSn
import Derived.Test.YtmlkfgoiakcnhaaGreatDoorStO
namespace Go.Proofs.YtmlkfgoiakcnhaaGreatDoor
open Go Go.RowKit
/-- no stack -/
def NoSt (v : Value) (w : World) : Prop := v = .pointer none ∨ ∃ b, v = .pointer (some ⟨b, 0, none⟩) ∧ b < w.heap.size ∧ w.cell? ⟨b, 0, none⟩ = some (.pointer none)
theorem NoSt.on {v : Value} {w w1 : World} (h : NoSt v w) (hb : Below w.heap.size w w1) : NoSt v w1 := by
  rcases h with rfl | ⟨b, rfl, hl, h⟩
  · exact .inl rfl
  · exact .inr ⟨b, rfl, Nat.lt_of_lt_of_le hl hb.size, (hb.cell (p := ⟨b, 0, none⟩) hl).trans h⟩
theorem vr_ptr0 {σ : Sg} : VR σ .ptr0 (.pointer none) := by simp only [VR]
theorem vr_slice0 {σ : Sg} : VR σ .slice0 (.slice none 0 0) := by simp only [VR]
theorem vr_s {σ : Sg} {s : ByteArray} : VR σ .unkS (.string s) := by simp only [VR]; exact ⟨_, rfl⟩
theorem vr_i {σ : Sg} {k : IntKind} {n : Int} : VR σ (.unkI k) (.int k n) := by simp only [VR]; exact ⟨_, rfl⟩
theorem vr_b {σ : Sg} {b : Bool} : VR σ .unkB (.bool b) := by simp only [VR]; exact ⟨_, rfl⟩
theorem vr_l {σ : Sg} {A : Option Addr} {n c : Nat} : VR σ .unkL (.slice A n c) := by simp only [VR]; exact ⟨_, _, _, rfl⟩
theorem vr_agg {σ : Sg} {l : EVs} {x : Array Value} (h : VRs σ l x.toList) : VR σ (.agg l) (.agg x) := by simp only [VR]; exact ⟨_, rfl, h⟩
abbrev tree0V : Value := .agg #[.bool false, .int .u8 0, .string ⟨#[]⟩, .int .i64 0, .slice none 0 0]
theorem vr_tree0 {σ : Sg} : VR σ tree0 tree0V := vr_agg (VRs.cons (by simp only [VR]) (VRs.cons (by simp only [VR]) (VRs.cons (by simp only [VR]) (VRs.cons (by simp only [VR]) (VRs.cons (by simp only [VR]) VRs.nil)))))
theorem logic_no {v : Value} {w : World} (h : NoSt v w) : Calls Tryz.prog 8 #[v] w fun e w' => e = .returned (.int .i64 1) ∧ Below w.heap.size w w' := by
  rcases h with rfl | ⟨b, rfl, hl, h⟩
  · exact calls_value tabOk sn_logic rfl (fun σ => VRs.cons vr_ptr0 VRs.nil)
  · exact logic_zero b w h hl
theorem set_no {v : Value} {w : World} (h : NoSt v w) (p q r : Bool) : Calls Tryz.prog 9 #[v, .agg #[.bool p, .bool q, .bool r]] w fun e w' => e = .returned (.int .i64 1) ∧ Below w.heap.size w w' := by
  rcases h with rfl | ⟨b, rfl, hl, h⟩
  · exact calls_value tabOk sn_set rfl (fun σ => VRs.cons vr_ptr0 (VRs.cons (vr_agg (VRs.cons vr_b (VRs.cons vr_b (VRs.cons vr_b VRs.nil)))) VRs.nil))
  · exact set_zero b p q r w h hl
theorem declareSort_no {v : Value} {w : World} (h : NoSt v w) (s : ByteArray) : Calls Tryz.prog 10 #[v, .string s] w fun e w' => e = .returned (.int .i64 1) ∧ Below w.heap.size w w' := by
  rcases h with rfl | ⟨b, rfl, hl, h⟩
  · exact calls_value tabOk sn_declareSort rfl (fun σ => VRs.cons vr_ptr0 (VRs.cons vr_s VRs.nil))
  · exact declareSort_zero b s w h hl
theorem declareFun_no {v : Value} {w : World} (h : NoSt v w) (s : ByteArray) : Calls Tryz.prog 11 #[v, .string s, .slice none 0 0, tree0V] w fun e w' => e = .returned (.int .i64 1) ∧ Below w.heap.size w w' := by
  rcases h with rfl | ⟨b, rfl, hl, h⟩
  · exact calls_value tabOk sn_declareFun rfl (fun σ => VRs.cons vr_ptr0 (VRs.cons vr_s (VRs.cons vr_slice0 (VRs.cons vr_tree0 VRs.nil))))
  · exact declareFun_zero b s w h hl
theorem defineFun_no {v : Value} {w : World} (h : NoSt v w) (s : ByteArray) (A : Option Addr) (n c : Nat) : Calls Tryz.prog 12 #[v, .string s, .slice A n c, .slice none 0 0, tree0V, tree0V] w fun e w' => e = .returned (.int .i64 1) ∧ Below w.heap.size w w' := by
  rcases h with rfl | ⟨b, rfl, hl, h⟩
  · exact calls_value tabOk sn_defineFun rfl (fun σ => VRs.cons vr_ptr0 (VRs.cons vr_s (VRs.cons vr_l (VRs.cons vr_slice0 (VRs.cons vr_tree0 (VRs.cons vr_tree0 VRs.nil))))))
  · exact defineFun_zero b s A n c w h hl
theorem assert_no {v : Value} {w : World} (h : NoSt v w) : Calls Tryz.prog 13 #[v, tree0V] w fun e w' => e = .returned (.int .i64 1) ∧ Below w.heap.size w w' := by
  rcases h with rfl | ⟨b, rfl, hl, h⟩
  · exact calls_value tabOk sn_assert rfl (fun σ => VRs.cons vr_ptr0 (VRs.cons vr_tree0 VRs.nil))
  · exact assert_zero b w h hl
theorem push_no {v : Value} {w : World} (h : NoSt v w) (n : Int) : Calls Tryz.prog 14 #[v, .int .i64 n] w fun e w' => e = .returned (.int .i64 1) ∧ Below w.heap.size w w' := by
  rcases h with rfl | ⟨b, rfl, hl, h⟩
  · exact calls_value tabOk sn_push rfl (fun σ => VRs.cons vr_ptr0 (VRs.cons vr_i VRs.nil))
  · exact push_zero b n w h hl
theorem pop_no {v : Value} {w : World} (h : NoSt v w) (n : Int) : Calls Tryz.prog 15 #[v, .int .i64 n] w fun e w' => e = .returned (.int .i64 1) ∧ Below w.heap.size w w' := by
  rcases h with rfl | ⟨b, rfl, hl, h⟩
  · exact calls_value tabOk sn_pop rfl (fun σ => VRs.cons vr_ptr0 (VRs.cons vr_i VRs.nil))
  · exact pop_zero b n w h hl
theorem hasLogic_no {v : Value} {w : World} (h : NoSt v w) : Calls Tryz.prog 16 #[v] w fun e w' => e = .returned (.bool false) ∧ Below w.heap.size w w' := by
  rcases h with rfl | ⟨b, rfl, hl, h⟩
  · exact calls_value tabOk sn_hasLogic rfl (fun σ => VRs.cons vr_ptr0 VRs.nil)
  · exact (hasLogic_zero b w h).mono fun e w' ⟨he, hw⟩ => ⟨he, hw ▸ Below.refl _ _⟩
theorem level_no {v : Value} {w : World} (h : NoSt v w) : Calls Tryz.prog 17 #[v] w fun e w' => e = .returned (.int .i64 0) ∧ Below w.heap.size w w' := by
  rcases h with rfl | ⟨b, rfl, hl, h⟩
  · exact calls_value tabOk sn_level rfl (fun σ => VRs.cons vr_ptr0 VRs.nil)
  · exact (level_zero b w h).mono fun e w' ⟨he, hw⟩ => ⟨he, hw ▸ Below.refl _ _⟩
theorem assertions_no {v : Value} {w : World} (h : NoSt v w) : Calls Tryz.prog 18 #[v] w fun e w' => e = .returned (.slice none 0 0) ∧ Below w.heap.size w w' := by
  rcases h with rfl | ⟨b, rfl, hl, h⟩
  · exact calls_value tabOk sn_assertions rfl (fun σ => VRs.cons vr_ptr0 VRs.nil)
  · exact assertions_zero b w h hl
theorem book_no {v : Value} {w : World} (h : NoSt v w) : Calls Tryz.prog 19 #[v] w fun e w' => e = .returned (.pointer none) ∧ Below w.heap.size w w' := by
  rcases h with rfl | ⟨b, rfl, hl, h⟩
  · exact calls_value tabOk sn_book rfl (fun σ => VRs.cons vr_ptr0 VRs.nil)
  · exact book_zero b w h hl
theorem options_no {v : Value} {w : World} (h : NoSt v w) : Calls Tryz.prog 20 #[v] w fun e w' => e = .returned (.agg #[.bool false, .bool false, .bool false]) ∧ Below w.heap.size w w' := by
  rcases h with rfl | ⟨b, rfl, hl, h⟩
  · exact calls_value tabOk sn_options rfl (fun σ => VRs.cons vr_ptr0 VRs.nil)
  · exact options_zero b w h hl
theorem term_no {v : Value} {w : World} (h : NoSt v w) (x0 : Bool) (x1 : Int) (x2 : ByteArray) (x3 : Int) (A : Option Addr) (n c : Nat) : Calls Tryz.prog 6 #[v, .agg #[.bool x0, .int .u8 x1, .string x2, .int .i64 x3, .slice A n c]] w fun e w' => e = .returned (.tuple #[.int .i64 0, .int .i64 1]) ∧ Below w.heap.size w w' := by
  rcases h with rfl | ⟨b, rfl, hl, h⟩
  · exact calls_tuple tabOk sn_term rfl (fun σ => VRs.cons vr_ptr0 (VRs.cons (vr_agg (VRs.cons vr_b (VRs.cons vr_i (VRs.cons vr_s (VRs.cons vr_i (VRs.cons vr_l VRs.nil)))))) VRs.nil))
  · exact term_zero b x0 x1 x2 x3 A n c w h hl
end Go.Proofs.YtmlkfgoiakcnhaaGreatDoor
