/- A stack that was not made refuses: its options (a result in cells). -/
import Derived.Test.YtmlkfgoiakcnhaaGreatDoorStZ
namespace Go.Proofs.YtmlkfgoiakcnhaaGreatDoor
open Go Go.RowKit
/-- a result that lies in cells -/
theorem results_cells {P : Program} {fn : Func} {p ty : Nat} (h : fn.results = #[.cell p ty]) (tmps : Array Value) {b : Nat} (hp : tmps.getD p undef = .pointer (some ⟨b, 0, none⟩)) {w : World} (vs : List Value) (d : TypeDesc)
    (hu : P.underlying ty = some d) (hd : (match d with | .struct _ | .array _ _ => true | _ => false) = true) (hi : (P.info? ty).map (·.size) = some vs.length) (hc : CellsAt w b 0 vs) : (results fn tmps).run P w = .ok (.agg vs.toArray) w := by
  have hp' : tmps[p]?.getD undef = .pointer (some ⟨b, 0, none⟩) := by simpa using hp
  have hl := run_loadVar_cells (P := P) ty b 0 vs d hu hd hi hc
  simp [results, h, hp', Instr.loadAt, asAddr, hl]
set_option maxRecDepth 100000 in
theorem options_zero (b : Nat) (w : World) (h : w.cell? ⟨b, 0, none⟩ = some (.pointer none)) (hb : b < w.heap.size) : Calls Tryz.prog 20 #[.pointer (some ⟨b, 0, none⟩)] w fun e w' => e = .returned (.agg #[.bool false, .bool false, .bool false]) ∧ Below w.heap.size w w' := by
  have HN := Lib.hid (fun w1 (h1 : Below w.heap.size w w1) => stNone_zero b w1 ((h1.cell (p := ⟨b, 0, none⟩) hb).trans h))
  clear h
  go_enter Tryz.func20, Tryz.ntmps20
  go_wp2_with fail
  refine (HN.out _ (by (repeat (first | (with_reducible exact Below.refl _ _) | ((with_reducible refine Below.alloc ?_ ?_ _); rotate_left; focus (first | (simp; done) | (simp; omega))) | ((with_reducible refine Below.setCell ?_ ?_ _); rotate_left; focus (first | (simp; done) | (simp; omega))) | (with_reducible refine Below.drew ?_) | (with_reducible refine Below.drewN' ?_ _))))).mono ?_
  rintro e w1 ⟨rfl, rfl⟩
  go_wp2_with fail
  refine bodyPost_ret (v := .agg #[.bool false, .bool false, .bool false]) ?_ rfl ⟨rfl, ?_⟩
  · refine results_cells Tryz.results20 _ (by rfl) [.bool false, .bool false, .bool false] _ Tryz.underlying23 rfl (by kernel_rfl) ?_
    intro j v hv
    match j, hv with
    | 0, hv => simp at hv; subst hv; simp
    | 1, hv => simp at hv; subst hv; simp
    | 2, hv => simp at hv; subst hv; simp
    | j + 3, hv => simp at hv
  · (repeat (first | (with_reducible exact Below.refl _ _) | ((with_reducible refine Below.alloc ?_ ?_ _); rotate_left; focus (first | (simp; done) | (simp; omega))) | ((with_reducible refine Below.setCell ?_ ?_ _); rotate_left; focus (first | (simp; done) | (simp; omega))) | (with_reducible refine Below.drew ?_) | (with_reducible refine Below.drewN' ?_ _)))
end Go.Proofs.YtmlkfgoiakcnhaaGreatDoor
