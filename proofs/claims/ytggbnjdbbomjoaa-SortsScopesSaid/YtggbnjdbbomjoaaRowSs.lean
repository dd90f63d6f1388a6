/- SortsScopes: behind a push, whatever is declared, pushed and popped as often within, and a pop, just what stood ahead of it stands. No conditions. -/
import Derived.Test.YtggbnjdbbomjoaaRows
import Derived.Test.YtggbnjdbbomjoaaSorZ
import Derived.Test.YtggbnjdbbomjoaaSorOo
import Derived.ProofKit
import Derived.Carry
namespace Go.Proofs.Ytggbnjdbbomjoaa
open Go.ChangeShapes Go.WideShapes Go.ChangeAt Go.RowKit Go.Proofs.YtggbnjdbbomjoaaW.PrintWords Go.Proofs.Ytggbnjdbbomjoaa.PSortsScopes

theorem own_sortsScopes : ownKnob Try.prog.godebug = none := by kernel_rfl
theorem laidOut : laidOutB Try.prog = true := by kernel_rfl
theorem wide_at {l : List S32} (h : ∀ x ∈ l, WideF x.f2) : ∀ j : Nat, j < l.length → WideOp (rd_T32 l j) := by
  intro j hj
  have e : rd_T32 l j = l[j] := by
    unfold rd_T32
    rw [Int.toNat_natCast, List.getD_eq_getElem?_getD, List.getElem?_eq_getElem hj]
    rfl
  rw [e]
  exact h _ (List.getElem_mem hj)

set_option maxRecDepth 100000 in
theorem sortsScopes_lifted (os : Os) (started : os.Started) (H : Type) (enc : TypeId × Value → H) :
    ReturnsInHanded {} Try.checked os 4 .any (Rows.sortsScopesSpec.pre6 enc Try.prog Try.f4 Rows.sortsScopesRow.domain false) (Rows.sortsScopesSpec.post enc Try.prog Try.f4 false true false false) := by
  refine returnsInHanded_of_change (C := Try.checked) own_sortsScopes started (by kernel_rfl) Try.func4
    (ChangeSpec.witness6 (enc := enc) (C := Try.checked) false ⟨#[], #[.slice none 0 0, .slice none 0 0], []⟩ 8 (by kernel_rfl) (by kernel_rfl) (by kernel_rfl) (by kernel_rfl)) ?_
  intro W base args ds gs before hval0 hW hcnd _
  have hval : ∀ (j : Nat) t v, Try.f4.params[j]? = some t → args[j]? = some v → Value.okWide Try.prog W .any base t v := hval0
  have hW' := hW
  obtain ⟨p, q, hA0, hV, rfl, hfz, hnd⟩ := hW
  have hA : DataW.TrodAll enc Try.prog W 0 (fun _ => true) true Try.f4.params.toList args.toList ds p := hA0
  rw [Try.params4] at hA hval
  obtain ⟨v0, v1, d0, d1, p0, p1, rfl, rfl, rfl, h0, h1⟩ := trodAll_two hA
  obtain ⟨rfl, rfl⟩ := trodVars_none hV
  have lt0 : ∀ x ∈ p0, x.block < W.heap.size := by obtain ⟨m, hm⟩ := h0; exact DataW.trod_lt m _ _ _ hm
  have lt1 : ∀ x ∈ p1, x.block < W.heap.size := by obtain ⟨m, hm⟩ := h1; exact DataW.trod_lt m _ _ _ hm
  obtain ⟨A0, l, c0, rfl, hC, hl, hm, hwd⟩ := ops_open (hval 0 22 v0 rfl rfl) h0
  obtain ⟨A1, l1, c1, rfl, hC1, hl1, hm1, hwd1⟩ := ops_open (hval 1 22 v1 rfl rfl) h1
  clear hA0 hval0
  refine (sortsScopes_any A0 l c0 A1 l1 c1 W hC hl hm (wide_at hwd) hC1 hl1 hm1 (wide_at hwd1)).mono fun e W' ⟨he, bel⟩ => ?_
  subst he
  exact ⟨_, rfl, _, _, _, [], _, [], hW', trodAll_mk1 (shut_bool Try.underlying4 _), trodAll_mk2 (Below.trod laidOut (by kernel_rfl) (of_decide_eq_true (by kernel_rfl)) h0 bel lt0) (Below.trod laidOut (by kernel_rfl) (of_decide_eq_true (by kernel_rfl)) h1 bel lt1), rfl, bel.frame _, fun h => by cases h⟩

theorem sortsScopes_holds : Rows.SortsScopesSaid :=
  OpenClaim.holds_of_wide 4 Try.f4 rfl rfl rfl rfl rfl rfl rfl ⟨rfl, rfl, rfl, rfl, rfl⟩ rfl rfl rfl rfl rfl (by kernel_rfl) Try.func4 (by kernel_rfl)
    (of_decide_eq_true (by kernel_rfl)) (by unfold Func.isWrapper; first | (rw [if_pos (by decide +kernel)]; kernel_rfl) | (rw [if_neg (by decide +kernel)]; exact ⟨rfl, rfl⟩))
    (fun os started H enc _ => sortsScopes_lifted os started H enc)
end Go.Proofs.Ytggbnjdbbomjoaa
