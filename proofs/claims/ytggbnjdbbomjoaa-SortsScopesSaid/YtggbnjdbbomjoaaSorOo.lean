/- What a reading of a list of calls (layer 5's statements) tells of its memory. -/
import Derived.Test.YtggbnjdbbomjoaaLw
import Derived.Test.YtggbnjdbbomjoaaLib
namespace Go.Proofs.Ytggbnjdbbomjoaa
open Go Go.RowKit Go.ChangeShapes Go.WideShapes Go.Proofs.YtggbnjdbbomjoaaW.PrintWords Go.Proofs.Ytggbnjdbbomjoaa.PSortsScopes
theorem wf64 {z : Int} (h : (Lit.int .i64 z).wf = true) : I64 z := by
  have l1 : IntKind.i64.min = -9223372036854775808 := by decide
  have l2 : IntKind.i64.max = 9223372036854775807 := by decide
  simp only [Lit.wf, Bool.and_eq_true, decide_eq_true_eq] at h
  rw [l1, l2] at h
  exact h
/-- the numbers of a function's words are such -/
def WideF (x : S30) : Prop := (∀ z ∈ x.f1, I64 z) ∧ I64 x.f2
theorem opens_Fun : Opens Try.prog k30 WideF 30 :=
  opens_imp (opens_iso _ (fun x : ByteArray × List Int × Int × Bool => S30.mk x.1 x.2.1 x.2.2.1 x.2.2.2) (fun _ => rfl) (opens_struct Try.underlying30 rfl
    (opensL_cons rfl (opens_string Try.underlying9) (opensL_cons (by kernel_rfl) (opens_slice 27 Try.underlying28 (by kernel_rfl) (opens_int Try.underlying27))
      (opensL_cons (by kernel_rfl) (opens_int Try.underlying27) (opensL_one (by kernel_rfl) (by kernel_rfl) (opens_bool Try.underlying4))))))) (fun _ h => ⟨fun z hz => wf64 (h.2.1.2 z hz), wf64 h.2.2.1⟩)
theorem opens_Op : Opens Try.prog k32 (fun x => WideF x.f2) 32 :=
  opens_imp (opens_iso _ (fun x : Int × Int × S30 => S32.mk x.1 x.2.1 x.2.2) (fun _ => rfl) (opens_struct Try.underlying32 rfl
    (opensL_cons rfl (opens_int Try.underlying3) (opensL_cons (by kernel_rfl) (opens_int Try.underlying3) (opensL_one (by kernel_rfl) (by kernel_rfl) opens_Fun))))) (fun _ h => h.2.2)
theorem opens_Ops : Opens Try.prog (Kd.slice 32 k32) (fun l => l.length ≤ maxLen ∧ ∀ x ∈ l, WideF x.f2) 22 :=
  opens_slice 32 Try.underlying22 (by kernel_rfl) opens_Op
set_option maxRecDepth 100000 in
/-- A list of calls that was read. -/
theorem ops_open {H : Type} {enc : TypeId × Value → H} {w : World} {base : Nat} {spare : Nat → Bool} {held : Bool} {v : Value} {d : DataW H} {p : List MemPlace} {r : Reach} {b0 : Nat}
    (hv : Value.okWide Try.prog w r b0 22 v) (h : DataW.Trod enc Try.prog w base spare held 22 v d p) :
    ∃ (A0 : Option Addr) (l : List S32) (c0 : Nat), v = .slice A0 l.length c0 ∧ Kd.C k32 w A0 l.length l ∧ l.length ≤ c0 ∧ l.length ≤ maxLen ∧ ∀ x ∈ l, WideF x.f2 := by
  obtain ⟨a, len, cap, rfl⟩ := okWide_slice Try.underlying22 hv
  obtain ⟨fuel, hf⟩ := h
  obtain ⟨l, ⟨A0, c0, hcs, hl, hk⟩, h0, h1⟩ := opens_Ops _ _ _ _ _ _ _ _ _ hf
  have e : (Value.slice a len cap) = .slice A0 l.length c0 := by simpa [Value.cells] using hcs
  exact ⟨A0, l, c0, e, hk, hl, h0, h1⟩
end Go.Proofs.Ytggbnjdbbomjoaa
