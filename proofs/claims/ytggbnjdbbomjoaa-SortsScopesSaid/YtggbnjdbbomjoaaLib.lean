/- Small lemmas that the walks of this seat share. -/
import Derived.Test.YtggbnjdbbomjoaaChecked
import Derived.WalkKit
import Derived.WalkSpells
import Derived.WalkLawsBesides
import Derived.RowKit3
import Derived.Lib.Hide
namespace Go.Proofs.Ytggbnjdbbomjoaa
open Go.RowKit

/-- Below: cells and marks of what was there read as before. -/
theorem bcell {W w1 : World} (hb : Below W.heap.size W w1) : (∀ b o, b < W.heap.size → w1.cell? ⟨b, o, none⟩ = W.cell? ⟨b, o, none⟩) ∧ (∀ b o, b < W.heap.size → w1.frozen? ⟨b, o, none⟩ = W.frozen? ⟨b, o, none⟩) :=
  ⟨fun b o h => hb.cell (p := ⟨b, o, none⟩) h, fun b o h => hb.frozen (p := ⟨b, o, none⟩) h⟩
theorem Below.drewN' {B : Nat} {a w : World} (h : Below B a w) (n : Nat) : Below B a (w.drewN n) := ⟨h.os, h.tape, h.output, h.size, h.block⟩

def I64 (x : Int) : Prop := -9223372036854775808 ≤ x ∧ x ≤ 9223372036854775807
theorem I64.lo {x : Int} (h : I64 x) : -9223372036854775808 ≤ x := h.1
theorem I64.hi {x : Int} (h : I64 x) : x ≤ 9223372036854775807 := h.2
theorem i64_wrap (x : Int) : I64 (wrap64 x) := by unfold wrap64 I64; omega
theorem wrap_of {x : Int} (h : I64 x) : wrap64 x = x := by obtain ⟨a, b⟩ := h; unfold wrap64; omega
end Go.Proofs.Ytggbnjdbbomjoaa
