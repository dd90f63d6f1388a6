/- The reference's Pop. -/
import Derived.Test.YtggbnjdbbomjoaaSorU
import Derived.Laws.OwnMore
namespace Go.Proofs.Ytggbnjdbbomjoaa
open Go Go.RowKit
def En.setSt (x : En) (b : Bool) : En := { x with st := b }
theorem flatE_set : ∀ (l : List En) (k : Nat) (x : En) (b : Bool), l[k]? = some x → flatE (l.set k (x.setSt b)) = (flatE l).set (k * 6 + 5) (.bool b)
  | [], k, x, b, h => by simp at h
  | y :: r, 0, x, b, h => by
    have : y = x := by simpa using h
    subst this
    simp [flatE, En.cells, En.setSt]
  | y :: r, k + 1, x, b, h => by
    have := flatE_set r k x b (by simpa using h)
    simp only [flatE, List.set_cons_succ, List.flatMap_cons] at this ⊢
    rw [this, List.set_append_right _ _ (by simp [En.cells]; omega)]
    congr 2
    simp [En.cells]; omega
/-- what is told of the reference's Pop -/
def RPop (B : Nat) (w : World) (g : Nat) (r : Rt) (e : Ending) (w' : World) : Prop := (∃ er, e = .returned (.int .i64 er)) ∧ ∃ r', RTab B w' g r' ∧ r'.A0 = r.A0 ∧ r'.A1 = r.A1 ∧ Ch (ROwn g r) w w'
theorem RTab.st0 {B : Nat} {w : World} {g : Nat} {r : Rt} (h : RTab B w g r) {g' cap k : Nat} (hA : r.A0 = .slice (some ⟨g', 0, none⟩) r.l0.length cap) {x : En} (hx : r.l0[k]? = some x) (b : Bool) :
    RTab B (w.setCell ⟨g', k * 6 + 5, none⟩ (.bool b)) g { r with l0 := r.l0.set k (x.setSt b) } ∧ Ch (ROwn g r) w (w.setCell ⟨g', k * 6 + 5, none⟩ (.bool b)) := by
  have ho := h.o0
  rw [hA] at ho
  have hb : r.A0.ownBlock = some g' := by rw [hA]; rfl
  have h1 := ho.stored (k * 6 + 5) (.bool b)
  have hg : g' ≠ g := fun e => own_ne_row ho h.row (by decide) (by rw [e]; rfl)
  refine ⟨⟨h.row.kept ((Ch.refl (fun k => k = g') w).setC g' _ rfl _) (fun (e : g = g') => hg e.symm), h.gb, ?_, ownsRow_setCell_other h.o1 (a := ⟨g', k * 6 + 5, none⟩) (h.n01 g' hb) _, h.n01, by simp; exact h.s0, h.s1, h.dl⟩, (Ch.refl _ w).setC g' _ (Or.inr (Or.inl hb)) _⟩
  have h2 : (r.l0.set k (x.setSt b)).length = r.l0.length := by simp
  show World.ownsRow _ B 84 6 r.A0 (r.l0.set k (x.setSt b)).length (flatE (r.l0.set k (x.setSt b)))
  rw [h2, flatE_set _ _ _ _ hx, hA]
  exact h1.1
theorem RTab.st1 {B : Nat} {w : World} {g : Nat} {r : Rt} (h : RTab B w g r) {g' cap k : Nat} (hA : r.A1 = .slice (some ⟨g', 0, none⟩) r.l1.length cap) {x : En} (hx : r.l1[k]? = some x) (b : Bool) :
    RTab B (w.setCell ⟨g', k * 6 + 5, none⟩ (.bool b)) g { r with l1 := r.l1.set k (x.setSt b) } ∧ Ch (ROwn g r) w (w.setCell ⟨g', k * 6 + 5, none⟩ (.bool b)) := by
  have ho := h.o1
  rw [hA] at ho
  have hb : r.A1.ownBlock = some g' := by rw [hA]; rfl
  have h1 := ho.stored (k * 6 + 5) (.bool b)
  have hg : g' ≠ g := fun e => own_ne_row ho h.row (by decide) (by rw [e]; rfl)
  refine ⟨⟨h.row.kept ((Ch.refl (fun k => k = g') w).setC g' _ rfl _) (fun (e : g = g') => hg e.symm), h.gb, ownsRow_setCell_other h.o0 (a := ⟨g', k * 6 + 5, none⟩) (fun e => h.n01 g' e hb) _, ?_, h.n01, h.s0, by simp; exact h.s1, h.dl⟩, (Ch.refl _ w).setC g' _ (Or.inr (Or.inr hb)) _⟩
  have h2 : (r.l1.set k (x.setSt b)).length = r.l1.length := by simp
  show World.ownsRow _ B 84 6 r.A1 (r.l1.set k (x.setSt b)).length (flatE (r.l1.set k (x.setSt b)))
  rw [h2, flatE_set _ _ _ _ hx, hA]
  exact h1.1
end Go.Proofs.Ytggbnjdbbomjoaa
