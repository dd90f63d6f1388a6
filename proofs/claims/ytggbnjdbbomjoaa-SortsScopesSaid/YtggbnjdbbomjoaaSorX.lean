/- A table of names beside the reference's: what one writes leaves the other. -/
import Derived.Test.YtggbnjdbbomjoaaSorV
namespace Go.Proofs.Ytggbnjdbbomjoaa
open Go Go.RowKit
theorem row_ne_row {w : World} {b c : Nat} {t t' : TypeId} {vs us : List Value} (h : RowB w b t vs) (h' : RowB w c t' us) (hne : t ≠ t') : b ≠ c := by
  rintro rfl
  unfold RowB at h h'
  rw [h] at h'
  simp at h'
  exact hne h'.2
/-- the table's blocks are none of the reference's -/
theorem apart_own {B B' : Nat} {w : World} {b g : Nat} {x y : Nm} {r : Rt} (h : STab B w b x y) (k : RTab B' w g r) : ∀ q, (Own b x q ∨ Own b y q) → ¬ ROwn g r q := by
  intro q hq hr
  have key : ∀ z : Nm, NmOk B w z → Own b z q → False := fun z hz hq => by
    rcases hr with rfl | e | e
    · rcases hq with e1 | e1 | e1 | e1
      · exact row_ne_row h.row k.row (by decide) e1.symm
      · exact own_ne_row hz.oA k.row (by decide) e1
      · exact row_ne_map k.row hz.oD e1
      · exact own_ne_row hz.oM k.row (by decide) e1
    · rcases hq with e1 | e1 | e1 | e1
      · subst e1; exact own_ne_row k.o0 h.row (by decide) e
      · exact own_ne hz.oA k.o0 (by decide) e1 e
      · subst e1; exact own_ne_map k.o0 hz.oD e
      · exact own_ne hz.oM k.o0 (by decide) e1 e
    · rcases hq with e1 | e1 | e1 | e1
      · subst e1; exact own_ne_row k.o1 h.row (by decide) e
      · exact own_ne hz.oA k.o1 (by decide) e1 e
      · subst e1; exact own_ne_map k.o1 hz.oD e
      · exact own_ne hz.oM k.o1 (by decide) e1 e
  rcases hq with hq | hq
  · exact key x h.okx hq
  · exact key y h.oky hq
theorem RTab.chg {B B' : Nat} {w w' : World} {b g : Nat} {x y : Nm} {r : Rt} (k : RTab B' w g r) (h : STab B w b x y) (hc : Chg b x y w w') : RTab B' w' g r :=
  k.ch hc (fun q hr hq => apart_own h k q hq hr)
/-- rows of numbers of sorts are none of the reference's blocks -/
theorem args_apart {B B' : Nat} {w : World} {g : Nat} {r : Rt} (k : RTab B w g r) {v : Value} {l : List Value} {n : Nat} (hv : w.ownsRow B' 27 1 v n l) : ∀ q, v.ownBlock = some q → ¬ ROwn g r q := by
  intro q hq hr
  rcases hr with rfl | e | e
  · exact own_ne_row hv k.row (by decide) hq
  · exact own_ne hv k.o0 (by decide) hq e
  · exact own_ne hv k.o1 (by decide) hq e
theorem ints_apart {B B' : Nat} {w : World} {g : Nat} {r : Rt} (k : RTab B w g r) {v : Value} {l : List Value} {n : Nat} (hv : w.ownsRow B' 3 1 v n l) : ∀ q, v.ownBlock = some q → ¬ ROwn g r q := by
  intro q hq hr
  rcases hr with rfl | e | e
  · exact own_ne_row hv k.row (by decide) hq
  · exact own_ne hv k.o0 (by decide) hq e
  · exact own_ne hv k.o1 (by decide) hq e
theorem NmOk.rch {B B' : Nat} {w w' : World} {b g : Nat} {x y z : Nm} {r : Rt} (hz : NmOk B w z) (_h : STab B w b x y) (k : RTab B' w g r) (hc : Ch (ROwn g r) w w') (ho : ∀ q, Own b z q → ¬ ROwn g r q) : NmOk B w' z :=
  hz.ch hc (fun q hq => ho q (Or.inr (Or.inl hq))) (fun q hq => ho q (Or.inr (Or.inr (Or.inr hq)))) (ho _ (Or.inr (Or.inr (Or.inl rfl)))) (fun _ _ hv => args_apart k hv)
theorem STab.rch {B B' : Nat} {w w' : World} {b g : Nat} {x y : Nm} {r : Rt} (h : STab B w b x y) (k : RTab B' w g r) (hc : Ch (ROwn g r) w w') : STab B w' b x y :=
  ⟨⟨h.row.kept hc (apart_own h k b (Or.inl (Or.inl rfl))), h.gb, h.okx.rch h k hc (fun q hq => apart_own h k q (Or.inl hq)), h.oky.rch h k hc (fun q hq => apart_own h k q (Or.inr hq)), h.nA, h.nM, h.nD⟩, h.ln⟩
/-- a number is written into a row of numbers of sorts -/
theorem own_storeI {B B' : Nat} {w : World} {v v' : Value} {l : List Int} {n' : Nat} {l' : List Value} {g n cap : Nat} (hv : w.ownsRow B 27 1 v l.length (l.map (Value.int .i64))) (_hg : w.ownsRow B' 27 1 v' n' l') (hv' : v' = .slice (some ⟨g, 0, none⟩) n cap) (j : Nat) (z : Int) :
    ∃ l2 : List Int, l2.length = l.length ∧ (w.setCell ⟨g, j, none⟩ (.int .i64 z)).ownsRow B 27 1 v l2.length (l2.map (Value.int .i64)) := by
  subst hv'
  by_cases e : v.ownBlock = some g
  · rcases hv.2 with ⟨rfl, _⟩ | ⟨g', cap', cur, rfl, _⟩
    · simp [Value.ownBlock] at e
    · have : g' = g := by simpa [Value.ownBlock] using e
      subst this
      have := (hv.stored j (.int .i64 z)).1
      refine ⟨l.set j z, by simp, ?_⟩
      simp only [List.length_set]
      rw [List.map_set]
      exact this
  · exact ⟨l, rfl, ownsRow_setCell_other hv (a := ⟨g, j, none⟩) e _⟩
theorem NmOk.store {B B' : Nat} {w : World} {b : Nat} {x y z : Nm} (hz : NmOk B w z) (_h : STab B w b x y) {v' : Value} {n' : Nat} {l' : List Value} {g n cap : Nat} (hg : w.ownsRow B' 27 1 v' n' l') (hv' : v' = .slice (some ⟨g, 0, none⟩) n cap) (j : Nat) (u : Int) :
    NmOk B (w.setCell ⟨g, j, none⟩ (.int .i64 u)) z := by
  have hb : v'.ownBlock = some g := by rw [hv']; rfl
  refine ⟨ownsRow_setCell_other hz.oA (a := ⟨g, j, none⟩) (fun e => own_ne hz.oA hg (by decide) e hb) _, ownsRow_setCell_other hz.oM (a := ⟨g, j, none⟩) (fun e => own_ne hz.oM hg (by decide) e hb) _, hz.oD.setCell (a := ⟨g, j, none⟩) (fun e => own_ne_map hg hz.oD (by rw [hb, e])) _, hz.nf, hz.nm, hz.mks, hz.sz, hz.gm, fun f hf => ?_⟩
  obtain ⟨l, h1, h2⟩ := hz.ar f hf
  obtain ⟨l2, h3, h4⟩ := own_storeI h2 hg hv' j u
  exact ⟨l2, by omega, h4⟩
theorem STab.store {B B' : Nat} {w : World} {b : Nat} {x y : Nm} (h : STab B w b x y) {v' : Value} {n' : Nat} {l' : List Value} {g n cap : Nat} (hg : w.ownsRow B' 27 1 v' n' l') (hv' : v' = .slice (some ⟨g, 0, none⟩) n cap) (j : Nat) (u : Int) :
    STab B (w.setCell ⟨g, j, none⟩ (.int .i64 u)) b x y := by
  have hb : v'.ownBlock = some g := by rw [hv']; rfl
  exact ⟨⟨h.row.kept ((Ch.refl (fun k => k = g) w).setC g j rfl _) (fun (e : b = g) => own_ne_row hg h.row (by decide) (by rw [hb, e])), h.gb, h.okx.store h hg hv' j u, h.oky.store h hg hv' j u, h.nA, h.nM, h.nD⟩, h.ln⟩
theorem RTab.store {B B' : Nat} {w : World} {g0 : Nat} {r : Rt} (h : RTab B w g0 r) {v' : Value} {n' : Nat} {l' : List Value} {g n cap : Nat} (hg : w.ownsRow B' 27 1 v' n' l') (hv' : v' = .slice (some ⟨g, 0, none⟩) n cap) (j : Nat) (u : Value) :
    RTab B (w.setCell ⟨g, j, none⟩ u) g0 r := by
  have hb : v'.ownBlock = some g := by rw [hv']; rfl
  exact h.ch ((Ch.refl (fun k => k = g) w).setC g j rfl _) (fun q hq (e : q = g) => args_apart h hg g hb (by rw [← e]; exact hq))
end Go.Proofs.Ytggbnjdbbomjoaa
