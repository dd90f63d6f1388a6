/- The abstract run of a call whose answer is a known one. -/
import Derived.Test.YtmlkfgoiakcnhaaGreatDoorEvU
namespace Go.Proofs.YtmlkfgoiakcnhaaGreatDoor
open Go Go.RowKit

/-- the run of a function whose answer is to be 'x' -/
def answerE (tab : Tab) (n f : Nat) (args : EVs) (x : EV) : Bool := isNil tab.gl && isSomeB (tab.fn.get f) && callE tab (run tab n) false (fun a b => bif a then b else false) 0 f args .nil 0 fun v _ _ => sameE v x
/-- IF THE ABSTRACT RUN SAYS SO, THE FUNCTION ANSWERS SO, and turns nothing that was there -/
theorem calls_answer {P : Program} {tab : Tab} (hT : TabOk P tab) {n f : Nat} {args : EVs} {args' : Array Value} {w : World} {x : EV} (h : answerE tab n f args x = true) (ha : ∀ σ, VRs σ args args'.toList) :
    Calls P f args' w fun e w' => (∃ v σ, e = .returned v ∧ VR σ x v) ∧ Below w.heap.size w w' := by
  unfold answerE at h
  rw [Bool.and_eq_true, Bool.and_eq_true] at h
  obtain ⟨⟨hgl, hsome⟩, h⟩ := h
  have hgl' : GlOk tab (fun _ => none) := fun g id e => by
    cases hg : tab.gl with
    | nil => rw [hg, Tr.get_nil] at e; cases e
    | node l x r => rw [hg] at hgl; cases hgl
  have H : Holds (fun _ => none) .nil w := ⟨fun id o h => (by rw [Tr.get_nil] at h; cases h), fun i j li lj hi => (by rw [Tr.get_nil] at hi; cases hi)⟩
  cases hfn : tab.fn.get f with
  | none => rw [hfn] at hsome; cases hsome
  | some fn =>
    obtain ⟨_, hc⟩ := callE_enter (G := fun b : Bool => b = true) (args' := args') (w := w) (by simp) hT (run_sound hT n).1 (fun x y => by cases x <;> cases y <;> simp) hfn h (ha _) hgl' H (fun _ _ => rfl) (Nat.le_refl _)
    refine hc.mono fun e w' ⟨v', he, v, h', nx', σ', hv, hp, hb⟩ => ?_
    subst he
    cases sameE_eq _ _ hb
    exact ⟨⟨_, σ', rfl, hv⟩, hp.os, hp.tape, hp.output, hp.size, fun k hk => hp.frame k hk fun id l hi => by rw [Tr.get_nil] at hi; cases hi⟩

mutual
theorem back_only (σ : Sg) : ∀ (e : EV) (v x : Value), backV e = some x → VR σ e v → v = x
  | .bool _, v, x, h, H => by simp only [backV, Option.some.injEq] at h; simp only [VR] at H; rw [H, h]
  | .int _ _, v, x, h, H => by simp only [backV, Option.some.injEq] at h; simp only [VR] at H; rw [H, h]
  | .str _, v, x, h, H => by simp only [backV, Option.some.injEq] at h; simp only [VR] at H; rw [H, h]
  | .ptr0, v, x, h, H => by simp only [backV, Option.some.injEq] at h; simp only [VR] at H; rw [H, h]
  | .slice0, v, x, h, H => by simp only [backV, Option.some.injEq] at h; simp only [VR] at H; rw [H, h]
  | .map0, v, x, h, H => by simp only [backV, Option.some.injEq] at h; simp only [VR] at H; rw [H, h]
  | .func0, v, x, h, H => by simp only [backV, Option.some.injEq] at h; simp only [VR] at H; rw [H, h]
  | .iface0, v, x, h, H => by simp only [backV, Option.some.injEq] at h; simp only [VR] at H; rw [H, h]
  | .agg l, v, x, h, H => by
    simp only [backV] at h
    cases hl : backVs l with
    | none => rw [hl] at h; cases h
    | some y =>
      rw [hl] at h
      simp only [Option.some.injEq] at h
      simp only [VR] at H
      obtain ⟨z, rfl, hz⟩ := H
      rw [← h, ← backs_only σ l _ _ hl hz]
  | .ptr _ _, v, x, h, H | .slice _ _ _ _, v, x, h, H | .map _, v, x, h, H | .func _ _ _, v, x, h, H | .iface _ _, v, x, h, H | .tup _, v, x, h, H | .unkB, v, x, h, H | .unkI _, v, x, h, H | .unkS, v, x, h, H | .unkL, v, x, h, H | .unkV, v, x, h, H | .rng _ _ _, v, x, h, H => by simp only [backV] at h; cases h
theorem backs_only (σ : Sg) : ∀ (l : EVs) (m x : List Value), backVs l = some x → VRs σ l m → m = x
  | .nil, m, x, h, H => by simp only [backVs, Option.some.injEq] at h; simp only [VRs] at H; rw [H, h]
  | .cons e l, m, x, h, H => by
    simp only [backVs] at h
    simp only [VRs] at H
    obtain ⟨v, m', rfl, h1, h2⟩ := H
    cases he : backV e with
    | none => rw [he] at h; cases h
    | some y =>
      cases hl : backVs l with
      | none => rw [he, hl] at h; cases h
      | some z =>
        rw [he, hl] at h
        simp only [Option.some.injEq] at h
        rw [← h, back_only σ e v y he h1, backs_only σ l m' z hl h2]
end

theorem calls_tuple {P : Program} {tab : Tab} (hT : TabOk P tab) {n f : Nat} {args : EVs} {args' : Array Value} {w : World} {l : EVs} {m : List Value} (h : answerE tab n f args (.tup l) = true) (hm : backVs l = some m) (ha : ∀ σ, VRs σ args args'.toList) :
    Calls P f args' w fun e w' => e = .returned (.tuple m.toArray) ∧ Below w.heap.size w w' :=
  (calls_answer hT h ha).mono fun e w' ⟨⟨v, σ, he, hv⟩, hb⟩ => ⟨by
    simp only [VR] at hv
    obtain ⟨x, rfl, hx⟩ := hv
    rw [he, ← backs_only σ l _ _ hm hx], hb⟩

theorem calls_value {P : Program} {tab : Tab} (hT : TabOk P tab) {n f : Nat} {args : EVs} {args' : Array Value} {w : World} {x : EV} {m : Value} (h : answerE tab n f args x = true) (hm : backV x = some m) (ha : ∀ σ, VRs σ args args'.toList) :
    Calls P f args' w fun e w' => e = .returned m ∧ Below w.heap.size w w' :=
  (calls_answer hT h ha).mono fun e w' ⟨⟨v, σ, he, hv⟩, hb⟩ => ⟨by rw [he, back_only σ x v m hm hv], hb⟩

def isPtrE : EV → Bool
  | .ptr _ _ => true
  | _ => false
/-- the run of a function that answers with a pointer to memory of its own -/
def pointsE (tab : Tab) (n f : Nat) (args : EVs) : Bool := isNil tab.gl && isSomeB (tab.fn.get f) && callE tab (run tab n) false (fun a b => bif a then b else false) 0 f args .nil 0 fun v _ _ => isPtrE v
theorem calls_points {P : Program} {tab : Tab} (hT : TabOk P tab) {n f : Nat} {args : EVs} {args' : Array Value} {w : World} (h : pointsE tab n f args = true) (ha : ∀ σ, VRs σ args args'.toList) :
    Calls P f args' w fun e w' => (∃ a, e = .returned (.pointer (some a))) ∧ Below w.heap.size w w' := by
  unfold pointsE at h
  rw [Bool.and_eq_true, Bool.and_eq_true] at h
  obtain ⟨⟨hgl, hsome⟩, h⟩ := h
  have hgl' : GlOk tab (fun _ => none) := fun g id e => by
    cases hg : tab.gl with
    | nil => rw [hg, Tr.get_nil] at e; cases e
    | node l x r => rw [hg] at hgl; cases hgl
  have H : Holds (fun _ => none) .nil w := ⟨fun id o h => (by rw [Tr.get_nil] at h; cases h), fun i j li lj hi => (by rw [Tr.get_nil] at hi; cases hi)⟩
  cases hfn : tab.fn.get f with
  | none => rw [hfn] at hsome; cases hsome
  | some fn =>
    obtain ⟨_, hc⟩ := callE_enter (G := fun b : Bool => b = true) (args' := args') (w := w) (by simp) hT (run_sound hT n).1 (fun x y => by cases x <;> cases y <;> simp) hfn h (ha _) hgl' H (fun _ _ => rfl) (Nat.le_refl _)
    refine hc.mono fun e w' ⟨v', he, v, h', nx', σ', hv, hp, hb⟩ => ?_
    subst he
    cases v <;> simp only [isPtrE] at hb <;> try (cases hb; done)
    simp only [VR] at hv
    obtain ⟨l, _, rfl⟩ := hv
    exact ⟨⟨_, rfl⟩, hp.os, hp.tape, hp.output, hp.size, fun k hk => hp.frame k hk fun id l hi => by rw [Tr.get_nil] at hi; cases hi⟩
end Go.Proofs.YtmlkfgoiakcnhaaGreatDoor
