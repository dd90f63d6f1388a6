/- The abstract run of code: piece by piece, with so much fuel; that it holds of the machine. -/
import Derived.Test.YtmlkfgoiakcnhaaGreatDoorEvS
namespace Go.Proofs.YtmlkfgoiakcnhaaGreatDoor
open Go Go.RowKit

section
variable (tab : Tab) (self : CodeFn) {β : Type} (fail : β) (join : β → β → β)
/-- one piece of code -/
def codeStep (nt fl : Nat) (c : Code) (T : Fr) (h : Tr EO) (nx : Nat) (k : Ex → Fr → Tr EO → Nat → β) : β :=
  match c with
  | .skip => k .normal T h nx
  | .region _ ops d => bif d then evDraw tab self fail join nt fl ops T h nx (k .normal) else evOps tab self fail join nt fl ops ops.toList T h nx (k .normal)
  | .seq a b => self β fail join nt fl a T h nx fun e T h nx => match e with
    | .normal => self β fail join nt fl b T h nx k
    | .exit i => k (.exit i) T h nx
    | .ret => k .ret T h nx
  | .cond c a b => evx tab fail T c fun v => match v with
    | .bool t => bif t then self β fail join nt fl a T h nx k else self β fail join nt fl b T h nx k
    | .unkB => join (self β fail join nt fl a T h nx k) (self β fail join nt fl b T h nx k)
    | _ => fail
  | .block id b => self β fail join nt fl b T h nx fun e T h nx => match e with
    | .exit j => bif Nat.beq j id then k .normal T h nx else k (.exit j) T h nx
    | .normal => k .normal T h nx
    | .ret => k .ret T h nx
  | .loop b => self β fail join nt fl b T h nx fun e T h nx => match e with
    | .normal => self β fail join nt fl (.loop b) T h nx k
    | .exit i => k (.exit i) T h nx
    | .ret => k .ret T h nx
  | .rangeFunc g ps a b => rangeE tab self fail join nt fl g ps a b T h nx k
  | .exit id => k (.exit id) T h nx
  | .ret => k .ret T h nx
  | _ => fail
end
def run (tab : Tab) (n : Nat) : CodeFn :=
  Nat.rec (motive := fun _ => CodeFn) (fun _ fail _ _ _ _ _ _ _ _ => fail) (fun _ ih _ fail join nt fl c T h nx k => codeStep tab ih fail join nt fl c T h nx k) n

/-- what is left behind a piece of code -/
def Res {β : Type} (ro0 : Option Nat) (G : β → Prop) (nt fl : Nat) (k : Ex → Fr → Tr EO → Nat → β) (σ : Sg) (h : Tr EO) (nx : Nat) (w : World) : Exit → Act → World → Prop := fun e a' w' =>
  ∃ ex T' h' nx' σ', ExR ex e ∧ G (k ex T' h' nx') ∧ TRel σ' T' nt a' ∧ T'.ro = ro0 ∧ Post fl σ h nx w σ' h' nx' w'
theorem Res.trans {β : Type} {ro0 : Option Nat} {G : β → Prop} {nt fl : Nat} {k : Ex → Fr → Tr EO → Nat → β} {σ σ1 : Sg} {h h1 : Tr EO} {nx nx1 : Nat} {w w1 : World} (p : Post fl σ h nx w σ1 h1 nx1 w1) {e : Exit} {a : Act} {w' : World} (r : Res ro0 G nt fl k σ1 h1 nx1 w1 e a w') :
    Res ro0 G nt fl k σ h nx w e a w' := by
  obtain ⟨ex, T', h', nx', σ', q1, q2, q3, q0, q4⟩ := r
  exact ⟨ex, T', h', nx', σ', q1, q2, q3, q0, p.trans q4⟩
theorem rounds_mono {P : Program} {F : Fence} {c : Code} {Q Q' : Exit → Act → World → Prop} (hq : ∀ e a w, Q e a w → Q' e a w) : ∀ (n : Nat) (a : Act) (w : World), Code.roundsIn F 0 P c Q n a w → Code.roundsIn F 0 P c Q' n a w
  | 0, _, _, h => h
  | n + 1, a, w, h => by
    refine Code.wpIn_mono (fun e a w h => ?_) h
    cases e with
    | normal => exact rounds_mono hq n a w h
    | _ => exact hq _ _ _ h

def SoundL (P : Program) (tab : Tab) (n : Nat) : Prop :=
  ∀ (β : Type) (fail : β) (join : β → β → β) (G : β → Prop), ¬ G fail → (∀ x y, G (join x y) → G x ∧ G y) → ∀ (nt fl : Nat) (c : Code) (T : Fr) (h : Tr EO) (nx : Nat) (k : Ex → Fr → Tr EO → Nat → β) (σ : Sg) (a : Act) (w : World) (r : Option Nat),
    G (run tab n β fail join nt fl (.loop c) T h nx k) → TRel σ T nt a → (T.ro = none → r = none) → GlOk tab σ → Holds σ h w → Fresh σ nx → fl ≤ nx → Code.roundsIn (WF r) 0 P c (Res T.ro G nt fl k σ h nx w) n a w

theorem run_sound {P : Program} {tab : Tab} (hT : TabOk P tab) : ∀ n : Nat, SoundC P tab (run tab n) ∧ SoundL P tab n
  | 0 => ⟨fun β fail join G hf hj nt fl c T h nx k σ a w r hg => absurd hg hf, fun β fail join G hf hj nt fl c T h nx k σ a w r hg => absurd hg hf⟩
  | n + 1 => by
    obtain ⟨hS, hL⟩ := run_sound hT n
    have loop : SoundL P tab (n + 1) := by
      intro β fail join G hf hj nt fl c T h nx k σ a w r hg HT hro hgl H F hfl
      change G (run tab n β fail join nt fl c T h nx fun e T h nx => match e with
        | .normal => run tab n β fail join nt fl (.loop c) T h nx k
        | .exit i => k (.exit i) T h nx
        | .ret => k .ret T h nx) at hg
      refine Code.wpIn_mono (fun e a' w' hr => ?_) (hS β fail join G hf hj nt fl c T h nx _ σ a w r hg HT hro hgl H F hfl)
      obtain ⟨ex, T', h', nx', σ', q1, q2, q3, q0, q4⟩ := hr
      cases ex with
      | normal =>
        cases e <;> try exact q1.elim
        exact rounds_mono (fun e a w h => h.trans q4) n a' w' (q0 ▸ hL β fail join G hf hj nt fl c T' h' nx' k σ' a' w' r q2 q3 (fun e => hro (q0.symm.trans e)) (hgl.mono q4.le) q4.holds q4.fresh (Nat.le_trans hfl q4.nxle))
      | exit i =>
        cases e <;> try exact q1.elim
        exact ⟨.exit i, T', h', nx', σ', q1, q2, q3, q0, q4⟩
      | ret =>
        cases e <;> try exact q1.elim
        exact ⟨.ret, T', h', nx', σ', q1, q2, q3, q0, q4⟩
    refine ⟨?_, loop⟩
    intro β fail join G hf hj nt fl c T h nx k σ a w r hg HT hro hgl H F hfl
    change c.wpIn (WF r) 0 P (Res T.ro G nt fl k σ h nx w) a w
    change G (codeStep tab (run tab n) fail join nt fl c T h nx k) at hg
    have again : ∀ (c : Code) (T' : Fr) (h' : Tr EO) (nx' : Nat) (k' : Ex → Fr → Tr EO → Nat → β) (σ' : Sg) (a' : Act) (w' : World), G (run tab n β fail join nt fl c T' h' nx' k') → TRel σ' T' nt a' → T'.ro = T.ro → Post fl σ h nx w σ' h' nx' w' → c.wpIn (WF r) 0 P (Res T.ro G nt fl k' σ h nx w) a' w' :=
      fun c T' h' nx' k' σ' a' w' q1 q2 q0 q3 => Code.wpIn_mono (fun e a w h => Res.trans q3 (by obtain ⟨ex, T2, h2, n2, s2, p1, p2, p3, p0, p4⟩ := h; exact ⟨ex, T2, h2, n2, s2, p1, p2, p3, p0.trans q0, p4⟩)) (hS β fail join G hf hj nt fl c T' h' nx' k' σ' a' w' r q1 q2 (fun e => hro (q0.symm.trans e)) (hgl.mono q3.le) q3.holds q3.fresh (Nat.le_trans hfl q3.nxle))
    have now : ∀ (ex : Ex) (e : Exit), ExR ex e → G (k ex T h nx) → Res T.ro G nt fl k σ h nx w e a w := fun ex e q1 q2 => ⟨ex, T, h, nx, σ, q1, q2, HT, rfl, Post.refl H F⟩
    cases c with
    | skip => exact wpIn_skip (now .normal .normal trivial hg)
    | region id ops d =>
      simp only [codeStep] at hg
      cases d with
      | true =>
        exact evDraw_spec hf hT hS hj hg HT hgl H F hfl fun T' h' nx' σ' a' w' q1 q2 q0 q3 => ⟨.normal, T', h', nx', σ', trivial, q1, q2, q0, q3⟩
      | false =>
        exact wpIn_region_list (evOps_spec hf hT hS hj hg HT hgl H F hfl fun T' h' nx' σ' a' w' q1 q2 q0 q3 => ⟨.normal, T', h', nx', σ', trivial, q1, q2, q0, q3⟩)
    | seq x y =>
      simp only [codeStep] at hg
      refine wpIn_seq (Code.wpIn_mono (fun e a' w' hr => ?_) (hS β fail join G hf hj nt fl x T h nx _ σ a w r hg HT hro hgl H F hfl))
      obtain ⟨ex, T', h', nx', σ', q1, q2, q3, q0, q4⟩ := hr
      cases ex with
      | normal =>
        cases e <;> try exact q1.elim
        exact again y T' h' nx' k σ' a' w' q2 q3 q0 q4
      | exit i =>
        cases e <;> try exact q1.elim
        exact ⟨.exit i, T', h', nx', σ', q1, q2, q3, q0, q4⟩
      | ret =>
        cases e <;> try exact q1.elim
        exact ⟨.ret, T', h', nx', σ', q1, q2, q3, q0, q4⟩
    | cond x y z =>
      simp only [codeStep] at hg
      obtain ⟨v, hg, hv⟩ := evx_spec (a := a) hf hg (HT.op x) hgl
      cases v with
      | bool t =>
        simp only [VR] at hv
        refine wpIn_cond hv ?_
        cases t with
        | true => exact again y T h nx k σ a w hg HT rfl (Post.refl H F)
        | false => exact again z T h nx k σ a w hg HT rfl (Post.refl H F)
      | unkB =>
        simp only [VR] at hv
        obtain ⟨t, hv⟩ := hv
        obtain ⟨g1, g2⟩ := hj _ _ hg
        refine wpIn_cond hv ?_
        cases t with
        | true => exact again y T h nx k σ a w g1 HT rfl (Post.refl H F)
        | false => exact again z T h nx k σ a w g2 HT rfl (Post.refl H F)
      | _ => exact absurd hg hf
    | block id b =>
      simp only [codeStep] at hg
      refine wpIn_block (Code.wpIn_mono (fun e a' w' hr => ?_) (hS β fail join G hf hj nt fl b T h nx _ σ a w r hg HT hro hgl H F hfl))
      obtain ⟨ex, T', h', nx', σ', q1, q2, q3, q0, q4⟩ := hr
      cases ex with
      | normal =>
        cases e <;> try exact q1.elim
        exact ⟨.normal, T', h', nx', σ', trivial, q2, q3, q0, q4⟩
      | exit i =>
        cases e <;> try exact q1.elim
        rename_i j
        have : i = j := q1
        subst this
        simp only at q2
        simp only [Exit.inBlock]
        cases hb : Nat.beq i id with
        | true =>
          rw [hb] at q2
          rw [if_pos (Nat.eq_of_beq_eq_true hb)]
          exact ⟨.normal, T', h', nx', σ', trivial, q2, q3, q0, q4⟩
        | false =>
          rw [hb] at q2
          rw [if_neg (fun e => by rw [e, Nat.beq_refl] at hb; cases hb)]
          exact ⟨.exit i, T', h', nx', σ', rfl, q2, q3, q0, q4⟩
      | ret =>
        cases e <;> try exact q1.elim
        exact ⟨.ret, T', h', nx', σ', q1, q2, q3, q0, q4⟩
    | loop b => exact wpIn_loop_rounds (n + 1) (loop β fail join G hf hj nt fl b T h nx k σ a w r hg HT hro hgl H F hfl)
    | rangeFunc g ps x y => exact rangeE_spec hf hT hS hj hg HT hro hgl H F hfl
    | exit id => exact wpIn_exit (now (.exit id) (.exit id) rfl hg)
    | ret => exact wpIn_ret (now .ret .ret trivial hg)
    | _ => exact absurd hg hf

def isTrueE : EV → Bool
  | .bool b => b
  | _ => false
def isSomeB {α : Type} : Option α → Bool
  | some _ => true
  | none => false
def isNil {α : Type} : Tr α → Bool
  | .nil => true
  | _ => false
/-- the run of a function whose answer is to be true -/
def lawE (tab : Tab) (n f : Nat) (args : EVs) : Bool := isNil tab.gl && isSomeB (tab.fn.get f) && callE tab (run tab n) false (fun a b => bif a then b else false) 0 f args .nil 0 fun v _ _ => isTrueE v
/-- IF THE ABSTRACT RUN SAYS SO, THE FUNCTION ANSWERS TRUE, and turns nothing that was there -/
theorem calls_run {P : Program} {tab : Tab} (hT : TabOk P tab) {n f : Nat} {args : EVs} {args' : Array Value} {w : World} (h : lawE tab n f args = true) (ha : ∀ σ, VRs σ args args'.toList) :
    Calls P f args' w fun e w' => e = .returned (.bool true) ∧ Below w.heap.size w w' := by
  unfold lawE at h
  rw [Bool.and_eq_true, Bool.and_eq_true] at h
  obtain ⟨⟨hgl, hsome⟩, h⟩ := h
  have hgl' : GlOk tab (fun _ => none) := fun g id e => by
    cases hg : tab.gl with
    | nil => rw [hg, Tr.get_nil] at e; cases e
    | node l x r => rw [hg] at hgl; cases hgl
  have H : Holds (fun _ => none) .nil w := ⟨fun id o h => (by rw [Tr.get_nil] at h; cases h), fun i j li lj hi => (by rw [Tr.get_nil] at hi; cases hi)⟩
  cases hfn : tab.fn.get f with
  | none => rw [hfn] at hsome; cases hsome
  | some fn =>
    obtain ⟨_, hc⟩ := callE_enter (G := fun b : Bool => b = true) (args' := args') (w := w) (by simp) hT (run_sound hT n).1 (fun x y => by cases x <;> cases y <;> simp) hfn h (ha _) hgl' H (fun _ _ => rfl) (Nat.le_refl _)
    refine hc.mono fun e w' ⟨v', he, v, h', nx', σ', hv, hp, hb⟩ => ?_
    subst he
    cases v <;> simp only [isTrueE] at hb <;> try (cases hb; done)
    subst hb
    simp only [VR] at hv
    subst hv
    exact ⟨rfl, hp.os, hp.tape, hp.output, hp.size, fun k hk => hp.frame k hk fun id l hi => by rw [Tr.get_nil] at hi; cases hi⟩
end Go.Proofs.YtmlkfgoiakcnhaaGreatDoor
