/- Operands, operations, calls, operations in the order of the text. -/
import Derived.Test.YtggbnjdbbomjoaaEvK
namespace Go.Proofs.Ytggbnjdbbomjoaa
open Go Go.RowKit

def OpRel (σ : Sg) (T : Tr EV) (a : Act) : Operand → Prop
  | .tmp i => VR σ ((T.get i).getD undefE) (a.tmps.getD i undef)
  | _ => True

theorem ofVal_spec {v : Value} {e : EV} (h : ofVal v = some e) (σ : Sg) : VR σ e v := by
  unfold ofVal at h
  split at h
  · cases h; simp only [VR]
  · cases h; simp only [VR]
  · cases h; simp only [VR]
  · cases h; simp only [VR]
  · rename_i n c
    cases hb : (Nat.beq n 0 && Nat.beq c 0) with
    | false => rw [hb] at h; cases h
    | true =>
      rw [hb] at h
      rw [Bool.and_eq_true] at hb
      have b1 := Nat.eq_of_beq_eq_true hb.1
      have b2 := Nat.eq_of_beq_eq_true hb.2
      subst b1; subst b2
      cases h; simp only [VR]
  · cases h; simp only [VR]
  · cases h; simp only [VR]
  · cases h; simp only [VR]
  · rename_i l
    split at h
    · rename_i hl
      cases h
      simp only [undefE, VR]
      exact ⟨_, rfl, by rw [hl]; exact VRs.nil⟩
    · cases h
  · cases h

/-- how the operation goes, here -/
def Oper.flow (P : Program) (o : Oper) (a : Act) (w : World) (R : Value → World → Prop) : Prop :=
  match (execOp a.eval o).run P w with
  | .ok (.value v) w' => R v w'
  | .ok .skip w' => R undef w'
  | .ok (.enter f args) w' => Calls P f args w' fun e w'' => ∃ v, e = .returned v ∧ R v w''
  | _ => False
theorem Oper.wp_of_flow {P : Program} {o : Oper} {a : Act} {w : World} {R : Value → World → Prop} {K : Act → World → Prop} {Q : Exit → Act → World → Prop} (h : Oper.flow P o a w R)
    (hR : ∀ v w', R v w' → K (a.put o.dst v) w') : o.wp P a w K Q := by
  unfold Oper.flow at h
  unfold Oper.wp
  generalize (execOp a.eval o).run P w = r at *
  cases r with
  | halt x w' => exact h.elim
  | ok n w' =>
    cases n <;> simp only [] at h <;> simp only [Oper.upon]
    case value v => exact hR _ _ h
    case skip => exact hR _ _ h
    case enter f args => exact h.mono fun e w'' ⟨v, he, hr⟩ => by subst he; exact hR _ _ hr
theorem flow_value {P : Program} {o : Oper} {a : Act} {w w' : World} {R : Value → World → Prop} {v : Value} (h : (execOp a.eval o).run P w = .ok (.value v) w') (hR : R v w') : Oper.flow P o a w R := by
  unfold Oper.flow; rw [h]; exact hR
theorem flow_skip {P : Program} {o : Oper} {a : Act} {w w' : World} {R : Value → World → Prop} (h : (execOp a.eval o).run P w = .ok .skip w') (hR : R undef w') : Oper.flow P o a w R := by
  unfold Oper.flow; rw [h]; exact hR
theorem undefE_spec (σ : Sg) : VR σ undefE undef := by
  simp only [undefE, VR]; exact ⟨_, rfl, VRs.nil⟩

def resOf (tmps : Array Value) : ResultVar → Sem Value
  | .tmp t => pure (tmps.getD t undef)
  | .cell p t => do loadVar t (← asAddr (tmps.getD p undef))
theorem results_eq (fn : Func) (tmps : Array Value) : results fn tmps = (do let vs ← fn.results.mapM (resOf tmps); pure (if h : vs.size = 1 then vs[0] else .tuple vs)) := by
  have : (fun (r : ResultVar) => match r with
    | .tmp t => (pure (tmps.getD t undef) : Sem Value)
    | .cell a t => do loadVar t (← asAddr (tmps.getD a undef))) = resOf tmps := by funext r; cases r <;> rfl
  exact congrArg (fun (f : ResultVar → Sem Value) => (do let vs ← fn.results.mapM f; pure (if h : vs.size = 1 then vs[0] else .tuple vs) : Sem Value)) this
def ExR : Ex → Exit → Prop
  | .normal, .normal => True
  | .exit i, .exit j => i = j
  | .ret, .ret => True
  | _, _ => False
/-- the frame beside the abstract one -/
structure TRel (σ : Sg) (T : Tr EV) (nt : Nat) (a : Act) : Prop where
  defers : a.defers = []
  size : a.tmps.size = nt
  at_ : ∀ i, VR σ ((T.get i).getD undefE) (a.tmps.getD i undef)
theorem TRel.mono {σ τ : Sg} (h : Le σ τ) {T : Tr EV} {nt : Nat} {a : Act} (H : TRel σ T nt a) : TRel τ T nt a := ⟨H.defers, H.size, fun i => (H.at_ i).mono h⟩
theorem TRel.op {σ : Sg} {T : Tr EV} {nt : Nat} {a : Act} (H : TRel σ T nt a) (x : Operand) : OpRel σ T a x := by
  cases x <;> first | trivial | exact H.at_ _

def SoundC (P : Program) (tab : Tab) (self : CodeFn) : Prop :=
  ∀ (β : Type) (fail : β) (join : β → β → β) (G : β → Prop), ¬ G fail → (∀ x y, G (join x y) → G x ∧ G y) → ∀ (nt fl : Nat) (c : Code) (T : Tr EV) (h : Tr EO) (nx : Nat) (k : Ex → Tr EV → Tr EO → Nat → β) (σ : Sg) (a : Act) (w : World),
    G (self β fail join nt fl c T h nx k) → TRel σ T nt a → GlOk tab σ → Holds σ h w → Fresh σ nx → fl ≤ nx →
      c.wp P (fun e a' w' => ∃ ex T' h' nx' σ', ExR ex e ∧ G (k ex T' h' nx') ∧ TRel σ' T' nt a' ∧ Post fl σ h nx w σ' h' nx' w') a w

section
variable {P : Program} {tab : Tab} {β : Type} {fail : β} {G : β → Prop} (hf : ¬ G fail)
include hf
theorem evx_spec {T : Tr EV} {x : Operand} {k : EV → β} {σ : Sg} {a : Act} (hg : G (evx tab fail T x k)) (hx : OpRel σ T a x) (hgl : GlOk tab σ) : ∃ v, G (k v) ∧ VR σ v (a.eval x) := by
  unfold evx at hg
  cases x with
  | tmp i =>
    simp only at hg
    simp only [OpRel] at hx
    cases hi : T.get i with
    | none => rw [hi] at hx; simp only [hi] at hg; exact ⟨_, hg, hx⟩
    | some v => rw [hi] at hx; simp only [hi] at hg; exact ⟨_, hg, hx⟩
  | const v =>
    simp only at hg
    cases hv : ofVal v with
    | none => simp only [hv] at hg; exact absurd hg hf
    | some e => simp only [hv] at hg; exact ⟨e, hg, ofVal_spec hv σ⟩
  | global g =>
    simp only at hg
    cases hi : tab.gl.get g with
    | none => simp only [hi] at hg; exact absurd hg hf
    | some id =>
      simp only [hi] at hg
      obtain ⟨l, h1, h2⟩ := hgl g id hi
      refine ⟨_, hg, ?_⟩
      simp only [VR]
      exact ⟨l, h1, by rw [h2]; rfl⟩
  | func f =>
    refine ⟨_, hg, ?_⟩
    simp only [VR]
    exact ⟨#[], #[], rfl, VRs.nil, VRs.nil⟩
theorem evxs_spec {T : Tr EV} {σ : Sg} {a : Act} (hgl : GlOk tab σ) : ∀ {l : List Operand} {k : EVs → β}, G (evxs tab fail T l k) → (∀ x ∈ l, OpRel σ T a x) → ∃ vs, G (k vs) ∧ VRs σ vs (l.map a.eval)
  | [], k, hg, _ => ⟨.nil, hg, VRs.nil⟩
  | x :: l, k, hg, hx => by
    simp only [evxs] at hg
    obtain ⟨v, hg, hv⟩ := evx_spec hf hg (hx x (by simp)) hgl
    obtain ⟨vs, hg, hvs⟩ := evxs_spec hgl hg (fun y hy => hx y (by simp [hy]))
    exact ⟨.cons v vs, hg, hvs.cons hv⟩
theorem evParts_spec {T : Tr EV} {σ : Sg} {a : Act} (hgl : GlOk tab σ) : ∀ {l : List (Nat × Operand)} {k : List (Nat × EV) → β}, G (evParts tab fail T l k) → (∀ x ∈ l, OpRel σ T a x.2) → ∃ ps, G (k ps) ∧ PartsR σ ps (l.map fun (i, x) => (i, a.eval x))
  | [], k, hg, _ => ⟨[], hg, rfl⟩
  | (i, x) :: l, k, hg, hx => by
    simp only [evParts] at hg
    obtain ⟨v, hg, hv⟩ := evx_spec hf hg (hx (i, x) (by simp)) hgl
    obtain ⟨ps, hg, hps⟩ := evParts_spec hgl hg (fun y hy => hx y (by simp [hy]))
    exact ⟨(i, v) :: ps, hg, _, _, rfl, hv, hps⟩
theorem evOpt_spec {T : Tr EV} {o : Option Operand} {k : Option EV → β} {σ : Sg} {a : Act} (hg : G (evOpt tab fail T o k)) (hx : ∀ x, o = some x → OpRel σ T a x) (hgl : GlOk tab σ) : ∃ v, G (k v) ∧ OptR σ v (o.map a.eval) := by
  unfold evOpt at hg
  cases o with
  | none => exact ⟨none, hg, trivial⟩
  | some x =>
    obtain ⟨v, hg, hv⟩ := evx_spec hf hg (hx x rfl) hgl
    exact ⟨some v, hg, hv⟩
theorem nilCheckE_spec {o : Oper} {x : Operand} (ho : o.op = .nilCheck x) {v : EV} {k : EV → β} {σ : Sg} {a : Act} {w : World} (hg : G (nilCheckE fail v k)) (hv : VR σ v (a.eval x)) :
    ∃ e e', (execOp a.eval o).run P w = .ok (.value e') w ∧ VR σ e e' ∧ G (k e) := by
  unfold nilCheckE at hg
  split at hg
  · have hv' := hv
    simp only [VR] at hv'
    obtain ⟨l, _, hx⟩ := hv'
    exact ⟨_, a.eval x, by simp only [execOp, ho, hx, Sem.run_pure], hv, hg⟩
  · have hv' := hv
    simp only [VR] at hv'
    obtain ⟨p, q, hx, _⟩ := hv'
    exact ⟨_, a.eval x, by simp only [execOp, ho, hx, Sem.run_pure], hv, hg⟩
  · exact absurd hg hf
theorem resE_spec (hT : TabOk P tab) {T : Tr EV} {h : Tr EO} {σ : Sg} {a : Act} {w : World} {nt : Nat} (hgl : GlOk tab σ) (H : Holds σ h w) (HT : TRel σ T nt a) : ∀ {l : List ResultVar} {k : EVs → β}, G (resE tab fail T h l k) →
    ∃ vs us, G (k vs) ∧ VRs σ vs us ∧ (l.mapM (resOf a.tmps)).run P w = .ok us w
  | [], k, hg => ⟨.nil, [], hg, VRs.nil, by simp⟩
  | .tmp t :: l, k, hg => by
    simp only [resE] at hg
    obtain ⟨v, hg, hv⟩ := evx_spec hf hg (HT.op (.tmp t)) hgl
    obtain ⟨vs, us, hg, hvs, hr⟩ := resE_spec hT hgl H HT hg
    refine ⟨.cons v vs, a.tmps.getD t undef :: us, hg, hvs.cons hv, ?_⟩
    simp only [List.mapM_cons, resOf, Sem.run_bind, Sem.run_pure, Result.andThen_ok, hr]
  | .cell p t :: l, k, hg => by
    simp only [resE] at hg
    obtain ⟨v, hg, hv⟩ := evx_spec hf hg (HT.op (.tmp p)) hgl
    obtain ⟨e, ad, e', h1, h2, h3, hg⟩ := loadE_spec hf hT hg hv H
    obtain ⟨vs, us, hg, hvs, hr⟩ := resE_spec hT hgl H HT hg
    refine ⟨.cons e vs, e' :: us, hg, hvs.cons h3, ?_⟩
    have h1' : a.tmps.getD p undef = .pointer (some ad) := h1
    simp only [List.mapM_cons, resOf, Sem.run_bind, Sem.run_pure, Result.andThen_ok, h1', asAddr, h2, hr]
/-- a function, called -/
theorem callE_spec (hT : TabOk P tab) {self : CodeFn} (hS : SoundC P tab self) {join : β → β → β} (hj : ∀ x y, G (join x y) → G x ∧ G y) {fl f : Nat} {args : EVs} {h : Tr EO} {nx : Nat} {k : EV → Tr EO → Nat → β} {σ : Sg} {w : World} {args' : Array Value}
    (hg : G (callE tab self fail join fl f args h nx k)) (ha : VRs σ args args'.toList) (hgl : GlOk tab σ) (H : Holds σ h w) (F : Fresh σ nx) (hfl : fl ≤ nx) :
    (∀ (as : Array Value) (w : World), (callFunc f as).run P w = .ok (.enter f as) w) ∧
    Calls P f args' w fun e w' => ∃ v', e = .returned v' ∧ ∃ v h' nx' σ', VR σ' v v' ∧ Post fl σ h nx w σ' h' nx' w' ∧ G (k v h' nx') := by
  unfold callE at hg
  cases hfn : tab.fn.get f with
  | none => simp only [hfn] at hg; exact absurd hg hf
  | some fn =>
    simp only [hfn] at hg
    obtain ⟨hp, hcf⟩ := hT.fn f fn hfn
    refine ⟨hcf, ?_⟩
    cases hb : fn.body with
    | none => simp only [hb] at hg; exact absurd hg hf
    | some c =>
      simp only [hb] at hg
      cases hq : Nat.ble args.len fn.ntmps with
      | false => rw [hq] at hg; exact absurd hg hf
      | true =>
        rw [hq] at hg
        simp only [cond_true] at hg
        have hn : args.len ≤ fn.ntmps := Nat.le_of_ble_eq_true hq
        obtain ⟨T, hTt, hg⟩ := writeCells_spec hf _ _ _ _ hg
        have hlen := (VRs.iff.1 ha).1
        rw [EVs.len_toL, hlen] at hn
        have hsz : args'.size ≤ fn.ntmps := by simpa using hn
        have HT : TRel σ T fn.ntmps { tmps := args' ++ Array.replicate (fn.ntmps - args'.size) undef, defers := [] } := by
          refine ⟨rfl, by simp; omega, fun i => ?_⟩
          rw [hTt]
          simp only [Nat.zero_add, Nat.zero_le, true_and, Nat.sub_zero, Tr.get_nil]
          by_cases hi : i < args.toL.length
          · rw [if_pos hi]
            have hi' : i < args'.size := by rw [hlen] at hi; simpa using hi
            obtain ⟨u, h1, h2⟩ := ha.get (i := i) (e := args.toL[i]) (by simp [hi])
            rw [Array.getElem?_toList] at h1
            rw [List.getElem?_eq_getElem hi]
            have : (args' ++ Array.replicate (fn.ntmps - args'.size) undef).getD i undef = u := by
              rw [Array.getD_eq_getD_getElem?, Array.getElem?_append_left hi', h1]; rfl
            show VR σ args.toL[i] _
            rw [this]; exact h2
          · rw [if_neg hi]
            have hi' : args'.size ≤ i := by rw [hlen] at hi; simp at hi; exact hi
            have : (args' ++ Array.replicate (fn.ntmps - args'.size) undef).getD i undef = undef := by
              rw [Array.getD_eq_getD_getElem?, Array.getElem?_append_right hi', Array.getElem?_replicate]
              split <;> rfl
            show VR σ undefE _
            rw [this]; exact undefE_spec σ
        have hwp := hS β fail join G hf hj fn.ntmps fl c T h nx _ σ _ w hg HT hgl H F hfl
        refine calls_of_wp hp hb (Code.wp_mono ?_ hwp)
        rintro e a' w' ⟨ex, T', h', nx', σ', hex, hg2, HT', hpost⟩
        have fin : G (resE tab fail T' h' fn.results.toList fun vs => match vs with
            | .cons v .nil => k v h' nx'
            | vs => k (.tup vs) h' nx') → a'.defers = [] ∧ ∃ v, (results fn a'.tmps).run P w' = .ok v w' ∧ ∃ v', Ending.returned v = .returned v' ∧ ∃ v h'' nx'' σ', VR σ' v v' ∧ Post fl σ h nx w σ' h'' nx'' w' ∧ G (k v h'' nx'') := by
          intro hg3
          refine ⟨HT'.defers, ?_⟩
          obtain ⟨vs, us, hg4, hvs, hr⟩ := resE_spec hf hT (hgl.mono hpost.le) hpost.holds HT' hg3
          have hlen2 := (VRs.iff.1 hvs).1
          have hres : (results fn a'.tmps).run P w' = .ok (if h : us.toArray.size = 1 then us.toArray[0] else .tuple us.toArray) w' := by
            rw [results_eq, Sem.run_bind, Array.mapM_eq_mapM_toList]
            simp [hr]
          refine ⟨_, hres, _, rfl, ?_⟩
          cases vs with
          | nil =>
            simp only [VRs] at hvs
            subst hvs
            exact ⟨_, h', nx', σ', by simp only [VR]; exact ⟨_, rfl, VRs.nil⟩, hpost, hg4⟩
          | cons v1 l1 =>
            simp only [VRs] at hvs
            obtain ⟨u1, m1, rfl, hv1, hvs⟩ := hvs
            cases l1 with
            | nil =>
              simp only [VRs] at hvs
              subst hvs
              exact ⟨_, h', nx', σ', by simpa using hv1, hpost, hg4⟩
            | cons v2 l2 =>
              simp only [VRs] at hvs
              obtain ⟨u2, m2, rfl, hv2, hvs⟩ := hvs
              refine ⟨_, h', nx', σ', ?_, hpost, hg4⟩
              rw [dif_neg (by simp)]
              simp only [VR]
              exact ⟨_, rfl, VRs.cons hv1 (VRs.cons hv2 hvs)⟩
        cases ex with
        | exit id => exact absurd hg2 hf
        | normal => cases e <;> first | exact hex.elim | exact fin hg2
        | ret => cases e <;> first | exact hex.elim | exact fin hg2
end
end Go.Proofs.Ytggbnjdbbomjoaa
