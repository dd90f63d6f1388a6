/- Operands, operations, calls, operations in the order of the text. -/
import Derived.Test.YtmlkfgoiakcnhaaGreatDoorEvKk
import Derived.RangeFuncLeaves
import Derived.TacticsIn
import Derived.OrdersIn
import Derived.LoopNIn
namespace Go.Proofs.YtmlkfgoiakcnhaaGreatDoor
open Go Go.RowKit

def OpRel (σ : Sg) (T : Fr) (a : Act) : Operand → Prop
  | .tmp i => VR σ ((T.get i).getD undefE) (a.tmps.getD i undef)
  | _ => True

theorem ofVal_spec {v : Value} {e : EV} (h : ofVal v = some e) (σ : Sg) : VR σ e v := by
  unfold ofVal at h
  split at h
  · cases h; simp only [VR]
  · cases h; simp only [VR]
  · cases h; simp only [VR]
  · cases h; simp only [VR]
  · rename_i n c
    cases hb : (Nat.beq n 0 && Nat.beq c 0) with
    | false => rw [hb] at h; cases h
    | true =>
      rw [hb] at h
      rw [Bool.and_eq_true] at hb
      have b1 := Nat.eq_of_beq_eq_true hb.1
      have b2 := Nat.eq_of_beq_eq_true hb.2
      subst b1; subst b2
      cases h; simp only [VR]
  · cases h; simp only [VR]
  · cases h; simp only [VR]
  · cases h; simp only [VR]
  · rename_i l
    split at h
    · rename_i hl
      cases h
      simp only [undefE, VR]
      exact ⟨_, rfl, by rw [hl]; exact VRs.nil⟩
    · cases h
  · cases h

/-- the fence that lets all in, in a round or in none -/
def WF (r : Option Nat) : Fence := { Fence.wide with round := r }
theorem callsIn_WF {P : Program} {r : Option Nat} {f : FuncId} {args : Array Value} {w : World} {R : Ending → World → Prop} (h : Calls P f args w R) : CallsIn (WF r) 0 P f args w R := by
  have h' : CallsIn Fence.wide 0 P f args w R := callsIn_wide.2 h
  exact h'
theorem calls_of_WF {P : Program} {r : Option Nat} {f : FuncId} {args : Array Value} {w : World} {R : Ending → World → Prop} (h : CallsIn (WF r) 0 P f args w R) : Calls P f args w R := by
  have h' : CallsIn Fence.wide 0 P f args w R := h
  exact callsIn_wide.1 h'
/-- how the operation goes, here -/
def Oper.flow (P : Program) (o : Oper) (a : Act) (w : World) (R : Value → World → Prop) : Prop :=
  match (execOp a.eval o).run P w with
  | .ok (.value v) w' => R v w'
  | .ok .skip w' => R undef w'
  | .ok (.enter f args) w' => Calls P f args w' fun e w'' => ∃ v, e = .returned v ∧ R v w''
  | .ok (.round l f tmps as body) w' => RoundIn Fence.wide 0 P l f tmps as body w' fun e w'' => ∃ v, e = .returned v ∧ R v w''
  | _ => False
theorem Oper.wp_of_flow {P : Program} {r : Option Nat} {o : Oper} {a : Act} {w : World} {R : Value → World → Prop} {K : Act → World → Prop} {Q : Exit → Act → World → Prop} (hd : ∀ c, o.op ≠ .defer c) (h : Oper.flow P o a w R)
    (hR : ∀ v w', R v w' → K (a.put o.dst v) w') : o.wpIn (WF r) 0 P a w K Q := by
  refine ⟨fun _ _ => trivial, ?_⟩
  rw [Oper.semAt_eq _ _ _ hd]
  unfold Oper.flow at h
  generalize (execOp a.eval o).run P w = r at *
  cases r with
  | halt x w' => exact h.elim
  | ok n w' =>
    cases n <;> simp only [] at h <;> simp only [Oper.uponIn]
    case value v => exact hR _ _ h
    case skip => exact hR _ _ h
    case enter f args => exact ⟨fun h => (by cases h), callsIn_WF (h.mono fun e w'' ⟨v, he, hr⟩ => by subst he; exact hR _ _ hr)⟩
    case round l f tmps as body =>
      refine ⟨fun h => (by cases h), ?_⟩
      have h' : RoundIn (WF r) (0 - 1) P l f tmps as body w' (fun e w'' => ∃ v, e = .returned v ∧ R v w'') := h
      exact h'.mono fun e w'' ⟨v, he, hr⟩ => by subst he; exact hR _ _ hr
theorem flow_value {P : Program} {o : Oper} {a : Act} {w w' : World} {R : Value → World → Prop} {v : Value} (h : (execOp a.eval o).run P w = .ok (.value v) w') (hR : R v w') : Oper.flow P o a w R := by
  unfold Oper.flow; rw [h]; exact hR
theorem flow_skip {P : Program} {o : Oper} {a : Act} {w w' : World} {R : Value → World → Prop} (h : (execOp a.eval o).run P w = .ok .skip w') (hR : R undef w') : Oper.flow P o a w R := by
  unfold Oper.flow; rw [h]; exact hR
theorem undefE_spec (σ : Sg) : VR σ undefE undef := by
  simp only [undefE, VR]; exact ⟨_, rfl, VRs.nil⟩

def resOf (tmps : Array Value) : ResultVar → Sem Value
  | .tmp t => pure (tmps.getD t undef)
  | .cell p t => do loadVar t (← asAddr (tmps.getD p undef))
theorem results_eq (fn : Func) (tmps : Array Value) : results fn tmps = (do let vs ← fn.results.mapM (resOf tmps); pure (if h : vs.size = 1 then vs[0] else .tuple vs)) := by
  have : (fun (r : ResultVar) => match r with
    | .tmp t => (pure (tmps.getD t undef) : Sem Value)
    | .cell a t => do loadVar t (← asAddr (tmps.getD a undef))) = resOf tmps := by funext r; cases r <;> rfl
  exact congrArg (fun (f : ResultVar → Sem Value) => (do let vs ← fn.results.mapM f; pure (if h : vs.size = 1 then vs[0] else .tuple vs) : Sem Value)) this
def ExR : Ex → Exit → Prop
  | .normal, .normal => True
  | .exit i, .exit j => i = j
  | .ret, .ret => True
  | _, _ => False
/-- the marks of the loops whose deferred calls are to be taken over -/
def DR (σ : Sg) : List Nat → List Deferred → Prop
  | [], l => l = []
  | b :: D, l => ∃ loc m, σ b = some loc ∧ l = { target := .collected loc.blk, args := #[] } :: m ∧ DR σ D m
theorem DR.mono {σ τ : Sg} (h : Le σ τ) : ∀ {D : List Nat} {l : List Deferred}, DR σ D l → DR τ D l
  | [], _, H => H
  | _ :: _, _, ⟨loc, m, h1, h2, h3⟩ => ⟨loc, m, h _ _ h1, h2, h3.mono h⟩
/-- the frame beside the abstract one -/
structure TRel (σ : Sg) (T : Fr) (nt : Nat) (a : Act) : Prop where
  defers : DR σ T.D a.defers
  size : a.tmps.size = nt
  at_ : ∀ i, VR σ ((T.get i).getD undefE) (a.tmps.getD i undef)
theorem TRel.mono {σ τ : Sg} (h : Le σ τ) {T : Fr} {nt : Nat} {a : Act} (H : TRel σ T nt a) : TRel τ T nt a := ⟨H.defers.mono h, H.size, fun i => (H.at_ i).mono h⟩
theorem TRel.op {σ : Sg} {T : Fr} {nt : Nat} {a : Act} (H : TRel σ T nt a) (x : Operand) : OpRel σ T a x := by
  cases x <;> first | trivial | exact H.at_ _

def SoundC (P : Program) (tab : Tab) (self : CodeFn) : Prop :=
  ∀ (β : Type) (fail : β) (join : β → β → β) (G : β → Prop), ¬ G fail → (∀ x y, G (join x y) → G x ∧ G y) → ∀ (nt fl : Nat) (c : Code) (T : Fr) (h : Tr EO) (nx : Nat) (k : Ex → Fr → Tr EO → Nat → β) (σ : Sg) (a : Act) (w : World) (r : Option Nat),
    G (self β fail join nt fl c T h nx k) → TRel σ T nt a → (T.ro = none → r = none) → GlOk tab σ → Holds σ h w → Fresh σ nx → fl ≤ nx →
      c.wpIn (WF r) 0 P (fun e a' w' => ∃ ex T' h' nx' σ', ExR ex e ∧ G (k ex T' h' nx') ∧ TRel σ' T' nt a' ∧ T'.ro = T.ro ∧ Post fl σ h nx w σ' h' nx' w') a w

section
variable {P : Program} {tab : Tab} {β : Type} {fail : β} {G : β → Prop} (hf : ¬ G fail)
include hf
theorem evx_spec {T : Fr} {x : Operand} {k : EV → β} {σ : Sg} {a : Act} (hg : G (evx tab fail T x k)) (hx : OpRel σ T a x) (hgl : GlOk tab σ) : ∃ v, G (k v) ∧ VR σ v (a.eval x) := by
  unfold evx at hg
  cases x with
  | tmp i =>
    simp only at hg
    simp only [OpRel] at hx
    cases hi : T.get i with
    | none => rw [hi] at hx; simp only [hi] at hg; exact ⟨_, hg, hx⟩
    | some v => rw [hi] at hx; simp only [hi] at hg; exact ⟨_, hg, hx⟩
  | const v =>
    simp only at hg
    cases hv : ofVal v with
    | none => simp only [hv] at hg; exact absurd hg hf
    | some e => simp only [hv] at hg; exact ⟨e, hg, ofVal_spec hv σ⟩
  | global g =>
    simp only at hg
    cases hi : tab.gl.get g with
    | none => simp only [hi] at hg; exact absurd hg hf
    | some id =>
      simp only [hi] at hg
      obtain ⟨l, h1, h2⟩ := hgl g id hi
      refine ⟨_, hg, ?_⟩
      simp only [VR]
      exact ⟨l, h1, by rw [h2]; rfl⟩
  | func f =>
    refine ⟨_, hg, ?_⟩
    simp only [VR]
    exact ⟨#[], #[], rfl, VRs.nil, VRs.nil⟩
theorem evxs_spec {T : Fr} {σ : Sg} {a : Act} (hgl : GlOk tab σ) : ∀ {l : List Operand} {k : EVs → β}, G (evxs tab fail T l k) → (∀ x ∈ l, OpRel σ T a x) → ∃ vs, G (k vs) ∧ VRs σ vs (l.map a.eval)
  | [], k, hg, _ => ⟨.nil, hg, VRs.nil⟩
  | x :: l, k, hg, hx => by
    simp only [evxs] at hg
    obtain ⟨v, hg, hv⟩ := evx_spec hf hg (hx x (by simp)) hgl
    obtain ⟨vs, hg, hvs⟩ := evxs_spec hgl hg (fun y hy => hx y (by simp [hy]))
    exact ⟨.cons v vs, hg, hvs.cons hv⟩
theorem evParts_spec {T : Fr} {σ : Sg} {a : Act} (hgl : GlOk tab σ) : ∀ {l : List (Nat × Operand)} {k : List (Nat × EV) → β}, G (evParts tab fail T l k) → (∀ x ∈ l, OpRel σ T a x.2) → ∃ ps, G (k ps) ∧ PartsR σ ps (l.map fun (i, x) => (i, a.eval x))
  | [], k, hg, _ => ⟨[], hg, rfl⟩
  | (i, x) :: l, k, hg, hx => by
    simp only [evParts] at hg
    obtain ⟨v, hg, hv⟩ := evx_spec hf hg (hx (i, x) (by simp)) hgl
    obtain ⟨ps, hg, hps⟩ := evParts_spec hgl hg (fun y hy => hx y (by simp [hy]))
    exact ⟨(i, v) :: ps, hg, _, _, rfl, hv, hps⟩
theorem evOpt_spec {T : Fr} {o : Option Operand} {k : Option EV → β} {σ : Sg} {a : Act} (hg : G (evOpt tab fail T o k)) (hx : ∀ x, o = some x → OpRel σ T a x) (hgl : GlOk tab σ) : ∃ v, G (k v) ∧ OptR σ v (o.map a.eval) := by
  unfold evOpt at hg
  cases o with
  | none => exact ⟨none, hg, trivial⟩
  | some x =>
    obtain ⟨v, hg, hv⟩ := evx_spec hf hg (hx x rfl) hgl
    exact ⟨some v, hg, hv⟩
theorem nilCheckE_spec {o : Oper} {x : Operand} (ho : o.op = .nilCheck x) {v : EV} {k : EV → β} {σ : Sg} {a : Act} {w : World} (hg : G (nilCheckE fail v k)) (hv : VR σ v (a.eval x)) :
    ∃ e e', (execOp a.eval o).run P w = .ok (.value e') w ∧ VR σ e e' ∧ G (k e) := by
  unfold nilCheckE at hg
  split at hg
  · have hv' := hv
    simp only [VR] at hv'
    obtain ⟨l, _, hx⟩ := hv'
    exact ⟨_, a.eval x, by simp only [execOp, ho, hx, Sem.run_pure], hv, hg⟩
  · have hv' := hv
    simp only [VR] at hv'
    obtain ⟨p, q, hx, _⟩ := hv'
    exact ⟨_, a.eval x, by simp only [execOp, ho, hx, Sem.run_pure], hv, hg⟩
  · exact absurd hg hf
theorem resE_spec (hT : TabOk P tab) {T : Fr} {h : Tr EO} {σ : Sg} {a : Act} {w : World} {nt : Nat} (hgl : GlOk tab σ) (H : Holds σ h w) (HT : TRel σ T nt a) : ∀ {l : List ResultVar} {k : EVs → β}, G (resE tab fail T h l k) →
    ∃ vs us, G (k vs) ∧ VRs σ vs us ∧ (l.mapM (resOf a.tmps)).run P w = .ok us w
  | [], k, hg => ⟨.nil, [], hg, VRs.nil, by simp⟩
  | .tmp t :: l, k, hg => by
    simp only [resE] at hg
    obtain ⟨v, hg, hv⟩ := evx_spec hf hg (HT.op (.tmp t)) hgl
    obtain ⟨vs, us, hg, hvs, hr⟩ := resE_spec hT hgl H HT hg
    refine ⟨.cons v vs, a.tmps.getD t undef :: us, hg, hvs.cons hv, ?_⟩
    simp only [List.mapM_cons, resOf, Sem.run_bind, Sem.run_pure, Result.andThen_ok, hr]
  | .cell p t :: l, k, hg => by
    simp only [resE] at hg
    obtain ⟨v, hg, hv⟩ := evx_spec hf hg (HT.op (.tmp p)) hgl
    obtain ⟨e, ad, e', h1, h2, h3, hg⟩ := loadE_spec hf hT hg hv H
    obtain ⟨vs, us, hg, hvs, hr⟩ := resE_spec hT hgl H HT hg
    refine ⟨.cons e vs, e' :: us, hg, hvs.cons h3, ?_⟩
    have h1' : a.tmps.getD p undef = .pointer (some ad) := h1
    simp only [List.mapM_cons, resOf, Sem.run_bind, Sem.run_pure, Result.andThen_ok, h1', asAddr, h2, hr]
omit hf in
theorem run_getObj {r : Nat} {o : Obj} {w : World} (h : w.heap[r]? = some o) (hc : ∀ x y z, o ≠ .cells x y z) : (getObj r).run P w = .ok o w := by
  cases o <;> first | exact absurd rfl (hc _ _ _) | simp [getObj, Sem.run, h]
omit hf in
theorem run_setObj {r : Nat} {o o' : Obj} {w : World} (h : w.heap[r]? = some o) (hc : ∀ x y z, o ≠ .cells x y z) : (setObj r o').run P w = .ok () { w with heap := w.heap.setIfInBounds r o' } := by
  cases o <;> first | exact absurd rfl (hc _ _ _) | simp [setObj, Sem.run, h]
omit hf in
/-- a block that is known is forgotten, and turned -/
theorem Post.mk_drop {fl : Nat} {σ : Sg} {h h' : Tr EO} {nx : Nat} {w w' : World} {b : Nat} {l : Loc} (H : Holds σ h w) (F : Fresh σ nx) (hfl : fl ≤ b) (hb : (h.get b).isSome) (hl : σ b = some l) (hp : ∀ j, h'.get j = if j = b then none else h.get j)
    (hoth : ∀ k, k ≠ l.blk → w'.heap[k]? = w.heap[k]?) (hsize : w'.heap.size = w.heap.size) (hos : w'.os = w.os) (htape : w'.tape = w.tape) (hout : w'.output = w.output) : Post fl σ h nx w σ h' nx w' := by
  have back : ∀ id, (h'.get id).isSome → id ≠ b ∧ h'.get id = h.get id := fun id hi => by
    rw [hp] at hi ⊢
    by_cases e : id = b
    · rw [if_pos e] at hi; cases hi
    · rw [if_neg e]; exact ⟨e, rfl⟩
  exact {
    le := Le.refl _
    new := fun _ _ => rfl
    nxle := Nat.le_refl _
    fresh := F
    dom := fun id hi => .inl (by rw [← (back id hi).2]; exact hi)
    holds := {
      there := fun id o ho => by
        obtain ⟨e1, e2⟩ := back id (by rw [ho]; rfl)
        rw [e2] at ho
        obtain ⟨l', ob, a1, a2, a3⟩ := H.there id o ho
        refine ⟨l', ob, a1, ?_, a3⟩
        rw [hoth _ (fun e => e1 (H.inj id b l' l (by rw [ho]; rfl) hb a1 hl e))]
        exact a2
      inj := fun i j li lj hi hj => H.inj i j li lj (by rw [← (back i hi).2]; exact hi) (by rw [← (back j hj).2]; exact hj) }
    floor := fun id hi => by rw [hp, if_neg (by omega)]
    size := by rw [hsize]; exact Nat.le_refl _
    frame := fun k hk hne => hoth k (fun e => hne b l hb hl e.symm)
    own := fun id l' hi e => .inr ⟨id, l', by rw [← (back id hi).2]; exact hi, e, rfl⟩
    os := hos
    tape := htape
    output := hout }
omit hf in
theorem heap_set_other {w : World} {r : Nat} {o : Obj} {k : Nat} (h : k ≠ r) : ({ w with heap := w.heap.setIfInBounds r o } : World).heap[k]? = w.heap[k]? := by
  show (w.heap.setIfInBounds r o)[k]? = _
  rw [Array.getElem?_setIfInBounds, if_neg (fun e => h e.symm)]
omit hf in
theorem heap_set_same {w : World} {r : Nat} {o o' : Obj} (h : w.heap[r]? = some o') : ({ w with heap := w.heap.setIfInBounds r o } : World).heap[r]? = some o := by
  show (w.heap.setIfInBounds r o)[r]? = _
  have := (Array.getElem?_eq_some_iff.1 h).1
  rw [Array.getElem?_setIfInBounds, if_pos rfl, if_pos this]
omit hf in
theorem Post.mk_obj {fl : Nat} {σ : Sg} {h h' : Tr EO} {nx : Nat} {w : World} {o : EO} {ob ob0 : Obj} {b : Nat} {l : Loc} (H : Holds σ h w) (F : Fresh σ nx) (hfl : fl ≤ b) (hb : (h.get b).isSome) (hl : σ b = some l) (h0 : w.heap[l.blk]? = some ob0)
    (hp : ∀ j, h'.get j = if j = b then some o else h.get j) (hob : OR σ l o ob) : Post fl σ h nx w σ h' nx { w with heap := w.heap.setIfInBounds l.blk ob } :=
  Post.mk_set H F hfl hb hl hp (heap_set_same h0) (fun k hk => heap_set_other hk) (by simp) rfl rfl rfl hob

/-- the blocks of deferred calls hand none over -/
theorem leaveE_spec {n : Nat} {fn : Func} {tmps : Array Value} {R : Ending → World → Prop} {fl : Nat} {σ : Sg} {nx : Nat} : ∀ {D : List Nat} {l : List Deferred} {h : Tr EO} {w : World} {k : Tr EO → β}, G (leaveE fail fl D h k) → DR σ D l → Holds σ h w → Fresh σ nx →
    (∀ h' w', G (k h') → Post fl σ h nx w σ h' nx w' → ∃ v, (results fn tmps).run P w' = .ok v w' ∧ R (.returned v) w') → LeavesInM Fence.wide n P fn tmps R l .returning w
  | [], l, h, w, k, hg, hd, H, F, hR => by
    simp only [DR] at hd
    subst hd
    exact hR h w hg (Post.refl H F)
  | b :: D, l, h, w, k, hg, hd, H, F, hR => by
    obtain ⟨loc, m, h1, rfl, h3⟩ := hd
    simp only [leaveE] at hg
    split at hg
    · rename_i hb
      obtain ⟨hfl, h', hp, hg⟩ := setB_spec hf hg
      obtain ⟨l', ob, e1, e2, e3⟩ := H.there b _ hb
      rw [h1] at e1; cases e1
      simp only [OR] at e3
      subst e3
      have hpost : Post fl σ h nx w σ h' nx { w with heap := w.heap.setIfInBounds loc.blk (.deferred none) } :=
        Post.mk_drop H F hfl (by rw [hb]; rfl) h1 hp (fun k hk => heap_set_other hk) (by simp) rfl rfl rfl
      refine ⟨by simp, .inl ⟨loc.blk, _, rfl, ?_, leaveE_spec (n := n) hg h3 hpost.holds F fun h2 w2 hg2 hp2 => hR h2 w2 hg2 (hpost.trans hp2)⟩⟩
      simp only [Instr.takeDeferred, Sem.run_bind, run_getObj e2 (fun _ _ _ h => by cases h), Result.andThen_ok, run_setObj e2 (fun _ _ _ h => by cases h), Sem.run_pure]
    · exact absurd hg hf

/-- how a call goes -/
def callFlow (P : Program) (f : FuncId) (args : Array Value) (w : World) (R : Value → World → Prop) : Prop :=
  match (callFunc f args).run P w with
  | .ok (.value v) w' => R v w'
  | .ok (.enter g as) w' => Calls P g as w' fun e w'' => ∃ v, e = .returned v ∧ R v w''
  | _ => False

/-- a function of the program's, called -/
theorem callE_enter (hT : TabOk P tab) {self : CodeFn} (hS : SoundC P tab self) {join : β → β → β} (hj : ∀ x y, G (join x y) → G x ∧ G y) {fl f : Nat} {args : EVs} {h : Tr EO} {nx : Nat} {k : EV → Tr EO → Nat → β} {σ : Sg} {w : World} {args' : Array Value} {fn : Func}
    (hfn : tab.fn.get f = some fn) (hg : G (callE tab self fail join fl f args h nx k)) (ha : VRs σ args args'.toList) (hgl : GlOk tab σ) (H : Holds σ h w) (F : Fresh σ nx) (hfl : fl ≤ nx) :
    (∀ (as : Array Value) (w : World), (callFunc f as).run P w = .ok (.enter f as) w) ∧
    Calls P f args' w fun e w' => ∃ v', e = .returned v' ∧ ∃ v h' nx' σ', VR σ' v v' ∧ Post fl σ h nx w σ' h' nx' w' ∧ G (k v h' nx') := by
  unfold callE at hg
  simp only [hfn] at hg
  obtain ⟨hp, hcf⟩ := hT.fn f fn hfn
  refine ⟨hcf, ?_⟩
  cases hb : fn.body with
  | none => simp only [hb] at hg; exact absurd hg hf
  | some c =>
    simp only [hb] at hg
    cases hq : Nat.ble args.len fn.ntmps with
    | false => rw [hq] at hg; exact absurd hg hf
    | true =>
      rw [hq] at hg
      simp only [cond_true] at hg
      have hn : args.len ≤ fn.ntmps := Nat.le_of_ble_eq_true hq
      obtain ⟨T, hTt, hg⟩ := writeCells_spec hf _ _ _ _ hg
      have hlen := (VRs.iff.1 ha).1
      rw [EVs.len_toL, hlen] at hn
      have hsz : args'.size ≤ fn.ntmps := by simpa using hn
      have HT : TRel σ ⟨T, [], none⟩ fn.ntmps { tmps := args' ++ Array.replicate (fn.ntmps - args'.size) undef, defers := [] } := by
        refine ⟨rfl, by simp; omega, fun i => ?_⟩
        show VR σ ((T.get i).getD undefE) _
        rw [hTt]
        simp only [Nat.zero_add, Nat.zero_le, true_and, Nat.sub_zero, Tr.get_nil]
        by_cases hi : i < args.toL.length
        · rw [if_pos hi]
          have hi' : i < args'.size := by rw [hlen] at hi; simpa using hi
          obtain ⟨u, h1, h2⟩ := ha.get (i := i) (e := args.toL[i]) (by simp [hi])
          rw [Array.getElem?_toList] at h1
          rw [List.getElem?_eq_getElem hi]
          have : (args' ++ Array.replicate (fn.ntmps - args'.size) undef).getD i undef = u := by
            rw [Array.getD_eq_getD_getElem?, Array.getElem?_append_left hi', h1]; rfl
          show VR σ args.toL[i] _
          rw [this]; exact h2
        · rw [if_neg hi]
          have hi' : args'.size ≤ i := by rw [hlen] at hi; simp at hi; exact hi
          have : (args' ++ Array.replicate (fn.ntmps - args'.size) undef).getD i undef = undef := by
            rw [Array.getD_eq_getD_getElem?, Array.getElem?_append_right hi', Array.getElem?_replicate]
            split <;> rfl
          show VR σ undefE _
          rw [this]; exact undefE_spec σ
      have hwp := hS β fail join G hf hj fn.ntmps fl c ⟨T, [], none⟩ h nx _ σ _ w none hg HT (fun _ => rfl) hgl H F hfl
      refine callsIn_wide.1 (callsIn_of_wp_marks (F := Fence.wide) (n := 0) hp hb trivial (Code.wpIn_mono ?_ hwp))
      rintro e a' w' ⟨ex, T', h', nx', σ', hex, hg2, HT', _, hpost⟩
      have fin : G (leaveE fail fl T'.D h' fun h' => resE tab fail T' h' fn.results.toList fun vs => match vs with
          | .cons v .nil => k v h' nx'
          | vs => k (.tup vs) h' nx') → LeavesInM Fence.wide 0 P fn a'.tmps (fun e w' => ∃ v', e = .returned v' ∧ ∃ v h' nx' σ', VR σ' v v' ∧ Post fl σ h nx w σ' h' nx' w' ∧ G (k v h' nx')) a'.defers .returning w' := by
        intro hg3
        refine leaveE_spec (fl := fl) (nx := nx') hf hg3 HT'.defers hpost.holds hpost.fresh fun h2 w2 hg4 hp2 => ?_
        have hpost2 := hpost.trans hp2
        obtain ⟨vs, us, hg4, hvs, hr⟩ := resE_spec hf hT (hgl.mono hpost.le) hp2.holds HT' hg4
        have hlen2 := (VRs.iff.1 hvs).1
        have hres : (results fn a'.tmps).run P w2 = .ok (if h : us.toArray.size = 1 then us.toArray[0] else .tuple us.toArray) w2 := by
          rw [results_eq, Sem.run_bind, Array.mapM_eq_mapM_toList]
          simp [hr]
        refine ⟨_, hres, _, rfl, ?_⟩
        cases vs with
        | nil =>
          simp only [VRs] at hvs
          subst hvs
          exact ⟨_, h2, nx', σ', by simp only [VR]; exact ⟨_, rfl, VRs.nil⟩, hpost2, hg4⟩
        | cons v1 l1 =>
          simp only [VRs] at hvs
          obtain ⟨u1, m1, rfl, hv1, hvs⟩ := hvs
          cases l1 with
          | nil =>
            simp only [VRs] at hvs
            subst hvs
            exact ⟨_, h2, nx', σ', by simpa using hv1, hpost2, hg4⟩
          | cons v2 l2 =>
            simp only [VRs] at hvs
            obtain ⟨u2, m2, rfl, hv2, hvs⟩ := hvs
            refine ⟨_, h2, nx', σ', ?_, hpost2, hg4⟩
            rw [dif_neg (by simp)]
            simp only [VR]
            exact ⟨_, rfl, VRs.cons hv1 (VRs.cons hv2 hvs)⟩
      cases ex with
      | exit id => exact absurd hg2 hf
      | normal => cases e <;> first | exact hex.elim | exact fin hg2
      | ret => cases e <;> first | exact hex.elim | exact fin hg2
theorem callE_spec (hT : TabOk P tab) {self : CodeFn} (hS : SoundC P tab self) {join : β → β → β} (hj : ∀ x y, G (join x y) → G x ∧ G y) {fl f : Nat} {args : EVs} {h : Tr EO} {nx : Nat} {k : EV → Tr EO → Nat → β} {σ : Sg} {w : World} {args' : Array Value}
    (hg : G (callE tab self fail join fl f args h nx k)) (ha : VRs σ args args'.toList) (hgl : GlOk tab σ) (H : Holds σ h w) (F : Fresh σ nx) (hfl : fl ≤ nx) :
    callFlow P f args' w fun v' w' => ∃ v h' nx' σ', VR σ' v v' ∧ Post fl σ h nx w σ' h' nx' w' ∧ G (k v h' nx') := by
  unfold callFlow
  cases hfn : tab.fn.get f with
  | some fn =>
    obtain ⟨h1, h2⟩ := callE_enter hf hT hS hj hfn hg ha hgl H F hfl
    rw [h1]
    exact h2
  | none =>
    unfold callE at hg
    simp only [hfn] at hg
    cases hex : tab.ex.get f with
    | none => simp only [hex] at hg; exact absurd hg hf
    | some n =>
      simp only [hex] at hg
      have hE := hT.ex f n hex
      unfold extE at hg
      split at hg
      · rename_i x y c
        simp only [VRs, VR] at ha
        obtain ⟨_, _, e1, rfl, _, _, rfl, rfl, _, _, rfl, rfl, rfl⟩ := ha
        have hargs : args' = #[.int .u64 (Int.ofNat x), .int .u64 (Int.ofNat y), .int .u64 (Int.ofNat c)] := by
          apply Array.ext'; simpa using e1
        cases hc : Nat.ble c 1 with
        | false => rw [hc] at hg; exact absurd hg hf
        | true =>
          rw [hc] at hg
          simp only [cond_true] at hg
          obtain ⟨q0, q1⟩ := hE x y c w (Nat.le_of_ble_eq_true hc)
          split at hg
          · have hg := forceI_spec (forceI_spec hg)
            rw [hargs, q0 rfl]
            refine ⟨_, h, nx, σ, ?_, Post.refl H F, hg⟩
            simp only [VR]
            exact ⟨_, rfl, VRs.cons (by simp only [VR]; rfl) (VRs.cons (by simp only [VR]; rfl) VRs.nil)⟩
          · have hg := forceI_spec hg
            rw [hargs, q1 rfl]
            refine ⟨_, h, nx, σ, ?_, Post.refl H F, hg⟩
            simp only [VR]
            refine ⟨_, rfl, VRs.cons (by simp only [VR]; rfl) (VRs.cons ?_ VRs.nil)⟩
            simp only [VR]
            cases hb : Nat.ble (Nat.succ x) (Nat.add y c) with
            | true =>
              have h1 : x < y + c := Nat.le_of_ble_eq_true hb
              rw [if_pos h1]; rfl
            | false =>
              have h1 : ¬ x < y + c := fun hlt => by
                have h2 : Nat.ble (Nat.succ x) (Nat.add y c) = true := Nat.ble_eq_true_of_le hlt
                rw [h2] at hb; cases hb
              rw [if_neg h1]; rfl
          · exact absurd hg hf
      · exact absurd hg hf
omit hf in
theorem callFlow.mono {f : FuncId} {args : Array Value} {w : World} {R R' : Value → World → Prop} (h : callFlow P f args w R) (hr : ∀ v w', R v w' → R' v w') : callFlow P f args w R' := by
  unfold callFlow at *
  generalize (callFunc f args).run P w = res at *
  cases res with
  | halt _ _ => exact h
  | ok n w' =>
    cases n <;> first
      | exact hr _ _ h
      | exact h.mono fun e w'' ⟨v, he, hv⟩ => ⟨v, he, hr _ _ hv⟩
      | exact h
omit hf in
theorem maxN_le (a b : Nat) : a ≤ maxN a b ∧ b ≤ maxN a b := by
  unfold maxN
  cases h : Nat.ble a b with
  | true => have := Nat.le_of_ble_eq_true h; simp; omega
  | false =>
    have : ¬ a ≤ b := fun hle => by rw [Nat.ble_eq_true_of_le hle] at h; cases h
    simp; omega
omit hf in
theorem mergeOuts_spec : ∀ {l : List (EV × Tr EO × Nat)} {v : EV} {h : Tr EO} {nx : Nat} {r : EV × Tr EO × Nat}, mergeOuts v h nx l = some r →
    r.1 = v ∧ (∀ id b, r.2.1.get id = some b → h.get id = some b) ∧ nx ≤ r.2.2 ∧ ∀ o ∈ l, r.1 = o.1 ∧ (∀ id b, r.2.1.get id = some b → o.2.1.get id = some b) ∧ o.2.2 ≤ r.2.2
  | [], v, h, nx, r, hm => by
    simp only [mergeOuts, Option.some.injEq] at hm
    subst hm
    exact ⟨rfl, fun _ _ h => h, Nat.le_refl _, fun o ho => by cases ho⟩
  | o :: l, v, h, nx, r, hm => by
    simp only [mergeOuts] at hm
    cases hs : sameE v o.1 with
    | false => rw [hs] at hm; cases hm
    | true =>
      rw [hs] at hm
      obtain ⟨a1, a2, a3, a4⟩ := mergeOuts_spec hm
      have hv := sameE_eq _ _ hs
      have hm2 := maxN_le nx o.2.2
      refine ⟨a1, fun id b hb => (meetTr_spec (a2 id b hb)).1, by omega, fun p hp => ?_⟩
      cases hp with
      | head => exact ⟨a1.trans hv, fun id b hb => (meetTr_spec (a2 id b hb)).2, by omega⟩
      | tail _ hp => exact a4 p hp
omit hf in
/-- what is forgotten does no harm -/
theorem Post.less {σ σ' : Sg} {h h' h2 : Tr EO} {nx nx' nx2 : Nat} {w w' : World} (p : Post 0 σ h nx w σ' h' nx' w') (hle : ∀ id b, h2.get id = some b → h'.get id = some b) (hn : nx' ≤ nx2) : Post 0 σ h nx w σ' h2 nx2 w' := by
  have hs : ∀ id, (h2.get id).isSome → (h'.get id).isSome := fun id hi => by
    obtain ⟨b, hb⟩ := Option.isSome_iff_exists.1 hi
    rw [hle id b hb]; rfl
  exact {
    le := p.le
    new := p.new
    nxle := Nat.le_trans p.nxle hn
    fresh := fun id hi => p.fresh id (Nat.le_trans hn hi)
    dom := fun id hi => (p.dom id (hs id hi)).imp (fun h => h) fun ⟨a, b⟩ => ⟨a, Nat.lt_of_lt_of_le b hn⟩
    holds := {
      there := fun id o ho => p.holds.there id o (hle id o ho)
      inj := fun i j li lj hi hj => p.holds.inj i j li lj (hs i hi) (hs j hj) }
    floor := fun id hi => by omega
    size := p.size
    frame := p.frame
    own := fun id l hi => p.own id l (hs id hi)
    os := p.os
    tape := p.tape
    output := p.output }
theorem callM_spec (hT : TabOk P tab) {self : CodeFn} (hS : SoundC P tab self) {join : β → β → β} (hj : ∀ x y, G (join x y) → G x ∧ G y) {fl f : Nat} {args : EVs} {h : Tr EO} {nx : Nat} {k : EV → Tr EO → Nat → β} {σ : Sg} {w : World} {args' : Array Value}
    (hg : G (callM tab self fail join fl f args h nx k)) (ha : VRs σ args args'.toList) (hgl : GlOk tab σ) (H : Holds σ h w) (F : Fresh σ nx) (hfl : fl ≤ nx) :
    callFlow P f args' w fun v' w' => ∃ v h' nx' σ', VR σ' v v' ∧ Post fl σ h nx w σ' h' nx' w' ∧ G (k v h' nx') := by
  unfold callM at hg
  cases hm : tab.mg.get f with
  | none => rw [hm] at hg; exact callE_spec hf hT hS hj hg ha hgl H F hfl
  | some _ =>
    simp only [hm] at hg
    cases h0 : Nat.beq fl 0 with
    | false => rw [h0] at hg; exact absurd hg hf
    | true =>
      rw [h0] at hg
      have hfl0 := Nat.eq_of_beq_eq_true h0
      subst hfl0
      simp only [cond_true] at hg
      split at hg
      · rename_i o l ho
        have hflow := callE_spec (β := Outs) (fail := none) (G := fun r => ∃ m, r = some m ∧ ∀ x ∈ m, x ∈ o :: l) (join := joinL) (k := fun v h nx => some [(v, h, nx)]) (fun ⟨m, h, _⟩ => by cases h) hT hS
          (fun x y hxy => by
            obtain ⟨m, h1, h2⟩ := hxy
            cases x with
            | none => cases h1
            | some a =>
              cases y with
              | none => cases h1
              | some b =>
                simp only [joinL, Option.some.injEq] at h1
                subst h1
                exact ⟨⟨a, rfl, fun z hz => h2 z (List.mem_append_left _ hz)⟩, ⟨b, rfl, fun z hz => h2 z (List.mem_append_right _ hz)⟩⟩)
          (fl := 0) (f := f) (args := args) (h := h) (nx := nx) ⟨_, ho, fun x hx => hx⟩ ha hgl H F hfl
        split at hg
        · rename_i r hr
          obtain ⟨a1, a2, a3, a4⟩ := mergeOuts_spec hr
          refine callFlow.mono hflow fun v' w' ⟨v, h', nx', σ', hv, hp, m, he, hin⟩ => ?_
          have hmem : (v, h', nx') ∈ o :: l := hin _ (by
            have : m = [(v, h', nx')] := (Option.some.inj he).symm
            rw [this]; exact List.mem_cons_self ..)
          have key : r.1 = v ∧ (∀ id b, r.2.1.get id = some b → h'.get id = some b) ∧ nx' ≤ r.2.2 := by
            cases hmem with
            | head => exact ⟨a1, a2, a3⟩
            | tail _ hmem => exact a4 _ hmem
          exact ⟨r.1, r.2.1, r.2.2, σ', by rw [key.1]; exact hv, hp.less key.2.1 key.2.2, hg⟩
        · exact absurd hg hf
      · exact absurd hg hf
end
end Go.Proofs.YtmlkfgoiakcnhaaGreatDoor
