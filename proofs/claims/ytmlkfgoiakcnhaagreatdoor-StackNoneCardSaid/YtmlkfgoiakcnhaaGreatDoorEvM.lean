/- An operation of the abstract run beside the machine's; operations in the order of the text. -/
import Derived.Test.YtmlkfgoiakcnhaaGreatDoorEvL
import Derived.Maps.RangeRun
namespace Go.Proofs.YtmlkfgoiakcnhaaGreatDoor
open Go Go.RowKit

theorem run_max2 {P : Program} {ts : Array TypeId} {ty : TypeId} {ki : IntKind} {x y : Int} {w : World} : (do pure (.value (← Builtin.max_ ts ty #[.int ki x, .int ki y])) : Sem Next).run P w = .ok (.value (.int ki (bif ltInt x y then y else x))) w := by
  simp [Builtin.max_, Builtin.max2, ltInt_eq, Bool.cond_decide]
theorem run_min2 {P : Program} {ts : Array TypeId} {ty : TypeId} {ki : IntKind} {x y : Int} {w : World} : (do pure (.value (← Builtin.min_ ts ty #[.int ki x, .int ki y])) : Sem Next).run P w = .ok (.value (.int ki (bif ltInt y x then y else x))) w := by
  simp [Builtin.min_, Builtin.min2, ltInt_eq, Bool.cond_decide]
theorem isSomeOf {α : Type} {o : Option α} {b : α} (h : o = some b) : o.isSome := by rw [h]; rfl

section
variable {P : Program} {tab : Tab} {β : Type} {fail : β} {G : β → Prop} (hf : ¬ G fail)
include hf
theorem fillT_spec {σ : Sg} {nt : Nat} : ∀ {ps : List Nat} {vs : EVs} {T : Tr EV} {k : Tr EV → β} {vs' : List Value} {tmps : Array Value}, G (fillT fail nt ps vs T k) → VRs σ vs vs' → SR σ T tmps → tmps.size = nt →
    ∃ T', G (k T') ∧ vs'.length = ps.length ∧ SR σ T' ((ps.zip vs').foldl (fun tmps x => tmps.setIfInBounds x.1 x.2) tmps) ∧ ((ps.zip vs').foldl (fun (tmps : Array Value) x => tmps.setIfInBounds x.1 x.2) tmps).size = nt
  | [], .nil, T, k, vs', tmps, hg, hv, hs, hz => by
    simp only [VRs] at hv
    subst hv
    exact ⟨T, hg, rfl, hs, hz⟩
  | p :: ps, .cons v vs, T, k, vs', tmps, hg, hv, hs, hz => by
    simp only [VRs] at hv
    obtain ⟨u, m, rfl, h1, h2⟩ := hv
    simp only [fillT] at hg
    cases hb : Nat.ble (Nat.succ p) nt with
    | false => rw [hb] at hg; exact absurd hg hf
    | true =>
      rw [hb] at hg
      obtain ⟨T1, hT, hg⟩ := Tr.put_spec hf _ _ _ _ hg
      have hp : p < tmps.size := by rw [hz]; exact Nat.le_of_ble_eq_true hb
      have hs1 : SR σ T1 (tmps.setIfInBounds p u) := fun i => by
        rw [hT]
        by_cases e : i = p
        · subst e
          rw [if_pos rfl]
          simp only [Option.getD_some]
          have : (tmps.setIfInBounds i u).getD i undef = u := by simp [hp]
          rw [this]; exact h1
        · rw [if_neg e]
          have : (tmps.setIfInBounds p u).getD i undef = tmps.getD i undef := by
            simp only [Array.getD_eq_getD_getElem?, Array.getElem?_setIfInBounds]
            rw [if_neg (fun h => e h.symm)]
          rw [this]; exact hs i
      obtain ⟨T', g1, g2, g3, g4⟩ := fillT_spec hg h2 hs1 (by simp [hz])
      exact ⟨T', g1, by simp [g2], g3, g4⟩
  | [], .cons _ _, T, k, vs', tmps, hg, _, _, _ => absurd hg hf
  | _ :: _, .nil, T, k, vs', tmps, hg, _, _, _ => absurd hg hf

omit hf in
theorem stN_ready {s : LoopState} (h : stN s = 0) : s = .ready := by cases s <;> first | rfl | cases h

omit hf in
theorem ER.filter {σ : Sg} {p : Nat → Bool} : ∀ {l : List (EV × EV × Nat)} {m : List MapEntry}, ER σ l m → ER σ (l.filter fun e => p e.2.2) (m.filter fun e => p e.born)
  | [], _, h => by simp only [ER] at h; subst h; exact rfl
  | (a, v, b) :: l, m, ⟨x, r, e, h1, h2, h3, h4⟩ => by
    subst e
    subst h3
    simp only [List.filter_cons]
    cases p x.born with
    | true => exact ⟨x, _, rfl, h1, h2, rfl, ER.filter h4⟩
    | false => exact ER.filter h4
omit hf in
theorem ER.mem {σ : Sg} : ∀ {l : List (EV × EV × Nat)} {m : List MapEntry}, ER σ l m → ∀ x ∈ m, ∃ e ∈ l, VR σ e.1 x.key ∧ VR σ e.2.1 x.val ∧ x.born = e.2.2
  | [], _, h, x, hx => by simp only [ER] at h; subst h; cases hx
  | (a, v, b) :: l, m, ⟨y, r, e, h1, h2, h3, h4⟩, x, hx => by
    subst e
    cases hx with
    | head => exact ⟨(a, v, b), List.mem_cons_self .., h1, h2, h3⟩
    | tail _ hx =>
      obtain ⟨e, q1, q2⟩ := h4.mem x hx
      exact ⟨e, List.mem_cons_of_mem _ q1, q2⟩
omit hf in
theorem inL_eq (n : Nat) : ∀ l : List Nat, inL n l = l.contains n
  | [] => rfl
  | m :: l => by
    simp only [inL, List.contains_cons, inL_eq n l]
    have : Nat.beq m n = (n == m) := by rw [Bool.eq_iff_iff]; simp; exact eq_comm
    rw [this]
    cases n == m <;> rfl
omit hf in
theorem nextE_spec {join : β → β → β} (hj : ∀ x y, G (join x y) → G x ∧ G y) {one : (EV × EV × Nat) → β} : ∀ {l : List (EV × EV × Nat)}, G (nextE fail join one l) → ∀ e ∈ l, G (one e)
  | [], h, e, he => by cases he
  | [x], h, e, he => by
    cases he with
    | head => exact h
    | tail _ he => cases he
  | x :: y :: l, h, e, he => by
    obtain ⟨h1, h2⟩ := hj _ _ h
    cases he with
    | head => exact h1
    | tail _ he => exact nextE_spec hj h2 e he
omit hf in
theorem ER.born {σ : Sg} {n : Nat} : ∀ {l : List (EV × EV × Nat)} {m : List MapEntry} {e : EV × EV}, ER σ l m → findBorn n l = some e → ∃ x, m.find? (fun x => x.born == n) = some x ∧ VR σ e.1 x.key ∧ VR σ e.2 x.val
  | [], _, _, _, h => by simp only [findBorn] at h; cases h
  | (a, v, b) :: l, m, e, ⟨x, r, he, h1, h2, h3, h4⟩, h => by
    subst he
    simp only [findBorn] at h
    rw [List.find?_cons]
    have hb : (x.born == n) = Nat.beq b n := by rw [h3, Bool.eq_iff_iff]; simp
    rw [hb]
    cases hq : Nat.beq b n with
    | true =>
      rw [hq] at h
      simp only [cond_true, Option.some.injEq] at h
      subst h
      exact ⟨x, rfl, h1, h2⟩
    | false =>
      rw [hq] at h
      exact h4.born h

/-- YIELD, called: a round -/
theorem yieldE_spec {self : CodeFn} (hS : SoundC P tab self) {join : β → β → β} (hj : ∀ x y, G (join x y) → G x ∧ G y) {fl b : Nat} {args : EVs} {h : Tr EO} {nx : Nat} {k : EV → Tr EO → Nat → β} {σ : Sg} {w : World} {args' : Array Value} {loc : Loc}
    (hg : G (yieldE self fail join fl b args h nx k)) (ha : VRs σ args args'.toList) (hloc : σ b = some loc) (hgl : GlOk tab σ) (H : Holds σ h w) (F : Fresh σ nx) (hfl : fl ≤ nx) :
    ∃ f tmps as body, (Instr.yield loc.blk args').run P w = .ok (.round loc.blk f tmps as body) w ∧ RoundIn Fence.wide 0 P loc.blk f tmps as body w fun e w' => ∃ v', e = .returned v' ∧ ∃ v h' nx' σ', VR σ' v v' ∧ Post fl σ h nx w σ' h' nx' w' ∧ G (k v h' nx') := by
  unfold yieldE at hg
  split at hg
  · rename_i pend nt T ps as body hb
    obtain ⟨l', ob, e1, e2, e3⟩ := H.there b _ hb
    rw [hloc] at e1; cases e1
    obtain ⟨r, rfl, r1, r2, r3, r4, r5, r6, r7⟩ := e3
    obtain ⟨T1, hg, f1, f2, f3⟩ := fillT_spec hf hg ha r7 r3
    have hsz : args'.size = r.params.size := by
      rw [← r4] at f1; simpa using f1
    have hfold : (r.params.zip args').foldl (fun tmps (x : Tmp × Value) => tmps.setIfInBounds x.1 x.2) r.tmps = (ps.zip args'.toList).foldl (fun tmps x => tmps.setIfInBounds x.1 x.2) r.tmps := by
      rw [← Array.foldl_toList, Array.toList_zip, r4]
    refine ⟨r.fn, (r.params.zip args').foldl (fun tmps (x : Tmp × Value) => tmps.setIfInBounds x.1 x.2) r.tmps, r.assign, r.body, ?_, ?_⟩
    · simp only [Instr.yield, Instr.getLoop, Sem.run_bind, run_getObj e2 (fun _ _ _ h => by cases h), Result.andThen_ok, Sem.run_pure, hsz, ne_eq, not_true_eq_false, if_false]
    · rw [r5, r6]
      refine roundIn_of_wpIn (F := Fence.wide) (n := 0) trivial ?_
      have hTR : TRel σ ⟨T1, [], some b⟩ nt { tmps := (r.params.zip args').foldl (fun tmps (x : Tmp × Value) => tmps.setIfInBounds x.1 x.2) r.tmps, defers := [] } := ⟨rfl, by rw [hfold]; exact f3, fun i => by rw [hfold]; exact f2 i⟩
      have h1 := hS β fail join G hf hj nt fl as ⟨T1, [], some b⟩ h nx _ σ _ w (some loc.blk) hg hTR (fun e => by cases e) hgl H F hfl
      refine Code.wpIn_mono (fun e a1 w1 hr => ?_) h1
      obtain ⟨ex, F1, H1, nx1, σ1, q1, q2, q3, q4, q5⟩ := hr
      cases ex with
      | exit i => exact absurd q2 hf
      | ret => exact absurd q2 hf
      | normal =>
        cases e <;> try exact q1.elim
        simp only at q2
        split at q2
        · rename_i pend1 nt1 T1' ps1 as1 body1 hb1
          obtain ⟨hflb, h2, hp2, q2⟩ := setB_spec hf q2
          obtain ⟨l1, ob1, c1, c2, c3⟩ := q5.holds.there b _ hb1
          have hl1 : l1 = loc := by rw [q5.le b loc hloc] at c1; exact (Option.some.inj c1).symm
          subst hl1
          obtain ⟨s, rfl, s1, s2, s3, s4, s5, s6, s7⟩ := c3
          have hsr := stN_ready s1
          have hpost2 : Post fl σ1 H1 nx1 w1 σ1 h2 nx1 { w1 with heap := w1.heap.setIfInBounds l1.blk (.loop { s with state := .busy }) } :=
            Post.mk_obj q5.holds q5.fresh hflb (isSomeOf hb1) c1 c2 hp2 ⟨_, rfl, rfl, s2, s3, s4, s5, s6, s7⟩
          refine ⟨{ w1 with heap := w1.heap.setIfInBounds l1.blk (.loop { s with state := .busy }) }, ?_, ?_⟩
          · simp only [Instr.beginRound, Instr.getLoop, Sem.run_bind, run_getObj c2 (fun _ _ _ h => by cases h), Result.andThen_ok, Sem.run_pure, run_setObj c2 (fun _ _ _ h => by cases h), hsr]
          · have hpost02 := q5.trans hpost2
            have h3 := hS β fail join G hf hj nt fl body F1 h2 nx1 _ σ1 a1 _ (some l1.blk) q2 q3 (fun e => by rw [q4] at e; cases e) (hgl.mono hpost02.le) hpost2.holds hpost2.fresh (Nat.le_trans hfl hpost02.nxle)
            refine Code.wpIn_mono (fun e a3 w3 hr => ?_) h3
            obtain ⟨ex, F3, H3, nx3, σ3, p1, p2, p3, p4, p5⟩ := hr
            have fin : ∀ jump : Option Code, jump = jumpOf ex → ∃ v w', (Instr.endRound l1.blk jump).run P w3 = .ok v w' ∧ ∃ v', Ending.returned v = .returned v' ∧ ∃ v h' nx' σ', VR σ' v v' ∧ Post fl σ h nx w σ' h' nx' w' ∧ G (k v h' nx') := by
              intro jump hjump
              split at p2
              · split at p2
                · rename_i st5 pend5 nt5 T5 ps5 as5 body5 hb5
                  obtain ⟨hflb5, h5, hp5, p2⟩ := setB_spec hf p2
                  obtain ⟨l5, ob5, d1, d2, d3⟩ := p5.holds.there b _ hb5
                  have hl5 : l5 = l1 := by rw [p5.le b l1 c1] at d1; exact (Option.some.inj d1).symm
                  subst hl5
                  obtain ⟨u, rfl, u1, u2, u3, u4, u5, u6, u7⟩ := d3
                  have hpost5 : Post fl σ3 H3 nx3 w3 σ3 h5 nx3 { w3 with heap := w3.heap.setIfInBounds l5.blk (.loop { u with state := if jump.isNone then .ready else .done, pending := jump }) } :=
                    Post.mk_obj p5.holds p5.fresh hflb5 (isSomeOf hb5) d1 d2 hp5 ⟨_, rfl, by subst hjump; cases ex <;> rfl, hjump, u3, u4, u5, u6, u7⟩
                  refine ⟨.bool jump.isNone, _, ?_, _, rfl, _, h5, nx3, σ3, ?_, (hpost02.trans p5).trans hpost5, p2⟩
                  · simp only [Instr.endRound, Instr.getLoop, Sem.run_bind, run_getObj d2 (fun _ _ _ h => by cases h), Result.andThen_ok, Sem.run_pure, run_setObj d2 (fun _ _ _ h => by cases h)]
                  · subst hjump
                    simp only [VR]
                    cases ex <;> rfl
                · exact absurd p2 hf
              · exact absurd p2 hf
            cases ex with
            | normal => cases e <;> first | exact p1.elim | exact fin none rfl
            | ret => cases e <;> first | exact p1.elim | exact fin (some .ret) rfl
            | exit i =>
              cases e <;> first | exact p1.elim | skip
              rename_i j
              have : i = j := p1
              subst this
              exact fin (some (.exit i)) rfl
        · exact absurd q2 hf
  · exact absurd hg hf

/-- A RANGE OVER A FUNCTION -/
theorem rangeE_spec (hT : TabOk P tab) {self : CodeFn} (hS : SoundC P tab self) {join : β → β → β} (hj : ∀ x y, G (join x y) → G x ∧ G y) {nt fl : Nat} {g : Operand} {ps : Array Nat} {as body : Code} {T : Fr} {h : Tr EO} {nx : Nat} {k : Ex → Fr → Tr EO → Nat → β} {σ : Sg} {a : Act} {w : World} {r : Option Nat}
    (hg : G (rangeE tab self fail join nt fl g ps as body T h nx k)) (HT : TRel σ T nt a) (hr : T.ro = none → r = none) (hgl : GlOk tab σ) (H : Holds σ h w) (F : Fresh σ nx) (hfl : fl ≤ nx) :
    (Code.rangeFunc g ps as body).wpIn (WF r) 0 P (fun e a' w' => ∃ ex T' h' nx' σ', ExR ex e ∧ G (k ex T' h' nx') ∧ TRel σ' T' nt a' ∧ T'.ro = T.ro ∧ Post fl σ h nx w σ' h' nx' w') a w := by
  unfold rangeE at hg
  split at hg
  · exact absurd hg hf
  · rename_i hro
    have hrn := hr hro
    subst hrn
    obtain ⟨v, hg, hv⟩ := evx_spec (a := a) hf hg (HT.op g) hgl
    cases v with
    | func f first cap =>
      simp only at hg
      cases hfn : tab.fn.get f with
      | none => simp only [hfn] at hg; exact absurd hg hf
      | some fn0 =>
        simp only [hfn] at hg
        simp only [VR] at hv
        obtain ⟨x, y, hev, hx, hy⟩ := hv
        simp only [newB] at hg
        obtain ⟨h1, hp1, hg⟩ := Tr.put_spec hf _ _ _ _ hg
        obtain ⟨h2, hp2, hg⟩ := Tr.put_spec hf _ _ _ _ hg
        refine wpIn_rangeFunc fun fn _ => ?_
        have post1 : Post fl σ h nx w (upd σ nx ⟨w.heap.size, 0, 0⟩) h1 (Nat.succ nx) (w.alloc (.deferred (some []))) := Post.mk_new H F hfl hp1 rfl rfl rfl rfl rfl
        have post2 : Post fl (upd σ nx ⟨w.heap.size, 0, 0⟩) h1 (Nat.succ nx) (w.alloc (.deferred (some []))) (upd (upd σ nx ⟨w.heap.size, 0, 0⟩) (Nat.succ nx) ⟨(w.alloc (.deferred (some []))).heap.size, 0, 0⟩) h2 (Nat.succ (Nat.succ nx))
            ((w.alloc (.deferred (some []))).alloc (.loop { state := .ready, pending := none, fn, tmps := a.tmps, params := ps, assign := as, body, defers := w.heap.size })) := by
          refine Post.mk_new post1.holds post1.fresh (Nat.le_trans hfl (Nat.le_succ _)) hp2 rfl rfl rfl rfl ⟨_, rfl, rfl, rfl, HT.size, rfl, rfl, rfl, fun i => ?_⟩
          exact ((HT.at_ i).mono post1.le).mono (Le.upd (post1.fresh _ (Nat.le_refl _)) _)
        have post12 := post1.trans post2
        have hyld : VR (upd (upd σ nx ⟨w.heap.size, 0, 0⟩) (Nat.succ nx) ⟨(w.alloc (.deferred (some []))).heap.size, 0, 0⟩) (.yld (Nat.succ nx)) (.func (.yield (w.alloc (.deferred (some []))).heap.size) #[] #[]) := by
          simp only [VR]; exact ⟨_, upd_same _ _ _, rfl⟩
        have hargs : VRs (upd (upd σ nx ⟨w.heap.size, 0, 0⟩) (Nat.succ nx) ⟨(w.alloc (.deferred (some []))).heap.size, 0, 0⟩) ((first.app (.cons (.yld (Nat.succ nx)) .nil)).app cap) (x ++ #[Value.func (.yield (w.alloc (.deferred (some []))).heap.size) #[] #[]] ++ y).toList := by
          have := ((hx.mono post12.le).app (VRs.cons hyld VRs.nil)).app (hy.mono post12.le)
          simpa using this
        obtain ⟨hcf, hcall⟩ := callE_enter hf hT hS hj hfn hg hargs (hgl.mono post12.le) post2.holds post2.fresh (Nat.le_trans hfl post12.nxle)
        refine ⟨(w.alloc (.deferred (some []))).heap.size, [{ target := .collected w.heap.size, args := #[] }], ((w.alloc (.deferred (some []))).alloc (.loop { state := .ready, pending := none, fn, tmps := a.tmps, params := ps, assign := as, body, defers := w.heap.size })), { target := .fn (.func f) y, args := x ++ #[Value.func (.yield (w.alloc (.deferred (some []))).heap.size) #[] #[]] }, ((w.alloc (.deferred (some []))).alloc (.loop { state := .ready, pending := none, fn, tmps := a.tmps, params := ps, assign := as, body, defers := w.heap.size })), f, x ++ #[Value.func (.yield (w.alloc (.deferred (some []))).heap.size) #[] #[]] ++ y, ((w.alloc (.deferred (some []))).alloc (.loop { state := .ready, pending := none, fn, tmps := a.tmps, params := ps, assign := as, body, defers := w.heap.size })), ?_, ?_, fun _ _ => trivial, ?_, (fun h => by cases h), callsIn_WF (hcall.mono fun e w3 ⟨v', he, v, h3, nx3, σ3, hv3, hp3, hg3⟩ => ?_)⟩
        · show (Instr.enterLoop fn a.tmps ps as body none).run P w = _
          simp [Instr.enterLoop, newObj, Sem.run]
        · simp only [resolve, hev, Deferred.ofValue, Sem.run_pure]
          simp [Act.eval]
        · simp only [invoke, hcf]
        · subst he
          simp only [rangePost]
          unfold endLoopE at hg3
          split at hg3
          · rename_i st pend nt' T' ps' as' body' hb
            cases hst : Nat.beq st 1 with
            | true => rw [hst] at hg3; exact absurd hg3 hf
            | false =>
              rw [hst] at hg3
              simp only [cond_false] at hg3
              split at hg3
              · rename_i ex hex
                obtain ⟨hflb, h4, hp4, hg4⟩ := setB_spec hf hg3
                clear hg3
                obtain ⟨l4, ob4, d1, d2, d3⟩ := hp3.holds.there _ _ hb
                have hl4 : l4 = ⟨(w.alloc (.deferred (some []))).heap.size, 0, 0⟩ := by rw [hp3.le _ _ (upd_same _ _ _)] at d1; exact (Option.some.inj d1).symm
                subst hl4
                obtain ⟨u, rfl, u1, u2, u3, u4, u5, u6, u7⟩ := d3
                have hpost4 : Post fl σ3 h3 nx3 w3 σ3 h4 nx3 { w3 with heap := w3.heap.setIfInBounds (w.alloc (.deferred (some []))).heap.size (.loop { u with state := .exhausted }) } :=
                  Post.mk_obj hp3.holds hp3.fresh hflb (isSomeOf hb) d1 d2 hp4 ⟨_, rfl, rfl, u2, u3, u4, u5, u6, u7⟩
                have hbusy : (u.state == LoopState.busy) = false := by
                  cases hs : u.state <;> first | rfl | (rw [hs] at u1; subst u1; cases hst)
                have hall := (post12.trans hp3).trans hpost4
                have hTR : TRel σ3 ⟨T.T, nx :: T.D, none⟩ nt { a with defers := [{ target := .collected w.heap.size, args := #[] }] ++ a.defers } := by
                  have hn : σ3 nx = some ⟨w.heap.size, 0, 0⟩ := hp3.le _ _ (by rw [upd_other _ _ (by omega)]; exact upd_same _ _ _)
                  exact ⟨⟨_, _, hn, rfl, HT.defers.mono (post12.le.trans hp3.le)⟩, HT.size, fun i => (HT.at_ i).mono (post12.le.trans hp3.le)⟩
                refine ⟨u.pending, { w3 with heap := w3.heap.setIfInBounds (w.alloc (.deferred (some []))).heap.size (.loop { u with state := .exhausted }) }, ?_, ?_⟩
                · simp only [Instr.endLoop, Instr.getLoop, Sem.run_bind, run_getObj d2 (fun _ _ _ h => by cases h), Result.andThen_ok, Sem.run_pure, hbusy, Bool.false_eq_true, if_false, run_setObj d2 (fun _ _ _ h => by cases h)]
                · have key : ∀ (pj : Option Code) (W4 : World), jumpEx pj = some ex → Post fl σ h nx w σ3 h4 nx3 W4 → (match pj with
                    | none => (fun (e : Exit) (a' : Act) (w' : World) => ∃ ex T' h' nx' σ', ExR ex e ∧ G (k ex T' h' nx') ∧ TRel σ' T' nt a' ∧ T'.ro = T.ro ∧ Post fl σ h nx w σ' h' nx' w') Exit.normal { a with defers := [{ target := .collected w.heap.size, args := #[] }] ++ a.defers } W4
                    | some c => c.wpIn (WF none) 0 P (fun (e : Exit) (a' : Act) (w' : World) => ∃ ex T' h' nx' σ', ExR ex e ∧ G (k ex T' h' nx') ∧ TRel σ' T' nt a' ∧ T'.ro = T.ro ∧ Post fl σ h nx w σ' h' nx' w') { a with defers := [{ target := .collected w.heap.size, args := #[] }] ++ a.defers } W4) := by
                    intro pj W4 hex hW4
                    unfold jumpEx at hex
                    split at hex
                    · cases hex
                      exact ⟨.normal, _, h4, nx3, σ3, trivial, hg4, hTR, hro.symm, hW4⟩
                    · cases hex
                      exact wpIn_exit ⟨.exit _, _, h4, nx3, σ3, rfl, hg4, hTR, hro.symm, hW4⟩
                    · cases hex
                      exact wpIn_ret ⟨.ret, _, h4, nx3, σ3, trivial, hg4, hTR, hro.symm, hW4⟩
                    · cases hex
                  exact key u.pending _ (by rw [u2]; exact hex) hall
              · exact absurd hg3 hf
          · exact absurd hg3 hf
    | _ => exact absurd hg hf
end

section
variable {P : Program} {tab : Tab} {β : Type} {fail : β} {G : β → Prop} (hf : ¬ G fail) (hT : TabOk P tab)
include hf hT
theorem evOp_flow {self : CodeFn} (hS : SoundC P tab self) {join : β → β → β} (hj : ∀ x y, G (join x y) → G x ∧ G y) {fl : Nat} {o : Oper} {T : Fr} {h : Tr EO} {nx : Nat} {k : EV → Tr EO → Nat → β} {σ : Sg} {a : Act} {w : World}
    (hg : G (evOp tab self fail join fl o T h nx k)) (hops : ∀ x ∈ o.op.operands.toList, OpRel σ T a x) (hgl : GlOk tab σ) (H : Holds σ h w) (F : Fresh σ nx) (hfl : fl ≤ nx) :
    Oper.flow P o a w fun v' w' => ∃ v h' nx' σ', VR σ' v v' ∧ Post fl σ h nx w σ' h' nx' w' ∧ G (k v h' nx') := by
  have stay : ∀ (e : EV) (e' : Value), (execOp a.eval o).run P w = .ok (.value e') w → VR σ e e' → G (k e h nx) → Oper.flow P o a w fun v' w' => ∃ v h' nx' σ', VR σ' v v' ∧ Post fl σ h nx w σ' h' nx' w' ∧ G (k v h' nx') :=
    fun e e' h1 h2 h3 => flow_value h1 ⟨e, h, nx, σ, h2, Post.refl H F, h3⟩
  unfold evOp at hg
  cases hop : o.op with
  | move x =>
    simp only [hop] at hg hops
    obtain ⟨v, hg, hv⟩ := evx_spec hf hg (hops x (by simp [Op.operands])) hgl
    exact stay v _ (by simp only [execOp, hop, Sem.run_pure]) hv hg
  | assign x =>
    simp only [hop] at hg hops
    obtain ⟨v, hg, hv⟩ := evx_spec hf hg (hops x (by simp [Op.operands])) hgl
    exact stay v _ (by simp only [execOp, hop, Sem.run_pure]) hv hg
  | pick c x y =>
    simp only [hop] at hg hops
    obtain ⟨vc, hg, hc⟩ := evx_spec hf hg (hops c (by simp [Op.operands])) hgl
    split at hg
    · rename_i b
      obtain ⟨vx, hg, hx⟩ := evx_spec hf hg (hops x (by simp [Op.operands])) hgl
      obtain ⟨vy, hg, hy⟩ := evx_spec hf hg (hops y (by simp [Op.operands])) hgl
      simp only [VR] at hc
      refine stay _ (if b then a.eval x else a.eval y) ?_ ?_ hg
      · simp only [execOp, hop, hc, asBool, Sem.run_bind, Sem.run_pure, Result.andThen_ok]
      · cases b
        · exact hy
        · exact hx
    · exact absurd hg hf
  | alloc e =>
    simp only [hop] at hg hops
    obtain ⟨v, h', nx', σ', v', w', h1, h2, h3, h4⟩ := allocE_spec hf hT hg H F hfl
    exact flow_value (by simp only [execOp, hop, Sem.run_bind, h1, Result.andThen_ok, Sem.run_pure]) ⟨v, h', nx', σ', h2, h3, h4⟩
  | box e x =>
    simp only [hop] at hg hops
    obtain ⟨vx, hg, hx⟩ := evx_spec hf hg (hops x (by simp [Op.operands])) hgl
    obtain ⟨v, h', nx', σ', v', w', h1, h2, h3, h4⟩ := boxE_spec (P := P) (t := e) hf hg hx H F hfl
    exact flow_value (by simp only [execOp, hop, Sem.run_bind, h1, Result.andThen_ok, Sem.run_pure]) ⟨v, h', nx', σ', h2, h3, h4⟩
  | build t ps =>
    simp only [hop] at hg hops
    obtain ⟨ps', hg, hps⟩ := evParts_spec (a := a) (σ := σ) hf hgl hg (fun x hx => hops x.2 (by simp [Op.operands]; exact ⟨x.1, by simpa using hx⟩))
    obtain ⟨e, e', h1, h2, h3⟩ := buildE_spec (w := w) (ps' := ps.map fun (i, x) => (i, a.eval x)) hf hT hg (by simpa using hps)
    exact stay e e' (by simp only [execOp, hop, Sem.run_bind, h1, Result.andThen_ok, Sem.run_pure]) h2 h3
  | buildSlice t len ps =>
    simp only [hop] at hg hops
    obtain ⟨ps', hg, hps⟩ := evParts_spec (a := a) (σ := σ) hf hgl hg (fun x hx => hops x.2 (by simp [Op.operands]; exact ⟨x.1, by simpa using hx⟩))
    obtain ⟨v, h', nx', σ', v', w', h1, h2, h3, h4⟩ := buildSliceE_spec (ps' := ps.map fun (i, x) => (i, a.eval x)) hf hT hg (by simpa using hps) H F hfl
    exact flow_value (by simp only [execOp, hop, Sem.run_bind, h1, Result.andThen_ok, Sem.run_pure]) ⟨v, h', nx', σ', h2, h3, h4⟩
  | load t x =>
    simp only [hop] at hg hops
    obtain ⟨vx, hg, hx⟩ := evx_spec hf hg (hops x (by simp [Op.operands])) hgl
    obtain ⟨e, ad, e', h1, h2, h3, h4⟩ := loadE_spec hf hT hg hx H
    exact stay e e' (by simp only [execOp, hop, Instr.loadAt, h1, Instr.sureAddr, Sem.run_bind, Sem.run_pure, h2, Result.andThen_ok]) h3 h4
  | store t x y =>
    simp only [hop] at hg hops
    obtain ⟨vx, hg, hx⟩ := evx_spec hf hg (hops x (by simp [Op.operands])) hgl
    obtain ⟨vy, hg, hy⟩ := evx_spec hf hg (hops y (by simp [Op.operands])) hgl
    obtain ⟨h', w', h1, h2, h3⟩ := storeE_spec hf hT hg hx hy H F
    exact flow_skip (by simp only [execOp, hop, Sem.run_bind, h1, Result.andThen_ok, Sem.run_pure]) ⟨_, h', nx, σ, undefE_spec σ, h2, h3⟩
  | nilCheck x =>
    simp only [hop] at hg hops
    obtain ⟨vx, hg, hx⟩ := evx_spec hf hg (hops x (by simp [Op.operands])) hgl
    obtain ⟨e, e', h1, h2, h3⟩ := nilCheckE_spec (P := P) (w := w) hf hop hg hx
    exact stay e e' h1 h2 h3
  | binOp op t x y yt =>
    simp only [hop] at hg hops
    obtain ⟨vx, hg, hx⟩ := evx_spec hf hg (hops x (by simp [Op.operands])) hgl
    obtain ⟨vy, hg, hy⟩ := evx_spec hf hg (hops y (by simp [Op.operands])) hgl
    obtain ⟨e, e', h1, h2, h3⟩ := binO_spec (P := P) (xo := x) (yo := y) (w := w) hf hT hg hx hy
    refine stay e e' ?_ h2 h3
    simp only [execOp, hop]
    rw [Sem.run_bind, h1]
    rfl
  | unOp op t x =>
    simp only [hop] at hg hops
    obtain ⟨vx, hg, hx⟩ := evx_spec hf hg (hops x (by simp [Op.operands])) hgl
    obtain ⟨e, e', h1, h2, h3⟩ := unE_spec (P := P) (w := w) hf hg hx
    exact stay e e' (by simp only [execOp, hop, Sem.run_bind, h1, Result.andThen_ok, Sem.run_pure]) h2 h3
  | convert src dst x =>
    simp only [hop] at hg hops
    obtain ⟨vx, hg, hx⟩ := evx_spec hf hg (hops x (by simp [Op.operands])) hgl
    cases hcv : cvB tab (.convert src dst x) with
    | true =>
      rw [hcv] at hg
      simp only [cond_true] at hg
      split at hg
      · simp only [VR] at hx
        obtain ⟨v, h', nx', σ', v', w', h1, h2, h3, h4⟩ := toBytesE_spec (P := P) hf hT hg H F hfl
        exact flow_value (by simp only [execOp, hop, hx, Sem.run_bind, h1, Result.andThen_ok, Sem.run_pure]) ⟨v, h', nx', σ', h2, h3, h4⟩
      · obtain ⟨h', w', h1, h2, h3⟩ := markE_spec (P := P) hf hT hg hx H F
        exact flow_value (by simp only [execOp, hop, Sem.run_bind, h1, Result.andThen_ok, Sem.run_pure]) ⟨_, h', nx, σ, hx, h2, h3⟩
    | false =>
      rw [hcv] at hg
      simp only [cond_false] at hg
      split at hg
      · obtain ⟨e, e', h1, h2, h3⟩ := toStrE_spec (P := P) hf hT hg hx H
        exact stay e e' (by simp only [execOp, hop, Sem.run_bind, h1, Result.andThen_ok, Sem.run_pure]) h2 h3
      · obtain ⟨e, e', h1, h2, h3⟩ := toStrE_spec (P := P) hf hT hg hx H
        exact stay e e' (by simp only [execOp, hop, Sem.run_bind, h1, Result.andThen_ok, Sem.run_pure]) h2 h3
      · obtain ⟨e, e', h1, h2, h3⟩ := convE_spec (P := P) (w := w) hf hT hg hx
        exact stay e e' (by simp only [execOp, hop, Sem.run_bind, h1, Result.andThen_ok, Sem.run_pure]) h2 h3
  | makeFunc fn first cap =>
    simp only [hop] at hg hops
    cases fn with
    | func f =>
      simp only at hg
      obtain ⟨v1, hg, q1⟩ := evxs_spec (a := a) (σ := σ) hf hgl hg (fun x hx => hops x (by simp [Op.operands]; exact .inl (by simpa using hx)))
      obtain ⟨v2, hg, q2⟩ := evxs_spec (a := a) (σ := σ) hf hgl hg (fun x hx => hops x (by simp [Op.operands]; exact .inr (by simpa using hx)))
      refine stay _ (.func (.func f) (first.map a.eval) (cap.map a.eval)) ?_ ?_ hg
      · simp only [execOp, hop, Instr.makeFunc, Sem.run_bind, Sem.run_pure, Result.andThen_ok]
      · simp only [VR]; exact ⟨_, _, rfl, by simpa using q1, by simpa using q2⟩
    | _ => exact absurd hg hf
  | makeMap t r =>
    simp only [hop] at hg hops
    cases r with
    | some _ => exact absurd hg hf
    | none =>
      simp only [newB] at hg
      obtain ⟨h', hp, hg⟩ := Tr.put_spec hf _ _ _ _ hg
      refine flow_value (v := .map (some w.heap.size)) (w' := w.alloc (.map #[] 0)) ?_ ⟨_, h', Nat.succ nx, upd σ nx ⟨w.heap.size, 0, 0⟩, ?_, ?_, hg⟩
      · simp [execOp, hop, Instr.makeMap, newObj, Sem.run]
      · simp only [VR]; exact ⟨_, upd_same _ _ _, rfl⟩
      · exact Post.mk_new H F hfl hp rfl rfl rfl rfl ⟨#[], rfl, by simp [ER]⟩
  | makeSlice t l c =>
    simp only [hop] at hg hops
    obtain ⟨vl, hg, hl⟩ := evx_spec hf hg (hops l (by simp [Op.operands])) hgl
    obtain ⟨vc, hg, hc⟩ := evx_spec hf hg (hops c (by simp [Op.operands])) hgl
    obtain ⟨v, h', nx', σ', v', w', h1, h2, h3, h4⟩ := makeSliceE_spec hf hT hg hl hc H F hfl
    exact flow_value (by simp only [execOp, hop, Sem.run_bind, h1, Result.andThen_ok, Sem.run_pure]) ⟨v, h', nx', σ', h2, h3, h4⟩
  | slice t x lo hi mx =>
    simp only [hop] at hg hops
    obtain ⟨vx, hg, hx⟩ := evx_spec hf hg (hops x (by simp [Op.operands])) hgl
    obtain ⟨v1, hg, q1⟩ := evOpt_spec (a := a) (σ := σ) hf hg (fun y hy => hops y (by subst hy; simp [Op.operands])) hgl
    obtain ⟨v2, hg, q2⟩ := evOpt_spec (a := a) (σ := σ) hf hg (fun y hy => hops y (by subst hy; simp [Op.operands])) hgl
    obtain ⟨v3, hg, q3⟩ := evOpt_spec (a := a) (σ := σ) hf hg (fun y hy => hops y (by subst hy; simp [Op.operands])) hgl
    obtain ⟨e, e', h1, h2, h3⟩ := sliceE_spec hf hT hg hx q1 q2 q3 H
    exact stay e e' (by simp only [execOp, hop, Sem.run_bind, h1, Result.andThen_ok, Sem.run_pure]) h2 h3
  | fieldAddr s x f =>
    simp only [hop] at hg hops
    obtain ⟨vx, hg, hx⟩ := evx_spec hf hg (hops x (by simp [Op.operands])) hgl
    obtain ⟨e, e', h1, h2, h3⟩ := fieldAddrE_spec (w := w) hf hT hg hx
    exact stay e e' (by simp only [execOp, hop, Sem.run_bind, h1, Result.andThen_ok, Sem.run_pure]) h2 h3
  | field s x f =>
    simp only [hop] at hg hops
    obtain ⟨vx, hg, hx⟩ := evx_spec hf hg (hops x (by simp [Op.operands])) hgl
    obtain ⟨e, e', h1, h2, h3⟩ := fieldE_spec (w := w) hf hT hg hx
    exact stay e e' (by simp only [execOp, hop, Sem.run_bind, h1, Result.andThen_ok, Sem.run_pure]) h2 h3
  | indexAddr t x i =>
    simp only [hop] at hg hops
    obtain ⟨vx, hg, hx⟩ := evx_spec hf hg (hops x (by simp [Op.operands])) hgl
    obtain ⟨vi, hg, hi⟩ := evx_spec hf hg (hops i (by simp [Op.operands])) hgl
    obtain ⟨e, e', h1, h2, h3⟩ := indexAddrE_spec (w := w) hf hT hg hx hi
    exact stay e e' (by simp only [execOp, hop, Sem.run_bind, h1, Result.andThen_ok, Sem.run_pure]) h2 h3
  | index t x i =>
    simp only [hop] at hg hops
    obtain ⟨vx, hg, hx⟩ := evx_spec hf hg (hops x (by simp [Op.operands])) hgl
    obtain ⟨vi, hg, hi⟩ := evx_spec hf hg (hops i (by simp [Op.operands])) hgl
    obtain ⟨e, e', h1, h2, h3⟩ := indexE_spec (w := w) hf hT hg hx hi
    exact stay e e' (by simp only [execOp, hop, Sem.run_bind, h1, Result.andThen_ok, Sem.run_pure]) h2 h3
  | lookup t x i ok =>
    simp only [hop] at hg hops
    obtain ⟨vx, hg, hx⟩ := evx_spec hf hg (hops x (by simp [Op.operands])) hgl
    obtain ⟨vi, hg, hi⟩ := evx_spec hf hg (hops i (by simp [Op.operands])) hgl
    obtain ⟨e, e', h1, h2, h3⟩ := lookupE_spec hf hT hg hx hi H
    exact stay e e' (by simp only [execOp, hop, Sem.run_bind, h1, Result.andThen_ok, Sem.run_pure]) h2 h3
  | mapUpdate t m i y =>
    simp only [hop] at hg hops
    obtain ⟨vm, hg, hm⟩ := evx_spec hf hg (hops m (by simp [Op.operands])) hgl
    obtain ⟨vi, hg, hi⟩ := evx_spec hf hg (hops i (by simp [Op.operands])) hgl
    obtain ⟨vy, hg, hy⟩ := evx_spec hf hg (hops y (by simp [Op.operands])) hgl
    obtain ⟨h', w', h1, h2, h3⟩ := mapUpdateE_spec hf hT hg hm hi hy H F
    exact flow_skip (by simp only [execOp, hop, Sem.run_bind, h1, Result.andThen_ok, Sem.run_pure]) ⟨_, h', nx, σ, undefE_spec σ, h2, h3⟩
  | insert t m i y =>
    simp only [hop] at hg hops
    obtain ⟨vm, hg, hm⟩ := evx_spec hf hg (hops m (by simp [Op.operands])) hgl
    obtain ⟨vi, hg, hi⟩ := evx_spec hf hg (hops i (by simp [Op.operands])) hgl
    obtain ⟨vy, hg, hy⟩ := evx_spec hf hg (hops y (by simp [Op.operands])) hgl
    obtain ⟨h', w', h1, h2, h3⟩ := mapUpdateE_spec hf hT hg hm hi hy H F
    exact flow_skip (by simp only [execOp, hop, Sem.run_bind, h1, Result.andThen_ok, Sem.run_pure]) ⟨_, h', nx, σ, undefE_spec σ, h2, h3⟩
  | extract x i =>
    simp only [hop] at hg hops
    obtain ⟨vx, hg, hx⟩ := evx_spec hf hg (hops x (by simp [Op.operands])) hgl
    obtain ⟨e, e', h1, h2, h3⟩ := extractE_spec (P := P) (w := w) hf hg hx
    exact stay e e' (by simp only [execOp, hop, Sem.run_bind, h1, Result.andThen_ok, Sem.run_pure]) h2 h3
  | range t x =>
    simp only [hop] at hg hops
    obtain ⟨vx, hg, hx⟩ := evx_spec hf hg (hops x (by simp [Op.operands])) hgl
    obtain ⟨kt, et, ei, hu, hty, hg⟩ := mapT_spec hf hT hg
    split at hg
    · simp only [VR] at hx
      simp only [newB] at hg
      obtain ⟨h', hp, hg⟩ := Tr.put_spec hf _ _ _ _ hg
      refine flow_value (v := .pointer (some ⟨w.heap.size, 0, none⟩)) (w' := w.alloc (.mapIter none 0 #[] 0)) ?_ ⟨_, h', Nat.succ nx, upd σ nx ⟨w.heap.size, 0, 0⟩, ?_, ?_, hg⟩
      · simp only [execOp, hop, hx, Sem.run_bind, run_range_nilMap w t kt et hu, Result.andThen_ok, Sem.run_pure]
      · simp only [VR]; exact ⟨_, upd_same _ _ _, rfl⟩
      · exact Post.mk_new H F hfl hp rfl rfl rfl rfl ⟨none, rfl, .inl ⟨rfl, rfl⟩⟩
    · rename_i b hgo
      clear hgo
      split at hg
      · rename_i es clock hb
        simp only [VR] at hx
        obtain ⟨l, hl, hx⟩ := hx
        obtain ⟨l', ob, e1, e2, e3⟩ := H.there b _ hb
        rw [hl] at e1; cases e1
        obtain ⟨ms, rfl, hms⟩ := e3
        simp only [newB] at hg
        obtain ⟨h', hp, hg⟩ := Tr.put_spec hf _ _ _ _ hg
        refine flow_value (v := .pointer (some ⟨w.heap.size, 0, none⟩)) (w' := w.alloc (.mapIter (some l.blk) clock #[] clock)) ?_ ⟨_, h', Nat.succ nx, upd σ nx ⟨w.heap.size, 0, 0⟩, ?_, ?_, hg⟩
        · simp only [execOp, hop, hx, Sem.run_bind, run_range_map w t kt et l.blk ms clock hu e2, Result.andThen_ok, Sem.run_pure]
        · simp only [VR]; exact ⟨_, upd_same _ _ _, rfl⟩
        · exact Post.mk_new H F hfl hp rfl rfl rfl rfl ⟨some l.blk, rfl, .inr ⟨b, l, rfl, by rw [upd_other _ _ (fun e => by rw [e, F nx (Nat.le_refl _)] at hl; cases hl)]; exact hl, rfl⟩⟩
      · exact absurd hg hf
    · exact absurd hg hf
  | next x s =>
    simp only [hop] at hg hops
    cases s with
    | true => exact absurd hg hf
    | false =>
      simp only [cond_false] at hg
      obtain ⟨vx, hg, hx⟩ := evx_spec hf hg (hops x (by simp [Op.operands])) hgl
      split at hg
      · rename_i r
        simp only [VR] at hx
        obtain ⟨l, hl, hx⟩ := hx
        split at hg
        · rename_i s1 s2 s3 hb
          obtain ⟨l', ob, e1, e2, e3⟩ := H.there r _ hb
          rw [hl] at e1; cases e1
          obtain ⟨m', rfl, hm⟩ := e3
          have hm' : m' = none := by
            rcases hm with ⟨_, h⟩ | ⟨_, _, h, _⟩
            · exact h
            · cases h
          subst hm'
          refine stay _ (.tuple #[.bool false]) ?_ (by simp only [VR]; exact ⟨_, rfl, VRs.cons (by simp only [VR]) VRs.nil⟩) hg
          simp only [execOp, hop, hx, Instr.next, Sem.run_bind, run_getObj e2 (fun _ _ _ h => by cases h), Result.andThen_ok, Sem.run_pure]
        · rename_i m since seen last hb
          split at hg
          · rename_i es clock hbm
            cases hq : (es.all (fun e => Nat.blt e.2.2 since) && Nat.ble since last) with
            | false => rw [hq] at hg; exact absurd hg hf
            | true =>
              rw [hq] at hg
              simp only [cond_true] at hg
              rw [Bool.and_eq_true] at hq
              obtain ⟨l', ob, e1, e2, e3⟩ := H.there r _ hb
              rw [hl] at e1; cases e1
              obtain ⟨m', rfl, hm⟩ := e3
              obtain ⟨lm, obm, c1, c2, c3⟩ := H.there m _ hbm
              obtain ⟨ms, rfl, hms⟩ := c3
              have hm' : m' = some lm.blk := by
                rcases hm with ⟨h, _⟩ | ⟨b, lb, h1, h2, h3⟩
                · cases h
                · cases h1; rw [c1] at h2; cases h2; exact h3
              subst hm'
              have hold : ∀ y ∈ ms.toList, y.born < since := fun y hy => by
                obtain ⟨e, he, _, _, h3⟩ := hms.mem y hy
                have := List.all_eq_true.1 hq.1 e he
                rw [h3]; simpa [Nat.blt, Nat.succ_le_iff] using this
              have hfil : ER σ (es.filter fun e => not (inL e.2.2 seen)) (leftOf ms seen.toArray).toList := by
                have := hms.filter (p := fun n => not (inL n seen))
                unfold leftOf
                have hfun : (fun e : MapEntry => !seen.toArray.contains e.born) = fun e => not (inL e.born seen) := by funext e; simp [inL_eq]
                rw [Array.toList_filter, hfun]
                exact this
              rcases run_next_at (P := P) w o.type l.blk lm.blk since last seen.toArray ms clock e2 c2 hold (Nat.le_of_ble_eq_true hq.2) with ⟨h0, hrun⟩ | ⟨e, he, w1, hw1, hrun⟩
              · have hnil : (es.filter fun e => not (inL e.2.2 seen)) = [] := by
                  have h1 := hfil.len
                  have h2 : (leftOf ms seen.toArray).toList.length = 0 := by simpa using h0
                  exact List.eq_nil_of_length_eq_zero (h1.trans h2)
                rw [hnil] at hg
                refine stay _ (.tuple #[.bool false]) ?_ (by simp only [VR]; exact ⟨_, rfl, VRs.cons (by simp only [VR]) VRs.nil⟩) hg
                simp only [execOp, hop, hx, Sem.run_bind, hrun, Result.andThen_ok, Sem.run_pure]
              · obtain ⟨e', he', k1, k2, k3⟩ := hfil.mem e he
                split at hg
                · rename_i hnil; rw [hnil] at he'; cases he'
                · rename_i y ys hys
                  rw [← hys] at hg
                  have hg := nextE_spec hj hg e' he'
                  obtain ⟨hflb, h', hp, hg⟩ := setB_spec hf hg
                  have hw1h : w1.heap = w.heap := by rcases hw1 with rfl | rfl <;> rfl
                  have hw1o : w1.os = w.os ∧ w1.tape = w.tape ∧ w1.output = w.output := by rcases hw1 with rfl | rfl <;> exact ⟨rfl, rfl, rfl⟩
                  refine flow_value (v := .tuple #[.bool true, e.key, e.val]) (w' := Go.ChangeMaps.setBlock w1 l.blk (.mapIter (some lm.blk) since (seen.toArray.push e.born) clock)) ?_ ⟨_, h', nx, σ, ?_, ?_, hg⟩
                  · simp only [execOp, hop, hx, Sem.run_bind, hrun, Result.andThen_ok, Sem.run_pure]
                  · simp only [VR]; exact ⟨_, rfl, VRs.cons (by simp only [VR]) (VRs.cons k1 (VRs.cons k2 VRs.nil))⟩
                  · refine Post.mk_set H F hflb (isSomeOf hb) hl hp (ob := .mapIter (some lm.blk) since (seen.toArray.push e.born) clock) ?_ (fun q hq => ?_) ?_ hw1o.1 hw1o.2.1 hw1o.2.2 ⟨some lm.blk, by rw [k3]; simp, .inr ⟨m, lm, rfl, c1, rfl⟩⟩
                    · show (w1.heap.setIfInBounds l.blk _)[l.blk]? = _
                      have := (Array.getElem?_eq_some_iff.1 e2).1
                      rw [hw1h, Array.getElem?_setIfInBounds, if_pos rfl, if_pos this]
                    · show (w1.heap.setIfInBounds l.blk _)[q]? = _
                      rw [hw1h, Array.getElem?_setIfInBounds, if_neg (fun e => hq e.symm)]
                    · show (w1.heap.setIfInBounds l.blk _).size = _
                      rw [hw1h]; simp
          · exact absurd hg hf
        · exact absurd hg hf
      · exact absurd hg hf
  | entry x =>
    simp only [hop] at hg hops
    obtain ⟨vx, hg, hx⟩ := evx_spec hf hg (hops x (by simp [Op.operands])) hgl
    split at hg
    · rename_i r
      simp only [VR] at hx
      obtain ⟨l, hl, hx⟩ := hx
      split at hg
      · rename_i m since seen last hb
        split at hg
        · rename_i es clock hbm
          cases hq : Nat.beq clock last with
          | false => rw [hq] at hg; exact absurd hg hf
          | true =>
            rw [hq] at hg
            simp only [cond_true] at hg
            have hcl := Nat.eq_of_beq_eq_true hq
            split at hg
            · rename_i n hn
              split at hg
              · rename_i e he
                obtain ⟨l', ob, e1, e2, e3⟩ := H.there r _ hb
                rw [hl] at e1; cases e1
                obtain ⟨m', rfl, hm⟩ := e3
                obtain ⟨lm, obm, c1, c2, c3⟩ := H.there m _ hbm
                obtain ⟨ms, rfl, hms⟩ := c3
                have hm' : m' = some lm.blk := by
                  rcases hm with ⟨h, _⟩ | ⟨b, lb, h1, h2, h3⟩
                  · cases h
                  · cases h1; rw [c1] at h2; cases h2; exact h3
                subst hm'
                obtain ⟨y, y1, y2, y3⟩ := hms.born he
                have hfind : ms.find? (fun z => z.born == n) = some y := by rw [← Array.find?_toList]; exact y1
                have hback : seen.toArray.back? = some n := by simpa using hn
                refine stay _ (.tuple #[y.key, y.val]) ?_ (by simp only [VR]; exact ⟨_, rfl, VRs.cons y2 (VRs.cons y3 VRs.nil)⟩) hg
                subst hcl
                simp only [execOp, hop, hx, Instr.entry, Sem.run_bind, run_getObj e2 (fun _ _ _ h => by cases h), run_getObj c2 (fun _ _ _ h => by cases h), Result.andThen_ok, hback, bne_self_eq_false, Bool.false_eq_true, if_false, hfind, Sem.run_pure]
              · exact absurd hg hf
            · exact absurd hg hf
        · exact absurd hg hf
      · exact absurd hg hf
    · exact absurd hg hf
  | call c =>
    simp only [hop] at hg hops
    cases hc : c.callee with
    | value f =>
      simp only [hc] at hg
      obtain ⟨vf, hg, q1⟩ := evx_spec (a := a) (σ := σ) hf hg (hops f (by simp [Op.operands, Call.operands, hc])) hgl
      obtain ⟨va, hg, q2⟩ := evxs_spec (a := a) (σ := σ) hf hgl hg (fun x hx => hops x (by simp [Op.operands, Call.operands, hc]; exact .inr (by simpa using hx)))
      cases vf with
      | func fid first cap =>
        simp only at hg
        simp only [VR] at q1
        obtain ⟨x1, x2, e1, q3, q4⟩ := q1
        have hcall := callM_spec (args' := x1 ++ c.args.map a.eval ++ x2) hf hT hS hj hg (by simpa [Array.toList_append] using (q3.app q2).app q4) hgl H F hfl
        unfold Oper.flow
        have : (execOp a.eval o).run P w = (callFunc fid (x1 ++ c.args.map a.eval ++ x2)).run P w := by
          simp only [execOp, hop, resolve, hc, e1, Deferred.ofValue, Sem.run_bind, Sem.run_pure, Result.andThen_ok, invoke]
        rw [this]
        unfold callFlow at hcall
        generalize (callFunc fid (x1 ++ c.args.map a.eval ++ x2)).run P w = res at hcall
        cases res with
        | halt _ _ => exact hcall.elim
        | ok n w' => cases n <;> first | exact hcall | exact hcall.elim
      | yld b =>
        simp only at hg
        simp only [VR] at q1
        obtain ⟨loc, hloc, e1⟩ := q1
        obtain ⟨f', tmps, as, body, hrun, hround⟩ := yieldE_spec (args' := c.args.map a.eval) hf hS hj hg (by simpa using q2) hloc hgl H F hfl
        unfold Oper.flow
        have : (execOp a.eval o).run P w = .ok (.round loc.blk f' tmps as body) w := by
          simp only [execOp, hop, resolve, hc, e1, Deferred.ofValue, Sem.run_bind, Sem.run_pure, Result.andThen_ok, invoke, Array.empty_append, hrun]
        rw [this]
        exact hround
      | _ => exact absurd hg hf
    | builtin b =>
      simp only [hc] at hg
      obtain ⟨va, hg, q2⟩ := evxs_spec (a := a) (σ := σ) hf hgl hg (fun x hx => hops x (by simp [Op.operands, Call.operands, hc]; simpa using hx))
      obtain ⟨cs, hrun⟩ : ∃ cs, (execOp a.eval o).run P w = (builtin b c.argTypes o.type cs (c.args.map a.eval)).run P w := by
        simp only [execOp, hop, resolve, hc, Sem.run_bind, Sem.run_pure, Result.andThen_ok, invoke]
        exact ⟨_, rfl⟩
      unfold builtinE at hg
      cases hts : c.argTypes.toList with
      | nil => simp only [hts] at hg; exact absurd hg hf
      | cons t ts =>
        simp only [hts] at hg
        have hat : c.argTypes = (t :: ts).toArray := by rw [← hts]
        cases b <;> simp only at hg <;> first | exact absurd hg hf | skip
        case append =>
          split at hg
          · rename_i s x t2 u hts2
            cases hts2
            simp only [VRs] at q2
            obtain ⟨s', m1, h1, q3, x', m2, h2, q4, h3⟩ := q2
            subst h2; subst h3
            cases htu : Nat.beq t u with
            | false => rw [htu] at hg; exact absurd hg hf
            | true =>
              rw [htu] at hg
              have := Nat.eq_of_beq_eq_true htu
              subst this
              have harg : c.args.map a.eval = #[s', x'] := by
                apply Array.ext'; simpa using h1
              obtain ⟨v, h', nx', σ', v', w', h1, h2, h3, h4⟩ := appendE_spec (ty := o.type) hf hT hg q3 q4 H F hfl
              refine flow_value (v := v') (w' := w') ?_ ⟨v, h', nx', σ', h2, h3, h4⟩
              rw [hrun, hat, harg]
              simp only [builtin, Sem.run_bind, h1, Result.andThen_ok, Sem.run_pure]
          · exact absurd hg hf
        case delete =>
          split at hg
          · rename_i m key
            simp only [VRs] at q2
            obtain ⟨m', m1, h1, q3, k', m2, h2, q4, h3⟩ := q2
            subst h2; subst h3
            have harg : c.args.map a.eval = #[m', k'] := by
              apply Array.ext'; simpa using h1
            obtain ⟨h', w', h1, h2, h3⟩ := deleteE_spec (ty := o.type) (ts := c.argTypes) hf hT (by rw [hat]; rfl) hg q3 q4 H F
            refine flow_value (v := undef) (w' := w') ?_ ⟨_, h', nx, σ, undefE_spec σ, h2, h3⟩
            rw [hrun, harg]
            simp only [builtin, Sem.run_bind, h1, Result.andThen_ok, Sem.run_pure]
            rfl
          · exact absurd hg hf
        case clear =>
          split at hg
          · rename_i v
            simp only [VRs] at q2
            obtain ⟨v', m1, h1, q3, h3⟩ := q2
            subst h3
            have harg : c.args.map a.eval = #[v'] := by
              apply Array.ext'; simpa using h1
            obtain ⟨h', w', h1, h2, h3⟩ := clearE_spec (ty := o.type) (ts := c.argTypes) hf hT (by rw [hat]; rfl) hg q3 H F
            refine flow_value (v := undef) (w' := w') ?_ ⟨_, h', nx, σ, undefE_spec σ, h2, h3⟩
            rw [hrun, harg]
            simp only [builtin, Sem.run_bind, h1, Result.andThen_ok, Sem.run_pure]
            rfl
          · exact absurd hg hf
        case copy =>
          split at hg
          · rename_i v x
            simp only [VRs] at q2
            obtain ⟨v', m1, h1, q3, x', m2, h2, q4, h3⟩ := q2
            subst h2; subst h3
            have harg : c.args.map a.eval = #[v', x'] := by
              apply Array.ext'; simpa using h1
            obtain ⟨n, h', w', h1, h2, h3⟩ := copyE_spec (ty := o.type) (ts := c.argTypes) hf hT (by rw [hat]; rfl) hg q3 q4 H F
            refine flow_value (v := .int .i64 (Int.ofNat n)) (w' := w') ?_ ⟨_, h', nx, σ, by simp only [VR], h2, h3⟩
            rw [hrun, harg]
            simp only [builtin, Sem.run_bind, h1, Result.andThen_ok, Sem.run_pure]
          · exact absurd hg hf
        case max =>
          split at hg
          · rename_i ki x kj y
            cases hk : ikEq ki kj with
            | false => rw [hk] at hg; exact absurd hg hf
            | true =>
              rw [hk] at hg
              have := ikEq_eq hk
              subst this
              simp only [VRs, VR] at q2
              obtain ⟨_, m1, h1, rfl, _, m2, rfl, rfl, rfl⟩ := q2
              have harg : c.args.map a.eval = #[.int ki x, .int ki y] := by
                apply Array.ext'; simpa using h1
              refine stay _ (.int ki (bif ltInt x y then y else x)) ?_ (by simp only [VR]) hg
              rw [hrun, harg]
              simp only [builtin]
              rw [run_max2]
          · exact absurd hg hf
        case min =>
          split at hg
          · rename_i ki x kj y
            cases hk : ikEq ki kj with
            | false => rw [hk] at hg; exact absurd hg hf
            | true =>
              rw [hk] at hg
              have := ikEq_eq hk
              subst this
              simp only [VRs, VR] at q2
              obtain ⟨_, m1, h1, rfl, _, m2, rfl, rfl, rfl⟩ := q2
              have harg : c.args.map a.eval = #[.int ki x, .int ki y] := by
                apply Array.ext'; simpa using h1
              refine stay _ (.int ki (bif ltInt y x then y else x)) ?_ (by simp only [VR]) hg
              rw [hrun, harg]
              simp only [builtin]
              rw [run_min2]
          · exact absurd hg hf
        case cap =>
          split at hg
          · rename_i v
            simp only [VRs] at q2
            obtain ⟨v', m1, h1, q3, h3⟩ := q2
            subst h3
            have harg : c.args.map a.eval = #[v'] := by
              apply Array.ext'; simpa using h1
            cases hti : tab.ty.get t with
            | none => simp only [hti] at hg; exact absurd hg hf
            | some i =>
              simp only [hti] at hg
              obtain ⟨e, e', h1, h2, h3⟩ := capE_spec (P := P) (w := w) (ty := o.type) hf (hT.ty t i hti).und hg q3
              refine stay e e' ?_ h2 h3
              rw [hrun, harg]
              have hl : (Builtin.cap_ c.argTypes o.type #[v']) = Builtin.cap_ #[t] o.type #[v'] := by rw [hat]; rfl
              simp only [builtin, hl, Sem.run_bind, h1, Result.andThen_ok, Sem.run_pure]
          · exact absurd hg hf
        case len =>
          split at hg
          · rename_i v
            simp only [VRs] at q2
            obtain ⟨v', m1, h1, q3, h3⟩ := q2
            subst h3
            have harg : c.args.map a.eval = #[v'] := by
              apply Array.ext'; simpa using h1
            cases hti : tab.ty.get t with
            | none => simp only [hti] at hg; exact absurd hg hf
            | some i =>
              simp only [hti] at hg
              obtain ⟨e, e', h1, h2, h3⟩ := lenE_spec (P := P) (ty := o.type) hf (hT.ty t i hti).und hg q3 H
              refine stay e e' ?_ h2 h3
              rw [hrun, harg]
              have hl : (Builtin.len_ c.argTypes o.type #[v']) = Builtin.len_ #[t] o.type #[v'] := by rw [hat]; rfl
              simp only [builtin, hl, Sem.run_bind, h1, Result.andThen_ok, Sem.run_pure]
          · exact absurd hg hf
    | _ => simp only [hc] at hg; exact absurd hg hf
  | _ => simp only [hop] at hg; exact absurd hg hf
end
end Go.Proofs.YtmlkfgoiakcnhaaGreatDoor
