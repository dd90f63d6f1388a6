/- A region that draws its order: each step keeps the invariant; the region. -/
import Derived.Test.YtmlkfgoiakcnhaaGreatDoorEvR
namespace Go.Proofs.YtmlkfgoiakcnhaaGreatDoor
open Go Go.RowKit

theorem statOk_spec {ops : Array Oper} {nt : Nat} {items : List Item} (h : statOk ops nt items = true) {x : Item} (hx : x ∈ items) :
    (∀ t ∈ x.2.1.looksAt ops, ∀ y ∈ items, y.2.1.dst = some t → hasBit x.2.2 y.1 = true) ∧ (∀ y ∈ items, y.1 ≠ x.1 → ∀ d, x.2.1.dst = some d → y.2.1.dst ≠ some d) ∧
      (∀ e ∈ x.2.1.after, Region.binds .any e = true → e.on < x.1) ∧ (∀ d, x.2.1.dst = some d → d < nt) := by
  have := List.all_eq_true.1 h x hx
  simp only [Bool.and_eq_true] at this
  obtain ⟨⟨⟨h1, h2⟩, h3⟩, h4⟩ := this
  refine ⟨fun t ht y hy hd => ?_, fun y hy hne d hd hd' => ?_, fun e he hb => ?_, fun d hd => ?_⟩
  · have := List.all_eq_true.1 (List.all_eq_true.1 h1 t ht) y hy
    simpa [dstIsN, hd] using this
  · have := List.all_eq_true.1 h2 y hy
    simp only [Bool.or_eq_true] at this
    rcases this with h | h
    · exact hne (Nat.eq_of_beq_eq_true h)
    · rw [hd, hd'] at h
      simp [dstApart] at h
  · have := List.all_eq_true.1 h3 e (by simpa using he)
    simp only [hb, Bool.not_true, Bool.false_or] at this
    simpa [Nat.blt, Nat.succ_le_iff] using this
  · rw [hd] at h4
    simpa [dstLt, Nat.blt, Nat.succ_le_iff] using h4

theorem aOf_nil {A : Aside} {i : Nat} (h : (match aOf A i with | [] => true | _ => false) = true) : ∀ q ∈ A, q.1 ≠ i := by
  intro q hq e
  have : q ∈ aOf A i := List.mem_filter.2 ⟨hq, by rw [e]; simp⟩
  split at h
  · rename_i h0; rw [h0] at this; cases this
  · cases h
theorem aOf_one {A : Aside} {i : Nat} {q : Nat × Nat × EO} (h : aOf A i = [q]) : q ∈ A ∧ q.1 = i ∧ ∀ r ∈ A, r.1 = i → r = q := by
  have h1 : q ∈ aOf A i := by rw [h]; simp
  have h2 := List.mem_filter.1 h1
  refine ⟨h2.1, Nat.eq_of_beq_eq_true h2.2, fun r hr e => ?_⟩
  have : r ∈ aOf A i := List.mem_filter.2 ⟨hr, by rw [e]; simp⟩
  rw [h] at this
  simpa using this
theorem dstIs_spec {T : Fr} {d : Option Nat} {v : EV} (h : dstIs T d v = true) : ∀ x, d = some x → (T.get x).getD undefE = v := by
  intro x hx
  subst hx
  simp only [dstIs] at h
  cases hT : T.get x with
  | none => rw [hT] at h; cases h
  | some u => rw [hT] at h; rw [Option.getD_some]; exact sameE_eq _ _ h

section
variable {P : Program} {tab : Tab} {β : Type} {fail : β} {G : β → Prop} (hf : ¬ G fail) (hT : TabOk P tab) {self : CodeFn} (hS : SoundC P tab self) {join : β → β → β} (hj : ∀ x y, G (join x y) → G x ∧ G y)
  {ro0 : Option Nat} {nt fl : Nat} {ops : Array Oper} {items : List Item} {σ0 : Sg} {h0 : Tr EO} {nx0 : Nat} {w0 : World} {k : Fr → Tr EO → Nat → β}

/-- the invariant of the region -/
def Inv (ro0 : Option Nat) (G : β → Prop) (tab : Tab) (self : CodeFn) (fail : β) (join : β → β → β) (nt fl : Nat) (ops : Array Oper) (items : List Item) (σ0 : Sg) (h0 : Tr EO) (nx0 : Nat) (w0 : World) (k : Fr → Tr EO → Nat → β) (s : Array Bool) (a : Act) (w : World) : Prop :=
  ∃ rem dW T h A nx E σ hs, G (goE tab self fail join nt fl ops items rem dW T h A nx E k) ∧ DInv tab ro0 nt fl ops items σ0 h0 nx0 w0 rem dW T h A nx E s a w σ hs ∧ ∀ x ∈ items, okAt tab self ops rem dW T h A E x = true

include hf hT hS hj in
theorem inv_step {r : Option Nat} {Q : Exit → Act → World → Prop} (hst : statOk ops nt items = true) (hit : ∀ s : Array Bool, s.size = ops.size → Clo ops s → ∀ x ∈ items, ops[x.1]? = some x.2.1 ∧ ((∀ e ∈ x.2.1.after, Region.binds .any e = true → s.getD e.on false = true) → ∀ q, hasBit x.2.2 q = true → s.getD q false = true))
    (hmem : ∀ i o, ops[i]? = some o → ∃ m, (i, o, m) ∈ items) (hgl : GlOk tab σ0) (hfl : fl ≤ nx0) (s : Array Bool) (a : Act) (w : World) (i : Nat) (I : Inv ro0 G tab self fail join nt fl ops items σ0 h0 nx0 w0 k s a w) (hi : i ∈ Region.ready .any ops s) :
    wpOpIn (WF r) 0 P ops Q i (Inv ro0 G tab self fail join nt fl ops items σ0 h0 nx0 w0 k (s.setIfInBounds i true)) a w := by
  obtain ⟨rem, dW, T, h, A, nx, E, σ, hs, hg, D, hok⟩ := I
  obtain ⟨hun, o, ho, hall⟩ := mem_ready.1 hi
  obtain ⟨hunF, hilt⟩ := getDF hun
  obtain ⟨m, hx⟩ := hmem i o ho
  have hit' : ∀ x ∈ items, ops[x.1]? = some x.2.1 := fun x hx => (hit s D.size D.clo x hx).1
  have hbits : ∀ q, hasBit m q = true → s.getD q false = true := (hit s D.size D.clo _ hx).2 hall
  obtain ⟨st1, st2, st3, st4⟩ := statOk_spec hst hx
  simp only at st1 st2 st3 st4
  have hgl' : GlOk tab σ := hgl.mono D.post.le
  -- what is looked at is there
  have look : ∀ t ∈ o.looksAt ops, VR σ ((T.get t).getD undefE) (a.tmps.getD t undef) := fun t ht => D.tr t fun y hy hy2 hd => by
    have := hbits _ (st1 t ht y hy hd)
    rw [hy2] at this; cases this
  have hops : ∀ x ∈ o.op.operands.toList, OpRel σ T a x := by
    intro x hx
    cases x with
    | tmp t => exact look t (by unfold Oper.looksAt; exact List.mem_append_left _ (List.mem_filterMap.2 ⟨.tmp t, hx, rfl⟩))
    | _ => trivial
  have hguard : ∀ j want p d, o.guard = some (j, want) → ops[j]? = some p → p.dst = some d → VR σ ((T.get d).getD undefE) (a.tmps.getD d undef) := fun j want p d h1 h2 h3 =>
    look d (by unfold Oper.looksAt; refine List.mem_append_right _ ?_; rw [h1]; simp [h2, h3])
  unfold wpOpIn
  simp only [ho]
  cases hch : isCh tab o.op with
  | false =>
    have hfree : freeB rem m = true := List.all_eq_true.2 fun r hr => by
      cases hb : hasBit m r.1 with
      | false => rfl
      | true =>
        have h1 := hbits _ hb
        rw [(D.remIn r hr).2.2] at h1; cases h1
    have hdW : hasBit dW i = false := by
      cases hb : hasBit dW i with
      | false => rfl
      | true =>
        have h1 := D.dw _ hb
        rw [hunF] at h1; cases h1
    have hokx := hok _ hx
    unfold okAt at hokx
    simp only [hch, hfree, hdW, Bool.not_true, Bool.or_self, Bool.false_or, Bool.and_eq_true] at hokx
    obtain ⟨hE, hokx⟩ := hokx
    have setOther : ∀ q ∈ A, q.1 ≠ i → (s.setIfInBounds i true).getD q.1 false = s.getD q.1 false := fun q _ hne => getD_set_ne false (Ne.symm hne)
    -- a step that leaves the heap
    have stay : ∀ (e : EV) (e' : Value), VR σ e e' → dstIs T o.dst e = true → (∀ q ∈ A, q.1 ≠ i) → Inv ro0 G tab self fail join nt fl ops items σ0 h0 nx0 w0 k (s.setIfInBounds i true) (a.put o.dst e') w := by
      intro e e' hv hd hA
      refine ⟨rem, dW, T, h, A, nx, E, σ, hs, hg, D.move hit' hx hch hi hE st4 (Le.refl _) D.post (fun id b => ?_) (fun q hq hq2 => ?_) (fun d hdd => ?_), hok⟩
      · rw [D.hsG]
        constructor
        · rintro (h | ⟨j, hj, hd⟩)
          · exact .inl h
          · exact .inr ⟨j, hj, getD_set_true hd⟩
        · rintro (h | ⟨j, hj, hd⟩)
          · exact .inl h
          · exact .inr ⟨j, hj, by rw [← setOther _ hj (hA _ hj)]; exact hd⟩
      · exact (D.aX q hq).2.2.2 (by rw [← setOther q hq (hA q hq)]; exact hq2)
      · rw [dstIs_spec hd d hdd]; exact hv
    cases hw : wantedE ops T o with
    | none => rw [hw] at hokx; cases hokx
    | some b =>
      rw [hw] at hokx
      have hwn := wantedE_spec (a := a) (σ := σ) hw hguard
      cases b with
      | false =>
        simp only [Bool.and_eq_true] at hokx
        rw [if_neg (by rw [hwn]; simp)]
        exact ⟨fun _ _ => trivial, stay undefE undef (undefE_spec σ) hokx.1 (aOf_nil hokx.2)⟩
      | true =>
        rw [if_pos hwn]
        have hnd : ∀ c, o.op ≠ .defer c := fun c hc => by rw [hc] at hch; cases hch
        cases hm : mkOp o.op with
        | false =>
          simp only [hm, cond_false] at hokx
          obtain ⟨hcv, hrd⟩ : cvB tab o.op = false ∧ rdOp o.op = true := by
            unfold isCh at hch
            rw [hm] at hch
            simpa using hch
          cases hr : rdV tab self o T h with
          | none => rw [hr] at hokx; cases hokx
          | some v =>
            rw [hr] at hokx
            simp only [Bool.and_eq_true] at hokx
            have Hh : Holds σ h w := D.post.holds.sub fun id b hb => (D.hsG id b).2 (.inl hb)
            obtain ⟨e, e', h1, h2, h3⟩ := rdE_spec (G := fun r : Option EV => r = some v) (w := w) (a := a) (fun h => by cases h) hT hrd hcv hr hops hgl' Hh
            have : e = v := Option.some.inj h3
            subst this
            exact Oper.wp_of_flow hnd (flow_value (R := fun v' w' => v' = e' ∧ w' = w) h1 ⟨rfl, rfl⟩) fun v' w' ⟨e1, e2⟩ => by
              subst e1; subst e2
              exact stay e v' h2 hokx.1 (aOf_nil hokx.2)
        | true =>
          simp only [hm, cond_true] at hokx
          split at hokx
          · rename_i q hq
            obtain ⟨q1, q2, q3⟩ := aOf_one hq
            obtain ⟨a1, a2, a3, a4⟩ := D.aX q q1
            have hσ : σ q.2.1 = none := a4 (by rw [q2]; exact hunF)
            cases hr : mkV tab self o T q.2.1 with
            | none => rw [hr] at hokx; cases hokx
            | some p =>
              rw [hr] at hokx
              simp only [Bool.and_eq_true] at hokx
              obtain ⟨v, blk, h', e1, e2, v', w', loc, ob, m1, m2, m3, m4, m5, m6, m7, m8⟩ := mkE_spec (G := fun r : Option (EV × EO) => r = some p) (w := w) (a := a) (fun h => by cases h) hT hm hr hops hgl' hσ
              have hget : h'.get q.2.1 = some blk := by rw [e1, if_pos rfl]
              simp only [hget] at e2
              have ep : (v, blk) = p := Option.some.inj e2
              subst ep
              have eb := sameO_eq hokx.2
              simp only at eb
              obtain ⟨hs', es, hp⟩ := D.post.late hfl a1 a2 hσ m2 m3 m4 m5 m6 m8
              refine Oper.wp_of_flow hnd (flow_value (R := fun u w2 => u = v' ∧ w2 = w') m1 ⟨rfl, rfl⟩) fun u w2 ⟨x1, x2⟩ => ?_
              subst x1; subst x2
              refine ⟨rem, dW, T, h, A, nx, E, _, hs', hg, D.move hit' hx hch hi hE st4 (Le.upd hσ loc) hp (fun id b => ?_) (fun r hr hr2 => ?_) (fun d hdd => ?_), hok⟩
              · rw [es]
                by_cases hid : id = q.2.1
                · rw [if_pos hid]
                  constructor
                  · intro hb
                    right
                    refine ⟨q.1, ?_, by rw [q2]; exact getD_set_at hilt⟩
                    have : q = (q.1, id, b) := by
                      obtain ⟨x, y, z⟩ := q
                      simp only at hid eb hb ⊢
                      rw [hid, ← eb, Option.some.inj hb]
                    rw [← this]; exact q1
                  · rintro (hb | ⟨j, hj, _⟩)
                    · rw [hid, a3] at hb; cases hb
                    · have := D.aP.uniq hj q1 hid
                      rw [← this] at eb
                      rw [eb]
                · rw [if_neg hid, D.hsG]
                  constructor
                  · rintro (hb | ⟨j, hj, hd⟩)
                    · exact .inl hb
                    · exact .inr ⟨j, hj, getD_set_true hd⟩
                  · rintro (hb | ⟨j, hj, hd⟩)
                    · exact .inl hb
                    · right
                      have hne : j ≠ i := fun e => by
                        have := q3 _ hj (by rw [e])
                        rw [← this] at hid
                        exact hid rfl
                      exact ⟨j, hj, by rw [← getD_set_ne false (Ne.symm hne)]; exact hd⟩
              · have hne : r.1 ≠ i := fun e => by
                  rw [e, getD_set_at hilt] at hr2; cases hr2
                have hrX : r.2.1 ≠ q.2.1 := fun e => by
                  have := D.aP.uniq hr q1 e
                  rw [this] at hne; exact hne q2
                rw [upd_other σ loc hrX]
                exact (D.aX r hr).2.2.2 (by rw [← getD_set_ne false (Ne.symm hne)]; exact hr2)
              · rw [dstIs_spec hokx.1 d hdd]; exact m7
          · cases hokx
  | true =>
    -- an operation that writes is the first of those that are left
    rcases D.chIn _ hx hch with hr | hd
    case inr => rw [hunF] at hd; cases hd
    cases rem with
    | nil => cases hr
    | cons r rest =>
      simp only [goE] at hg
      cases hc : rest.all (fun q => hasBit q.2.2 r.1) with
      | false => rw [hc] at hg; exact absurd hg hf
      | true =>
        rw [hc] at hg
        simp only [cond_true] at hg
        have hrx : (i, o, m) = r := by
          cases hr with
          | head => rfl
          | tail _ hr =>
            have h1 := List.all_eq_true.1 hc _ hr
            have h2 := hbits _ h1
            rw [(D.remIn r (List.mem_cons_self ..)).2.2] at h2; cases h2
        subst hrx
        simp only at hg
        obtain ⟨hW, hg, eW⟩ := mergeE_spec hf hg D.aP (fun q hq => (D.aX q hq).2.2.1)
        -- the blocks that still float
        have hF0 : ∀ q ∈ A.filter (fun q => not (hasBit m q.1)), q ∈ A ∧ hasBit m q.1 = false := fun q hq => by
          have := List.mem_filter.1 hq
          exact ⟨this.1, by simpa using this.2⟩
        have hWle : ∀ id b, hW.get id = some b → hs.get id = some b := fun id b hb => by
          rcases (eW id b).1 hb with h1 | ⟨j, h1, h2⟩
          · exact (D.hsG id b).2 (.inl h1)
          · exact (D.hsG id b).2 (.inr ⟨j, h1, hbits _ h2⟩)
        have hWnone : ∀ q ∈ A.filter (fun q => not (hasBit m q.1)), hW.get q.2.1 = none := fun q hq => by
          obtain ⟨h1, h2⟩ := hF0 q hq
          cases hb : hW.get q.2.1 with
          | none => rfl
          | some b =>
            rcases (eW _ b).1 hb with h3 | ⟨j, h3, h4⟩
            · rw [(D.aX q h1).2.2.1] at h3; cases h3
            · have := D.aP.uniq h3 h1 rfl
              rw [← this] at h2
              simp only at h2
              rw [h4] at h2; cases h2
        have hpF : AP (A.filter fun q => not (hasBit m q.1)) := List.Pairwise.filter _ D.aP
        have hgWs : ∀ id b, hs.get id = some b ↔ (hW.get id = some b ∨ ∃ j, (j, id, b) ∈ (A.filter fun q => not (hasBit m q.1)) ∧ s.getD j false = true) := by
          intro id b
          rw [D.hsG, eW]
          constructor
          · rintro (hb | ⟨j, hj, hd⟩)
            · exact .inl (.inl hb)
            · cases hm : hasBit m j with
              | true => exact .inl (.inr ⟨j, hj, hm⟩)
              | false => exact .inr ⟨j, List.mem_filter.2 ⟨hj, by simp [hm]⟩, hd⟩
          · rintro ((hb | ⟨j, hj, hm⟩) | ⟨j, hj, hd⟩)
            · exact .inl hb
            · exact .inr ⟨j, hj, hbits _ hm⟩
            · exact .inr ⟨j, (hF0 _ hj).1, hd⟩
        have hsame : ∀ x ∈ items, x.1 = i → x.2.1 = o := fun x hx e => by
          have h1 := hit' x hx
          rw [e, ho] at h1
          exact (Option.some.inj h1).symm
        have hnoti : ∀ q ∈ A, q.1 ≠ i := fun q hq e => by
          obtain ⟨x, h1, h2, h3⟩ := D.aN q hq
          rw [hsame x h1 (h2.trans e), hch] at h3; cases h3
        have hrest : ∀ r ∈ rest, r.1 ≠ i := fun r hr e => (List.pairwise_cons.1 D.remP).1 r hr e.symm
        -- the next state, from what the operation leaves
        have next : ∀ (v : EV) (v' : Value) (T1 : Fr) (h1 : Tr EO) (nx1 : Nat) (σ1 : Sg) (w1 : World), Post fl σ hW nx w σ1 h1 nx1 w1 → VR σ1 v v' → (∀ d, T1.get d = if o.dst = some d then some v else T.get d) → T1.D = T.D → T1.ro = T.ro →
            G (stopE tab self fail nt ops items rest (Nat.lor m (Nat.pow 2 i)) T1 h1 (A.filter fun q => not (hasBit m q.1)) nx1 E fun T A nx E => goE tab self fail join nt fl ops items rest (Nat.lor m (Nat.pow 2 i)) T h1 A nx E k) →
            Inv ro0 G tab self fail join nt fl ops items σ0 h0 nx0 w0 k (s.setIfInBounds i true) (a.put o.dst v') w1 := by
          intro v v' T1 h1 nx1 σ1 w1 hp hv hT1 hD1 hR1 hg1
          obtain ⟨hs', es', hp'⟩ := hp.framed (hs := hs) (F := (A.filter fun q => not (hasBit m q.1)).filter fun q => s.getD q.1 false) D.post.holds (by unfold AP at hpF ⊢; exact hpF.filter _) (fun id b => by
              rw [hgWs]
              constructor
              · rintro (hb | ⟨j, hj, hd⟩)
                · exact .inl hb
                · exact .inr ⟨j, List.mem_filter.2 ⟨hj, hd⟩⟩
              · rintro (hb | ⟨j, hj⟩)
                · exact .inl hb
                · have := List.mem_filter.1 hj
                  exact .inr ⟨j, this.1, this.2⟩) (fun q hq => by
              have h2 := (List.mem_filter.1 hq).1
              exact ⟨hWnone q h2, (D.aX q (hF0 q h2).1).2.1⟩)
          have keep : ∀ j, s.getD j false = true → (s.setIfInBounds i true).getD j false = true := fun j hj => getD_set_true hj
          have D1 : DInv tab ro0 nt fl ops items σ0 h0 nx0 w0 rest (Nat.lor m (Nat.pow 2 i)) T1 h1 (A.filter fun q => not (hasBit m q.1)) nx1 E (s.setIfInBounds i true) (a.put o.dst v') w1 σ1 hs' := {
            size := by rw [Array.size_setIfInBounds]; exact D.size
            clo := fun j oj hj hl e he hb => by
              by_cases hij : i = j
              · subst hij
                have : oj = o := Option.some.inj (hj.symm.trans ho)
                subst this
                exact keep _ (hall e he hb)
              · rw [getD_set_ne false hij] at hl
                exact keep _ (D.clo j oj hj hl e he hb)
            remIn := fun r hr => by
              obtain ⟨r1, r2, r3⟩ := D.remIn r (List.mem_cons_of_mem _ hr)
              exact ⟨r1, r2, by rw [getD_set_ne false (Ne.symm (hrest r hr))]; exact r3⟩
            chIn := fun x hx hc => by
              rcases D.chIn x hx hc with h2 | h2
              · cases h2 with
                | head => exact .inr (getD_set_at hilt)
                | tail _ h2 => exact .inl h2
              · exact .inr (keep _ h2)
            dw := fun j hj => by
              rw [hasBit_lor, hasBit_pow, Bool.or_eq_true, decide_eq_true_eq] at hj
              rcases hj with h2 | h2
              · exact keep _ (hbits j h2)
              · rw [← h2]; exact getD_set_at hilt
            ev := fun x hx hc hl => by
              have hne : i ≠ x.1 := fun e => by rw [hsame x hx e.symm, hch] at hc; cases hc
              rw [getD_set_ne false hne] at hl
              exact D.ev x hx hc hl
            post := D.post.trans hp'
            hsG := fun id b => by
              rw [es']
              constructor
              · rintro (hb | ⟨j, hj⟩)
                · exact .inl hb
                · have := List.mem_filter.1 hj
                  exact .inr ⟨j, this.1, keep _ this.2⟩
              · rintro (hb | ⟨j, hj, hd⟩)
                · exact .inl hb
                · rw [getD_set_ne false (Ne.symm (hnoti _ (hF0 _ hj).1))] at hd
                  exact .inr ⟨j, List.mem_filter.2 ⟨hj, hd⟩⟩
            aX := fun q hq => by
              obtain ⟨b1, b2, b3, b4⟩ := D.aX q (hF0 q hq).1
              refine ⟨b1, Nat.lt_of_lt_of_le b2 hp.nxle, ?_, fun hq2 => ?_⟩
              · cases hg : h1.get q.2.1 with
                | none => rfl
                | some b =>
                  rcases hp.dom q.2.1 (isSome_of hg) with h2 | ⟨h2, _⟩
                  · rw [hWnone q hq] at h2; cases h2
                  · omega
              · rw [getD_set_ne false (Ne.symm (hnoti _ (hF0 q hq).1))] at hq2
                rw [hp.new _ b2]; exact b4 hq2
            aP := hpF
            aN := fun q hq => D.aN q (hF0 q hq).1
            remP := (List.pairwise_cons.1 D.remP).2
            defers := by rw [hD1]; cases o.dst <;> exact D.defers.mono hp.le
            ro := hR1.trans D.ro
            tsz := by cases o.dst <;> simp [Act.put, D.tsz]
            tr := fun d hdn => by
              by_cases hdd : o.dst = some d
              · rw [hT1, if_pos hdd, hdd]
                have hlt : d < a.tmps.size := by rw [D.tsz]; exact st4 d hdd
                have : (a.put (some d) v').tmps.getD d undef = v' := by simp [Act.put, hlt]
                rw [this, Option.getD_some]
                exact hv
              · have e1 : (a.put o.dst v').tmps.getD d undef = a.tmps.getD d undef := by
                  cases ho : o.dst with
                  | none => rfl
                  | some d' =>
                    have : d' ≠ d := fun h => hdd (by rw [ho, h])
                    simp only [Act.put, Array.getD_eq_getD_getElem?, Array.getElem?_setIfInBounds]
                    rw [if_neg this]
                rw [e1, hT1, if_neg hdd]
                refine (D.tr d fun x hx hun2 => ?_).mono hp.le
                by_cases hij : i = x.1
                · rw [hsame x hx hij.symm]; exact hdd
                · exact hdn x hx (by rw [getD_set_ne false hij]; exact hun2) }
          obtain ⟨T', A', nx', E', g1, g2, g3⟩ := stopE_spec hf D1 hg1
          exact ⟨rest, _, T', h1, A', nx', E', σ1, hs', g1, g2, g3⟩
        have HW : Holds σ hW w := D.post.holds.sub hWle
        have FW : Fresh σ nx := D.post.fresh
        cases hw : wantedE ops T o with
        | none => rw [hw] at hg; exact absurd hg hf
        | some b =>
          rw [hw] at hg
          have hwn := wantedE_spec (a := a) (σ := σ) hw hguard
          cases b with
          | false =>
            simp only at hg
            rw [if_neg (by rw [hwn]; simp)]
            obtain ⟨T1, hg, q1, _, hD1, hR1⟩ := putD_spec hf hg
            exact ⟨fun _ _ => trivial, next undefE undef T1 hW nx σ w (Post.refl HW FW) (undefE_spec σ) q1 hD1 hR1 hg⟩
          | true =>
            simp only at hg
            rw [if_pos hwn]
            have hfl2 := evOp_flow (a := a) (w := w) (σ := σ) hf hT hS hj hg hops hgl' HW FW (Nat.le_trans hfl D.post.nxle)
            refine Oper.wp_of_flow (evOp_nodefer hf hg) hfl2 fun v' w' ⟨v, h1, nx1, σ1, hv, hp, hg⟩ => ?_
            obtain ⟨T1, hg, q1, _, hD1, hR1⟩ := putD_spec hf hg
            exact next v v' T1 h1 nx1 σ1 w' hp hv q1 hD1 hR1 hg

include hf hT hS hj in
/-- THE REGION THAT DRAWS ITS ORDER -/
theorem evDraw_spec {r : Option Nat} {Q : Exit → Act → World → Prop} {id : Nat} {T : Fr} {h : Tr EO} {nx : Nat} {σ : Sg} {a : Act} {w : World} (hg : G (evDraw tab self fail join nt fl ops T h nx k)) (hTR : TRel σ T nt a) (hgl : GlOk tab σ) (H : Holds σ h w) (F : Fresh σ nx) (hfl : fl ≤ nx)
    (hQ : ∀ T' h' nx' σ' a' w', G (k T' h' nx') → TRel σ' T' nt a' → T'.ro = T.ro → Post fl σ h nx w σ' h' nx' w' → Q .normal a' w') : (Code.region id ops true).wpIn (WF r) 0 P Q a w := by
  unfold evDraw at hg
  cases hst : statOk ops nt (mkItems ops.toList 0 []) with
  | false => rw [hst] at hg; exact absurd hg hf
  | true =>
    rw [hst] at hg
    simp only [cond_true] at hg
    have hit : ∀ s : Array Bool, s.size = ops.size → Clo ops s → ∀ x ∈ mkItems ops.toList 0 [], ops[x.1]? = some x.2.1 ∧ ((∀ e ∈ x.2.1.after, Region.binds .any e = true → s.getD e.on false = true) → ∀ q, hasBit x.2.2 q = true → s.getD q false = true) :=
      fun s hz hc => mkItems_spec hz hc rfl (fun k => by simp) (fun j mj hj => by simp at hj)
    have hmem : ∀ i o, ops[i]? = some o → ∃ m, (i, o, m) ∈ mkItems ops.toList 0 [] := fun i o ho => by
      have := mkItems_mem (l := ops.toList) (i := 0) (j := i) (acc := []) (o := o) (by simpa using ho)
      simpa using this
    have D0 : DInv tab T.ro nt fl ops (mkItems ops.toList 0 []) σ h nx w ((mkItems ops.toList 0 []).filter fun x => isCh tab x.2.1.op) 0 T h [] nx 0 (Array.replicate ops.size false) a { w with drawn := w.drawn + 1 } σ h := {
      size := by simp
      clo := fun j oj _ hl => by rw [getD_repl] at hl; cases hl
      remIn := fun r hr => by
        have := List.mem_filter.1 hr
        exact ⟨this.1, this.2, getD_repl _ _⟩
      chIn := fun x hx hc => .inl (List.mem_filter.2 ⟨hx, hc⟩)
      dw := fun j hj => by rw [hasBit_zero] at hj; cases hj
      ev := fun x _ _ hl => by rw [getD_repl] at hl; cases hl
      post := { Post.refl (fl := fl) H F with holds := H.congr rfl, size := Nat.le_refl _, frame := fun _ _ _ => rfl, os := rfl, tape := rfl, output := rfl }
      hsG := fun id b => by simp
      aX := fun q hq => by cases hq
      aP := List.Pairwise.nil
      aN := fun q hq => by cases hq
      remP := (mkItems_pw _ _ _).filter _
      defers := hTR.defers
      ro := rfl
      tsz := hTR.size
      tr := fun d _ => hTR.at_ d }
    obtain ⟨T', A', nx', E', g1, g2, g3⟩ := stopE_spec hf D0 hg
    refine wpIn_region_any hT.mixed (any_of_inv' (Inv T.ro G tab self fail join nt fl ops (mkItems ops.toList 0 []) σ h nx w k) (fun s a w i I hi => inv_step hf hT hS hj hst hit hmem hgl hfl s a w i I hi) ?_ _ _ _ _
      (by unfold unls; exact Nat.le_trans List.countP_le_length (by simp)) ⟨_, _, T', h, A', nx', E', σ, h, g1, g2, g3⟩)
    -- the end
    intro s a w2 ⟨rem, dW, T2, h2, A, nx2, E, σ2, hs, hg, D, hok⟩ hnil
    have hdone : ∀ n i, i < n → i < ops.size → s.getD i false = true := by
      intro n
      induction n with
      | zero => intro i h; omega
      | succ n ih =>
        intro i hi hsz
        cases hd : s.getD i false with
        | true => rfl
        | false =>
          have ho : ops[i]? = some ops[i] := by simp [hsz]
          obtain ⟨m, hx⟩ := hmem i _ ho
          have hr : i ∈ Region.ready .any ops s := mem_ready.2 ⟨getDB (by rw [D.size]; exact hsz) hd, _, ho, fun e he hb => by
            have h1 := (statOk_spec hst hx).2.2.1 e he hb
            simp only at h1
            exact ih e.on (by omega) (by omega)⟩
          rw [hnil] at hr; cases hr
    have hall : ∀ x ∈ mkItems ops.toList 0 [], s.getD x.1 false = true := fun x hx => by
      have h1 := (hit s D.size D.clo x hx).1
      have h2 := (Array.getElem?_eq_some_iff.1 h1).1
      exact hdone (x.1 + 1) x.1 (by omega) h2
    cases rem with
    | cons r rest =>
      have := D.remIn r (List.mem_cons_self ..)
      rw [hall r this.1] at this; cases this.2.2
    | nil =>
      simp only [goE] at hg
      obtain ⟨hF, hg, eF⟩ := mergeE_spec hf hg D.aP (fun q hq => (D.aX q hq).2.2.1)
      have he : ∀ id, hF.get id = hs.get id := get_eq_of_iff fun id b => by
        rw [eF, D.hsG]
        constructor
        · rintro (hb | ⟨j, hj, _⟩)
          · exact .inl hb
          · refine .inr ⟨j, hj, ?_⟩
            obtain ⟨x, h1, h2, _⟩ := D.aN _ hj
            have h3 := hall x h1
            rw [h2] at h3
            exact h3
        · rintro (hb | ⟨j, hj, _⟩)
          · exact .inl hb
          · exact .inr ⟨j, hj, rfl⟩
      exact hQ T2 hF nx2 σ2 a w2 hg ⟨D.defers, D.tsz, fun d => D.tr d fun x hx hun => by rw [hall x hx] at hun; cases hun⟩ D.ro (D.post.congr he)
end
end Go.Proofs.YtmlkfgoiakcnhaaGreatDoor
