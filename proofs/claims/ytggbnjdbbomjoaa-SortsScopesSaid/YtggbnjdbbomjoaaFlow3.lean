/- The flow law, where an operation need not keep what was said of itself. -/
import Derived.Test.YtggbnjdbbomjoaaFlow
namespace Go.Proofs.Ytggbnjdbbomjoaa
open Go
section
variable {P : Program}
/-- what is asked of operation i of the head -/
def StepAt3 (P : Program) (ops : Array Oper) (n : Nat) (Z : Nat → World → Value → Prop) (C : World → Prop) (a0 : Act) (i : Nat) (o : Oper) : Prop :=
  ∀ a w, C w → (∀ e, e ∈ o.after → Region.binds .any e = true → ∀ oj d, ops[e.on]? = some oj → oj.dst = some d → Z e.on w (a.tmps.getD d undef)) →
    (∀ d, (∀ j oj, j < n → ops[j]? = some oj → oj.dst ≠ some d) → a.tmps.getD d undef = a0.tmps.getD d undef) →
    if Region.wanted o (yielded ops a.tmps) = true then Oper.flowA P o a w (fun v w' => Z i w' v ∧ C w' ∧ ∀ j u, j ≠ i → Z j w u → Z j w' u) else Z i w undef
theorem flow_head3 {ops : Array Oper} {n : Nat} {Z : Nat → World → Value → Prop} {C : World → Prop} {a0 : Act} {Q : Exit → Act → World → Prop} (hB : flowB ops n = true)
    (hsz : ∀ i o d, i < n → ops[i]? = some o → o.dst = some d → d < a0.tmps.size)
    (hstep : ∀ i o, i < n → ops[i]? = some o → StepAt3 P ops n Z C a0 i o)
    (htail : ∀ (vs : Nat → Value) w, C w → (∀ i o d, i < n → ops[i]? = some o → o.dst = some d → Z i w (vs i)) → wpList P ops Q (ops.toList.drop n) (putAll (ops.toList.take n) vs 0 a0) w) :
    ∀ (f : Nat) (s : Array Bool) (a : Act) (w : World), unh s n = f → HeadInv .any ops n s → FlowInv ops n Z C a0 s a w → wpAny P .any ops Q (f + (ops.size - n)) s a w := by
  simp only [flowB, Bool.and_eq_true, decide_eq_true_eq] at hB
  obtain ⟨⟨⟨⟨⟨hn, hsink⟩, hchain⟩, hlow⟩, hsole⟩, hseq⟩ := hB
  intro f
  induction f with
  | zero =>
    intro s a w hf inv I
    have hall := unh_zero hf
    have es : s = doneS ops.size n := by
      apply Array.ext (by simp [doneS, inv.size])
      intro i h1 h2
      have hi : i < ops.size := by rw [← inv.size]; exact h1
      have e2 : (doneS ops.size n)[i] = decide (i < n) := by simp [doneS]
      rw [e2]
      by_cases hin : i < n
      · have := hall i hin
        simp [h1] at this
        simp [this, hin]
      · have := inv.tail i (by omega) hi
        simp [h1] at this
        simp [this, hin]
    have ha : putAll (ops.toList.take n) (fun i => a.tmps.getD (((ops[i]?).bind (·.dst)).getD 0) undef) 0 a0 = a := by
      refine putAll_eq ops n hsole a0 a hsz I.defers I.size _ (fun i o d hi ho hd => by simp only [ho, Option.bind_some, hd, Option.getD_some]) (fun d hd => I.rest d (fun i o hi ho _ => hd i o hi ho)) _ 0 a0 (fun j => by rw [Nat.zero_add]) (by simp) rfl rfl (fun i o d h => by omega) (fun d _ => rfl)
    have ht := htail (fun i => a.tmps.getD (((ops[i]?).bind (·.dst)).getD 0) undef) w I.world (fun i o d hi ho hd => by
      simp only [ho, Option.bind_some, hd, Option.getD_some]
      exact I.done i o d hi ho hd (hall i hi))
    rw [ha] at ht
    rw [Nat.zero_add, es]
    have hdl : (ops.toList.drop n).length = ops.size - n := by simp
    have := wpAny_of_seq (md := .any) (Q' := Q) (ops.toList.drop n) n (doneS ops.size n) a w (fun j => by simp [List.getElem?_drop]) (by rw [hdl]; exact hseq) ht
    rwa [hdl] at this
  | succ f ih =>
    intro s a w hf inv I
    obtain ⟨i0, hi0, hf0, hb0⟩ := unh_pos (n := n) (s := s) (by omega)
    have hr0 : i0 ∈ Region.ready .any ops s := by
      obtain ⟨o, ho⟩ : ∃ o, ops[i0]? = some o := ⟨_, Array.getElem?_eq_getElem (by omega)⟩
      refine mem_ready.2 ⟨getD_in (by rw [inv.size]; omega) hf0, o, ho, fun e he hbd => hb0 _ ?_⟩
      have h1 := List.all_eq_true.1 hlow i0 (List.mem_range.2 hi0)
      simp only [ho] at h1
      have h2 := Array.all_eq_true_iff_forall_mem.1 h1 e he
      simp only [hbd, Bool.not_true, Bool.false_or, decide_eq_true_eq] at h2
      exact h2
    rw [show f + 1 + (ops.size - n) = (f + (ops.size - n)) + 1 by omega]
    refine ⟨fun h0 => (by rw [h0] at hr0; cases hr0), fun i hi => ?_⟩
    have hin : i < n := head_lt hsink hchain hn inv hr0 hi0 hi
    obtain ⟨hun, o, ho, hdeps⟩ := mem_ready.1 hi
    have hst := hstep i o hin ho a w I.world (fun e he hbd oj d hoj hd => I.done _ oj d (by
        have h1 := List.all_eq_true.1 hlow i (List.mem_range.2 hin)
        simp only [ho] at h1
        have h2 := Array.all_eq_true_iff_forall_mem.1 h1 e he
        simp only [hbd, Bool.not_true, Bool.false_or, decide_eq_true_eq] at h2
        omega) hoj hd (hdeps e he hbd)) (fun d hd => I.rest d (fun j oj hj hoj _ => hd j oj hj hoj))
    have hunh := unh_set hun hin
    have inv' := inv.set hi hin
    have next : ∀ v w', Z i w' v → C w' → (∀ j u, j ≠ i → Z j w u → Z j w' u) → FlowInv ops n Z C a0 (s.setIfInBounds i true) (a.put o.dst v) w' := by
      intro v w' hZ hC hmon
      refine ⟨hC, by rw [put_defers, I.defers], by rw [put_size, I.size], ?_, ?_⟩
      · intro j oj d hj hoj hd hl
        by_cases e : i = j
        · subst e
          have : oj = o := Option.some.inj (hoj.symm.trans ho)
          subst this
          rw [hd, put_same (by rw [I.size]; exact hsz i oj d hin hoj hd)]
          exact hZ
        · rw [getD_set_ne false e] at hl
          rw [put_other (fun h => e (soleB_spec hsole hin hj ho hoj h hd))]
          exact hmon j _ (Ne.symm e) (I.done j oj d hj hoj hd hl)
      · intro d hd
        have h1 : o.dst ≠ some d := hd i o hin ho (by
          have : i < s.size := by rw [inv.size]; omega
          simp [this])
        rw [put_other h1]
        exact I.rest d (fun j oj hj hoj hl => hd j oj hj hoj (by
          by_cases e : i = j
          · subst e; rw [getD_both hun] at hl; cases hl
          · rw [getD_set_ne false e]; exact hl))
    unfold wpOp
    simp only [ho]
    by_cases hw : Region.wanted o (yielded ops a.tmps) = true
    · rw [if_pos hw] at hst ⊢
      exact .inl (Oper.wp_of_flowA hst fun v w' ⟨h1, h2, h3⟩ => ih _ _ _ (by omega) inv' (next v w' h1 h2 h3))
    · rw [if_neg hw] at hst ⊢
      exact ih _ _ _ (by omega) inv' (next undef w hst I.world (fun _ _ _ h => h))
/-- THE REGION: whatever order is drawn -/
theorem wp_region_flow3 {id : Nat} {Q : Exit → Act → World → Prop} {a0 : Act} {w : World} {l : List Oper} (n : Nat) (hm : P.follows .mixedOrders = true) (hB : flowB l.toArray n = true)
    (hsz : ∀ i o d, i < n → l[i]? = some o → o.dst = some d → d < a0.tmps.size) (Z : Nat → World → Value → Prop) (C : World → Prop) (hC : C { w with drawn := w.drawn + 1 })
    (hstep : ∀ i o, i < n → l[i]? = some o → StepAt3 P l.toArray n Z C a0 i o)
    (htail : ∀ (vs : Nat → Value) w, C w → (∀ i o d, i < n → l[i]? = some o → o.dst = some d → Z i w (vs i)) → wpList P l.toArray Q (l.drop n) (putAll (l.take n) vs 0 a0) w) : (Code.region id l.toArray true).wp P Q a0 w := by
  refine wp_region_any hm ?_
  have hn : n < l.length := by simp only [flowB, Bool.and_eq_true, decide_eq_true_eq] at hB; simpa using hB.1.1.1.1.1
  have hu : unh (Array.replicate l.toArray.size false) n = n := by
    unfold unh
    rw [List.countP_eq_length.2 (fun i _ => by rw [getD_replicate_false]; rfl)]
    simp
  have := flow_head3 (P := P) (Q := Q) (Z := Z) (C := C) (a0 := a0) hB (fun i o d hi ho => hsz i o d hi (by simpa using ho)) (fun i o hi ho => hstep i o hi (by simpa using ho)) (fun vs w hC hZ => by
    have := htail vs w hC (fun i o d hi ho => hZ i o d hi (by simpa using ho))
    simpa using this) n (Array.replicate l.toArray.size false) a0 { w with drawn := w.drawn + 1 } hu
    ⟨by simp, fun j oj _ hl => (by rw [getD_replicate_false] at hl; cases hl), fun t _ ht => getD_in (by simpa using ht) (getD_replicate_false _ _)⟩
    ⟨hC, rfl, rfl, fun i o d _ _ _ hl => (by rw [getD_replicate_false] at hl; cases hl), fun _ _ => rfl⟩
  rwa [show n + (l.toArray.size - n) = l.toArray.size by simp; omega] at this
end
end Go.Proofs.Ytggbnjdbbomjoaa
