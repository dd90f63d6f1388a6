/- A region that draws its order, by an invariant: each of its first n operations yields, in whatever order they come, a value of which something is known; what stands behind them runs in one order. -/
import Derived.Test.YtggbnjdbbomjoaaReg
namespace Go.Proofs.Ytggbnjdbbomjoaa
open Go

section
variable {P : Program} {ops : Array Oper} {md : Region.Mode}

/-- how many are not listed -/
def unl (s : Array Bool) : Nat := s.toList.countP (fun b => !b)
theorem countP_set : ∀ (l : List Bool) (i : Nat), l[i]? = some false → (l.set i true).countP (fun b => !b) + 1 = l.countP (fun b => !b)
  | [], i, h => by simp at h
  | b :: l, 0, h => by
    have : b = false := by simpa using h
    subst this; simp
  | b :: l, i + 1, h => by
    have := countP_set l i (by simpa using h)
    simp only [List.set_cons_succ, List.countP_cons]
    omega
theorem unl_set {s : Array Bool} {i : Nat} (h : s.getD i true = false) : unl (s.setIfInBounds i true) + 1 = unl s := by
  have hi : i < s.size := by
    rcases Nat.lt_or_ge i s.size with h' | h'
    · exact h'
    · simp [Array.getElem?_eq_none h'] at h
  have hs : s.toList[i]? = some false := by
    have : s[i] = false := by simpa [hi] using h
    simp [hi, this]
  have := countP_set s.toList i hs
  unfold unl
  simpa using this

theorem any_of_inv {Q : Exit → Act → World → Prop} (I : Array Bool → Act → World → Prop) (hstep : ∀ s a w i, I s a w → i ∈ Region.ready md ops s → wpOp P ops Q i (I (s.setIfInBounds i true)) a w)
    (hend : ∀ s a w, I s a w → Region.ready md ops s = [] → Q .normal a w) : ∀ (f : Nat) (s : Array Bool) (a : Act) (w : World), unl s ≤ f → I s a w → wpAny P md ops Q f s a w := by
  intro f
  induction f with
  | zero =>
    intro s a w hf hI
    have h0 : Region.ready md ops s = [] := by
      rcases hr : Region.ready md ops s with _ | ⟨i, r⟩
      · rfl
      · have hi : i ∈ Region.ready md ops s := by rw [hr]; simp
        have := unl_set (mem_ready.1 hi).1
        omega
    exact ⟨h0, hend _ _ _ hI h0⟩
  | succ f ih =>
    intro s a w hf hI
    refine ⟨fun h0 => hend _ _ _ hI h0, fun i hi => ?_⟩
    have h1 := unl_set (mem_ready.1 hi).1
    exact wpOp_mono (fun a' w' hI' => ih _ _ _ (by omega) hI') (hstep s a w i hI hi)
theorem wp_region_inv {id : Nat} {Q : Exit → Act → World → Prop} {a : Act} {w : World} (hm : P.follows .mixedOrders = true) (I : Array Bool → Act → World → Prop)
    (h0 : I (Array.replicate ops.size false) a { w with drawn := w.drawn + 1 }) (hstep : ∀ s a w i, I s a w → i ∈ Region.ready .any ops s → wpOp P ops Q i (I (s.setIfInBounds i true)) a w)
    (hend : ∀ s a w, I s a w → Region.ready .any ops s = [] → Q .normal a w) : (Code.region id ops true).wp P Q a w :=
  wp_region_any hm (any_of_inv I hstep hend _ _ _ _ (by unfold unl; exact Nat.le_trans List.countP_le_length (by simp)) h0)

/-- an operation, carried out here, yields a value and a world as R says -/
def Oper.flowA (P : Program) (o : Oper) (a : Act) (w : World) (R : Value → World → Prop) : Prop :=
  match (execOp a.eval o).run P w with
  | .ok (.value v) w' => R v w'
  | .ok .skip w' => R undef w'
  | .ok (.enter f args) w' => Calls P f args w' fun e w'' => ∃ v, e = .returned v ∧ R v w''
  | _ => False
theorem Oper.wp_of_flowA {o : Oper} {a : Act} {w : World} {R : Value → World → Prop} {K : Act → World → Prop} {Q : Exit → Act → World → Prop} (h : Oper.flowA P o a w R)
    (hR : ∀ v w', R v w' → K (a.put o.dst v) w') : o.wp P a w K Q := by
  unfold Oper.flowA at h
  unfold Oper.wp
  generalize (execOp a.eval o).run P w = r at *
  cases r with
  | halt x w' => exact h.elim
  | ok n w' =>
    cases n <;> simp only [] at h <;> simp only [Oper.upon]
    case value v => exact hR _ _ h
    case skip => exact hR _ _ h
    case enter f args => exact h.mono fun e w'' ⟨v, he, hr⟩ => by subst he; exact hR _ _ hr

/-- the frame behind the first n operations, vs their values -/
def putAll (ops : List Oper) (vs : Nat → Value) (k : Nat) (a : Act) : Act :=
  match ops with
  | [] => a
  | o :: r => putAll r vs (k + 1) (a.put o.dst (vs k))

/-- the facts about a frame in the middle of the head: what is listed has its value in its slot, the other slots are as they were -/
structure FlowInv (ops : Array Oper) (n : Nat) (Z : Nat → World → Value → Prop) (C : World → Prop) (a0 : Act) (s : Array Bool) (a : Act) (w : World) : Prop where
  world : C w
  defers : a.defers = a0.defers
  size : a.tmps.size = a0.tmps.size
  done : ∀ i o d, i < n → ops[i]? = some o → o.dst = some d → s.getD i false = true → Z i w (a.tmps.getD d undef)
  rest : ∀ d, (∀ i o, i < n → ops[i]? = some o → s.getD i false = true → o.dst ≠ some d) → a.tmps.getD d undef = a0.tmps.getD d undef

/-- how many of the first n are not listed -/
def unh (s : Array Bool) (n : Nat) : Nat := (List.range n).countP (fun i => !(s.getD i false))
theorem unh_set {s : Array Bool} {i n : Nat} (h : s.getD i true = false) (hi : i < n) : unh (s.setIfInBounds i true) n + 1 = unh s n := by
  have his : i < s.size := by
    rcases Nat.lt_or_ge i s.size with h' | h'
    · exact h'
    · simp [Array.getElem?_eq_none h'] at h
  have h0 : s.getD i false = false := getD_both h
  unfold unh
  have key : ∀ m, (List.range m).countP (fun j => !((s.setIfInBounds i true).getD j false)) + (if i < m then 1 else 0) = (List.range m).countP (fun j => !(s.getD j false)) := by
    intro m
    induction m with
    | zero => simp
    | succ m ih =>
      rw [List.range_succ, List.countP_append, List.countP_append, List.countP_singleton, List.countP_singleton]
      by_cases e : i = m
      · subst e
        have h1 : (s.setIfInBounds i true).getD i false = true := by simp [his]
        rw [h1, h0]; simp at ih ⊢; omega
      · rw [getD_set_ne false e]
        by_cases hlt : i < m
        · have e1 : (if i < m + 1 then 1 else 0) = 1 := if_pos (by omega)
          rw [if_pos hlt] at ih; rw [e1]; omega
        · have e1 : (if i < m + 1 then 1 else 0) = 0 := if_neg (by omega)
          rw [if_neg hlt] at ih; rw [e1]; omega
  have := key n
  rw [if_pos hi] at this
  exact this
theorem unh_zero {s : Array Bool} {n : Nat} (h : unh s n = 0) : ∀ i, i < n → s.getD i false = true := by
  intro i hi
  unfold unh at h
  rw [List.countP_eq_zero] at h
  have := h i (List.mem_range.2 hi)
  simpa using this
theorem unh_pos {s : Array Bool} {n : Nat} (h : 0 < unh s n) : ∃ i, i < n ∧ s.getD i false = false ∧ ∀ j, j < i → s.getD j false = true := by
  have hex : ∃ i, i < n ∧ s.getD i false = false := by
    unfold unh at h
    rw [List.countP_pos_iff] at h
    obtain ⟨i, hi, hb⟩ := h
    exact ⟨i, List.mem_range.1 hi, by simpa using hb⟩
  have key : ∀ m, (∃ i, i < m ∧ s.getD i false = false) → ∃ i, i < m ∧ s.getD i false = false ∧ ∀ j, j < i → s.getD j false = true := by
    intro m
    induction m with
    | zero => rintro ⟨i, hi, _⟩; omega
    | succ m ih =>
      rintro ⟨i, hi, hf⟩
      by_cases hm : ∃ i, i < m ∧ s.getD i false = false
      · obtain ⟨i', a, b, c⟩ := ih hm
        exact ⟨i', by omega, b, c⟩
      · refine ⟨i, hi, hf, fun j hj => ?_⟩
        cases hv : s.getD j false with
        | true => rfl
        | false => exact absurd ⟨j, by omega, hv⟩ hm
  exact key n hex

/-- the edges of the head go down -/
def lowB (md : Region.Mode) (ops : Array Oper) (n : Nat) : Bool :=
  (List.range n).all fun i => match ops[i]? with
    | some o => o.after.all fun e => !(Region.binds md e) || decide (e.on < i)
    | none => true
/-- no two of the head write one slot -/
def soleB (ops : Array Oper) (n : Nat) : Bool :=
  (List.range n).all fun i => (List.range n).all fun j => decide (i = j) || (match (ops[i]?).bind (·.dst), (ops[j]?).bind (·.dst) with
    | some d, some e => d != e
    | _, _ => true)
def doneS (m n : Nat) : Array Bool := ((List.range m).map fun i => decide (i < n)).toArray
def flowB (ops : Array Oper) (n : Nat) : Bool :=
  decide (n < ops.size) && Region.sinkB .any ops n && Region.chainB .any ops n && lowB .any ops n && soleB ops n && Region.seqB .any ops (ops.size - n) n (doneS ops.size n)
theorem soleB_spec {ops : Array Oper} {n i j : Nat} {o o' : Oper} {d : Nat} (h : soleB ops n = true) (hi : i < n) (hj : j < n) (ho : ops[i]? = some o) (ho' : ops[j]? = some o') (hd : o.dst = some d) (hd' : o'.dst = some d) : i = j := by
  have h1 := List.all_eq_true.1 (List.all_eq_true.1 h i (List.mem_range.2 hi)) j (List.mem_range.2 hj)
  simp only [ho, ho', Option.bind_some, hd, hd', bne_self_eq_false, Bool.or_false, decide_eq_true_eq] at h1
  exact h1
theorem put_defers (a : Act) (d : Option Nat) (v : Value) : (a.put d v).defers = a.defers := by cases d <;> rfl
theorem put_size (a : Act) (d : Option Nat) (v : Value) : (a.put d v).tmps.size = a.tmps.size := by cases d <;> simp [Act.put]
theorem put_other {a : Act} {d : Option Nat} {e : Nat} {v : Value} (h : d ≠ some e) : (a.put d v).tmps.getD e undef = a.tmps.getD e undef := by
  cases d with
  | none => rfl
  | some d =>
    have : d ≠ e := fun h' => h (by rw [h'])
    simp only [Act.put, Array.getD_eq_getD_getElem?, Array.getElem?_setIfInBounds]
    rw [if_neg this]
theorem put_same {a : Act} {d : Nat} {v : Value} (h : d < a.tmps.size) : (a.put (some d) v).tmps.getD d undef = v := by
  simp [Act.put, h]
/-- the frame is the one that putAll makes -/
theorem putAll_eq (ops : Array Oper) (n : Nat) (hs : soleB ops n = true) (a0 a : Act) (hsz : ∀ i o d, i < n → ops[i]? = some o → o.dst = some d → d < a0.tmps.size)
    (hd : a.defers = a0.defers) (hz : a.tmps.size = a0.tmps.size) (vs : Nat → Value) (hv : ∀ i o d, i < n → ops[i]? = some o → o.dst = some d → a.tmps.getD d undef = vs i)
    (hr : ∀ d, (∀ i o, i < n → ops[i]? = some o → o.dst ≠ some d) → a.tmps.getD d undef = a0.tmps.getD d undef) :
    ∀ (l : List Oper) (k : Nat) (b : Act), (∀ j, l[j]? = (ops.toList.take n)[k + j]?) → k + l.length = (ops.toList.take n).length → b.defers = a0.defers → b.tmps.size = a0.tmps.size →
      (∀ i o d, i < k → i < n → ops[i]? = some o → o.dst = some d → b.tmps.getD d undef = vs i) →
      (∀ d, (∀ i o, i < k → i < n → ops[i]? = some o → o.dst ≠ some d) → b.tmps.getD d undef = a0.tmps.getD d undef) → putAll l vs k b = a
  | [], k, b, _, hk, hbd, hbz, hbv, hbr => by
    have hall : ∀ i o, i < n → ops[i]? = some o → i < k := fun i o hi ho => by
      have h1 : i < ops.size := (Array.getElem?_eq_some_iff.1 ho).1
      simp at hk; omega
    show b = a
    obtain ⟨bt, bd⟩ := b
    obtain ⟨t, df⟩ := a
    simp only at hbd hbz hd hz hv hr hbv hbr
    have e1 : bd = df := hbd.trans hd.symm
    have e2 : bt = t := by
      apply Array.ext (by omega)
      intro d h1 h2
      have g1 : bt.getD d undef = bt[d] := by simp [h1]
      have g2 : t.getD d undef = t[d] := by simp [h2]
      rw [← g1, ← g2]
      by_cases hx : ∃ i o, i < n ∧ ops[i]? = some o ∧ o.dst = some d
      · obtain ⟨i, o, hi, ho, hod⟩ := hx
        rw [hbv i o d (hall i o hi ho) hi ho hod, hv i o d hi ho hod]
      · rw [hbr d (fun i o _ hi ho hod => hx ⟨i, o, hi, ho, hod⟩), hr d (fun i o hi ho hod => hx ⟨i, o, hi, ho, hod⟩)]
    rw [e1, e2]
  | o :: l, k, b, hl, hk, hbd, hbz, hbv, hbr => by
    have h0 : (ops.toList.take n)[k]? = some o := by simpa using (hl 0).symm
    have hkn : k < n := by
      have := (List.getElem?_eq_some_iff.1 h0).1
      simp at this; omega
    have ho : ops[k]? = some o := by
      rw [List.getElem?_take_of_lt hkn] at h0
      simpa using h0
    refine putAll_eq ops n hs a0 a hsz hd hz vs hv hr l (k + 1) (b.put o.dst (vs k)) (fun j => by have := hl (j + 1); simpa [Nat.add_assoc, Nat.add_comm 1 j] using this) (by simp only [List.length_cons] at hk; omega) (by rw [put_defers, hbd]) (by rw [put_size, hbz]) ?_ ?_
    · intro i oi d hi hin hoi hod
      by_cases e : i = k
      · subst e
        have : oi = o := Option.some.inj (hoi.symm.trans ho)
        subst this
        rw [hod]
        exact put_same (by rw [hbz]; exact hsz i oi d hin hoi hod)
      · rw [put_other (fun h => e (soleB_spec hs hin hkn hoi ho hod h))]
        exact hbv i oi d (by omega) hin hoi hod
    · intro d hx
      rw [put_other (hx k o (by omega) hkn ho)]
      exact hbr d (fun i oi hi hin hoi => hx i oi (by omega) hin hoi)

/-- what is asked of operation i of the head -/
def StepAt (P : Program) (ops : Array Oper) (n : Nat) (Z : Nat → World → Value → Prop) (C : World → Prop) (a0 : Act) (i : Nat) (o : Oper) : Prop :=
  ∀ a w, C w → (∀ e, e ∈ o.after → Region.binds .any e = true → ∀ oj d, ops[e.on]? = some oj → oj.dst = some d → Z e.on w (a.tmps.getD d undef)) →
    (∀ d, (∀ j oj, j < n → ops[j]? = some oj → oj.dst ≠ some d) → a.tmps.getD d undef = a0.tmps.getD d undef) →
    if Region.wanted o (yielded ops a.tmps) = true then Oper.flowA P o a w (fun v w' => Z i w' v ∧ C w' ∧ ∀ j u, Z j w u → Z j w' u) else Z i w undef
theorem flow_head {ops : Array Oper} {n : Nat} {Z : Nat → World → Value → Prop} {C : World → Prop} {a0 : Act} {Q : Exit → Act → World → Prop} (hB : flowB ops n = true)
    (hsz : ∀ i o d, i < n → ops[i]? = some o → o.dst = some d → d < a0.tmps.size)
    (hstep : ∀ i o, i < n → ops[i]? = some o → StepAt P ops n Z C a0 i o)
    (htail : ∀ (vs : Nat → Value) w, C w → (∀ i o d, i < n → ops[i]? = some o → o.dst = some d → Z i w (vs i)) → wpList P ops Q (ops.toList.drop n) (putAll (ops.toList.take n) vs 0 a0) w) :
    ∀ (f : Nat) (s : Array Bool) (a : Act) (w : World), unh s n = f → HeadInv .any ops n s → FlowInv ops n Z C a0 s a w → wpAny P .any ops Q (f + (ops.size - n)) s a w := by
  simp only [flowB, Bool.and_eq_true, decide_eq_true_eq] at hB
  obtain ⟨⟨⟨⟨⟨hn, hsink⟩, hchain⟩, hlow⟩, hsole⟩, hseq⟩ := hB
  intro f
  induction f with
  | zero =>
    intro s a w hf inv I
    have hall := unh_zero hf
    have es : s = doneS ops.size n := by
      apply Array.ext (by simp [doneS, inv.size])
      intro i h1 h2
      have hi : i < ops.size := by rw [← inv.size]; exact h1
      have e2 : (doneS ops.size n)[i] = decide (i < n) := by simp [doneS]
      rw [e2]
      by_cases hin : i < n
      · have := hall i hin
        simp [h1] at this
        simp [this, hin]
      · have := inv.tail i (by omega) hi
        simp [h1] at this
        simp [this, hin]
    have ha : putAll (ops.toList.take n) (fun i => a.tmps.getD (((ops[i]?).bind (·.dst)).getD 0) undef) 0 a0 = a := by
      refine putAll_eq ops n hsole a0 a hsz I.defers I.size _ (fun i o d hi ho hd => by simp only [ho, Option.bind_some, hd, Option.getD_some]) (fun d hd => I.rest d (fun i o hi ho _ => hd i o hi ho)) _ 0 a0 (fun j => by rw [Nat.zero_add]) (by simp) rfl rfl (fun i o d h => by omega) (fun d _ => rfl)
    have ht := htail (fun i => a.tmps.getD (((ops[i]?).bind (·.dst)).getD 0) undef) w I.world (fun i o d hi ho hd => by
      simp only [ho, Option.bind_some, hd, Option.getD_some]
      exact I.done i o d hi ho hd (hall i hi))
    rw [ha] at ht
    rw [Nat.zero_add, es]
    have hdl : (ops.toList.drop n).length = ops.size - n := by simp
    have := wpAny_of_seq (md := .any) (Q' := Q) (ops.toList.drop n) n (doneS ops.size n) a w (fun j => by simp [List.getElem?_drop]) (by rw [hdl]; exact hseq) ht
    rwa [hdl] at this
  | succ f ih =>
    intro s a w hf inv I
    obtain ⟨i0, hi0, hf0, hb0⟩ := unh_pos (n := n) (s := s) (by omega)
    have hr0 : i0 ∈ Region.ready .any ops s := by
      obtain ⟨o, ho⟩ : ∃ o, ops[i0]? = some o := ⟨_, Array.getElem?_eq_getElem (by omega)⟩
      refine mem_ready.2 ⟨getD_in (by rw [inv.size]; omega) hf0, o, ho, fun e he hbd => hb0 _ ?_⟩
      have h1 := List.all_eq_true.1 hlow i0 (List.mem_range.2 hi0)
      simp only [ho] at h1
      have h2 := Array.all_eq_true_iff_forall_mem.1 h1 e he
      simp only [hbd, Bool.not_true, Bool.false_or, decide_eq_true_eq] at h2
      exact h2
    rw [show f + 1 + (ops.size - n) = (f + (ops.size - n)) + 1 by omega]
    refine ⟨fun h0 => (by rw [h0] at hr0; cases hr0), fun i hi => ?_⟩
    have hin : i < n := head_lt hsink hchain hn inv hr0 hi0 hi
    obtain ⟨hun, o, ho, hdeps⟩ := mem_ready.1 hi
    have hst := hstep i o hin ho a w I.world (fun e he hbd oj d hoj hd => I.done _ oj d (by
        have h1 := List.all_eq_true.1 hlow i (List.mem_range.2 hin)
        simp only [ho] at h1
        have h2 := Array.all_eq_true_iff_forall_mem.1 h1 e he
        simp only [hbd, Bool.not_true, Bool.false_or, decide_eq_true_eq] at h2
        omega) hoj hd (hdeps e he hbd)) (fun d hd => I.rest d (fun j oj hj hoj _ => hd j oj hj hoj))
    have hunh := unh_set hun hin
    have inv' := inv.set hi hin
    have next : ∀ v w', Z i w' v → C w' → (∀ j u, Z j w u → Z j w' u) → FlowInv ops n Z C a0 (s.setIfInBounds i true) (a.put o.dst v) w' := by
      intro v w' hZ hC hmon
      refine ⟨hC, by rw [put_defers, I.defers], by rw [put_size, I.size], ?_, ?_⟩
      · intro j oj d hj hoj hd hl
        by_cases e : i = j
        · subst e
          have : oj = o := Option.some.inj (hoj.symm.trans ho)
          subst this
          rw [hd, put_same (by rw [I.size]; exact hsz i oj d hin hoj hd)]
          exact hZ
        · rw [getD_set_ne false e] at hl
          rw [put_other (fun h => e (soleB_spec hsole hin hj ho hoj h hd))]
          exact hmon j _ (I.done j oj d hj hoj hd hl)
      · intro d hd
        have h1 : o.dst ≠ some d := hd i o hin ho (by
          have : i < s.size := by rw [inv.size]; omega
          simp [this])
        rw [put_other h1]
        exact I.rest d (fun j oj hj hoj hl => hd j oj hj hoj (by
          by_cases e : i = j
          · subst e; rw [getD_both hun] at hl; cases hl
          · rw [getD_set_ne false e]; exact hl))
    unfold wpOp
    simp only [ho]
    by_cases hw : Region.wanted o (yielded ops a.tmps) = true
    · rw [if_pos hw] at hst ⊢
      exact .inl (Oper.wp_of_flowA hst fun v w' ⟨h1, h2, h3⟩ => ih _ _ _ (by omega) inv' (next v w' h1 h2 h3))
    · rw [if_neg hw] at hst ⊢
      exact ih _ _ _ (by omega) inv' (next undef w hst I.world (fun _ _ h => h))
/-- THE REGION: whatever order is drawn -/
theorem wp_region_flow {id : Nat} {Q : Exit → Act → World → Prop} {a0 : Act} {w : World} {l : List Oper} (n : Nat) (hm : P.follows .mixedOrders = true) (hB : flowB l.toArray n = true)
    (hsz : ∀ i o d, i < n → l[i]? = some o → o.dst = some d → d < a0.tmps.size) (Z : Nat → World → Value → Prop) (C : World → Prop) (hC : C { w with drawn := w.drawn + 1 })
    (hstep : ∀ i o, i < n → l[i]? = some o → StepAt P l.toArray n Z C a0 i o)
    (htail : ∀ (vs : Nat → Value) w, C w → (∀ i o d, i < n → l[i]? = some o → o.dst = some d → Z i w (vs i)) → wpList P l.toArray Q (l.drop n) (putAll (l.take n) vs 0 a0) w) : (Code.region id l.toArray true).wp P Q a0 w := by
  refine wp_region_any hm ?_
  have hn : n < l.length := by simp only [flowB, Bool.and_eq_true, decide_eq_true_eq] at hB; simpa using hB.1.1.1.1.1
  have hu : unh (Array.replicate l.toArray.size false) n = n := by
    unfold unh
    rw [List.countP_eq_length.2 (fun i _ => by rw [getD_replicate_false]; rfl)]
    simp
  have := flow_head (P := P) (Q := Q) (Z := Z) (C := C) (a0 := a0) hB (fun i o d hi ho => hsz i o d hi (by simpa using ho)) (fun i o hi ho => hstep i o hi (by simpa using ho)) (fun vs w hC hZ => by
    have := htail vs w hC (fun i o d hi ho => hZ i o d hi (by simpa using ho))
    simpa using this) n (Array.replicate l.toArray.size false) a0 { w with drawn := w.drawn + 1 } hu
    ⟨by simp, fun j oj _ hl => (by rw [getD_replicate_false] at hl; cases hl), fun t _ ht => getD_in (by simpa using ht) (getD_replicate_false _ _)⟩
    ⟨hC, rfl, rfl, fun i o d _ _ _ hl => (by rw [getD_replicate_false] at hl; cases hl), fun _ _ => rfl⟩
  rwa [show n + (l.toArray.size - n) = l.toArray.size by simp; omega] at this
end

section
variable {P : Program} {o : Oper} {a : Act} {w : World} {R : Value → World → Prop}
theorem flow_val {v : Value} (h : (execOp a.eval o).run P w = .ok (.value v) w) (hR : R v w) : Oper.flowA P o a w R := by
  unfold Oper.flowA; rw [h]; exact hR
theorem flow_new {v : Value} {w' : World} (h : (execOp a.eval o).run P w = .ok (.value v) w') (hR : R v w') : Oper.flowA P o a w R := by
  unfold Oper.flowA; rw [h]; exact hR
theorem flow_call {f : FuncId} {args : Array Value} (h : (execOp a.eval o).run P w = .ok (.enter f args) w) (hc : Calls P f args w fun e w' => ∃ v, e = .returned v ∧ R v w') : Oper.flowA P o a w R := by
  unfold Oper.flowA; rw [h]; exact hc
theorem run_load_cells (ty : TypeId) (x : Operand) (ho : o.op = .load ty x) (b off : Nat) (hx : a.eval x = .pointer (some ⟨b, off, none⟩)) (vs : List Value) (d : TypeDesc)
    (hu : P.underlying ty = some d) (hd : (match d with | .struct _ | .array _ _ => true | _ => false) = true) (hi : (P.info? ty).map (·.size) = some vs.length) (hc : CellsAt w b off vs) :
    (execOp a.eval o).run P w = .ok (.value (.agg vs.toArray)) w := by
  unfold execOp
  simp only [ho, hx, Instr.loadAt, Instr.sureAddr, Sem.run_bind, Sem.run_pure, Result.andThen_ok, run_loadVar_cells ty b off vs d hu hd hi hc]
end

/-- no operation of the head writes slot d -/
theorem free_of {l : List Oper} {n d : Nat} (h : (l.take n).all (fun o => o.dst != some d) = true) : ∀ j oj, j < n → l.toArray[j]? = some oj → oj.dst ≠ some d := by
  intro j oj hj hoj
  have h1 : oj ∈ l.take n := by
    have : (l.take n)[j]? = some oj := by rw [List.getElem?_take_of_lt hj]; simpa using hoj
    exact List.mem_of_getElem? this
  have := List.all_eq_true.1 h oj h1
  simpa using this
end Go.Proofs.Ytggbnjdbbomjoaa
