/- A region that draws its order: its first n operations read, or call functions after which the world is still of a class C; what stands behind them runs in one order. One walk of the text's order serves. -/
import Derived.Test.YtggbnjdbbomjoaaLib
import Derived.StillTail
import Derived.Deep.Quiet
import Derived.Laws.IdiomCopy
import Derived.Laws.Rows
namespace Go.Proofs.Ytggbnjdbbomjoaa
open Go

section
variable {P : Program} {ops : Array Oper} {md : Region.Mode} {C : World → Prop}

/-- f operations of the head, in whatever order, and then L -/
def headQ (P : Program) (md : Region.Mode) (ops : Array Oper) (C : World → Prop) (n : Nat) (L : Array Bool → Act → Prop) : Nat → Array Bool → Act → Prop
  | 0, s, a => L s a
  | f + 1, s, a => Region.ready md ops s ≠ [] ∧ ∀ i ∈ Region.ready md ops s, i < n ∧ qOp P ops C i (headQ P md ops C n L f (s.setIfInBounds i true)) a

theorem any_of_headQ {n g : Nat} {L : Array Bool → Act → Prop} {Q : Exit → Act → World → Prop} (hL : ∀ s a w, C w → L s a → wpAny P md ops Q g s a w) :
    ∀ (f : Nat) (s : Array Bool) (a : Act) (w : World), C w → headQ P md ops C n L f s a → wpAny P md ops Q (f + g) s a w := by
  intro f
  induction f with
  | zero => intro s a w hw h; rw [Nat.zero_add]; exact hL s a w hw h
  | succ f ih =>
    intro s a w hw h
    have e : f + 1 + g = (f + g) + 1 := by omega
    rw [e]
    refine ⟨fun h0 => absurd h0 h.1, fun i hi => ?_⟩
    exact wpOp_of_qOp hw (fun a' w' hw' h' => ih _ a' w' hw' h') (h.2 i hi).2

theorem head_lt {n i j : Nat} {s : Array Bool} (hs : Region.sinkB md ops n = true) (hc : Region.chainB md ops n = true) (hn : n < ops.size) (inv : HeadInv md ops n s)
    (hi : i ∈ Region.ready md ops s) (hin : i < n) (hj : j ∈ Region.ready md ops s) : j < n := by
  rcases Nat.lt_or_ge j n with h | h
  · exact h
  · exact absurd hj (tail_waits hs hc hn inv _ i rfl hin (mem_ready.1 hi).1 j h)

/-- an operation of the head that yields may be taken first -/
theorem headQ_first {n i : Nat} {oi : Oper} {v : Value} {L : Array Bool → Act → Prop} (hi : ops[i]? = some oi) (hsel : ∀ (j : Nat) (o : Oper) cs b, ops[j]? = some o → o.op ≠ .select cs b)
    (hs : Region.sinkB md ops n = true) (hc : Region.chainB md ops n = true) (hn : n < ops.size) (hin : i < n)
    (hdone : ∀ s a, L s a → ∀ j ∈ Region.ready md ops s, n ≤ j) (f : Nat) :
    ∀ (s : Array Bool) (a : Act), HeadInv md ops n s →
      (∀ j oj, ops[j]? = some oj → j ≠ i → s.getD j true = false → (∀ e ∈ oj.after, Region.binds md e = true → e.on ≠ i) → oi.apart ops oj = true) →
      i ∈ Region.ready md ops s → YieldsIn P ops C oi v a →
      headQ P md ops C n L f (s.setIfInBounds i true) (a.put oi.dst v) → headQ P md ops C n L (f + 1) s a := by
  induction f with
  | zero =>
    intro s a inv _ hr hy H
    refine ⟨fun h => (by rw [h] at hr; cases hr), fun j hj => ⟨head_lt hs hc hn inv hr hin hj, ?_⟩⟩
    by_cases hji : j = i
    · subst hji; exact hy.qOp hi H
    · have h1 := hdone _ _ H j (ready_mono hj hji)
      have h2 := head_lt hs hc hn inv hr hin hj
      omega
  | succ f ih =>
    intro s a inv hfree hr hy H
    refine ⟨fun h => (by rw [h] at hr; cases hr), fun j hj => ⟨head_lt hs hc hn inv hr hin hj, ?_⟩⟩
    by_cases hji : j = i
    · subst hji; exact hy.qOp hi H
    · have hjn := head_lt hs hc hn inv hr hin hj
      obtain ⟨hjun, oj, hoj, hall⟩ := mem_ready.1 hj
      have hnot : ∀ e ∈ oj.after, Region.binds md e = true → e.on ≠ i := fun e he hb heq => by
        have q := hall e he hb
        rw [heq, getD_both (mem_ready.1 hr).1] at q
        cases q
      have h2 := qOp_put hoj (hfree j oj hoj hji hjun hnot) (fun cs b => hsel i oi cs b hi) (fun cs b => hsel j oj cs b hoj) hy (H.2 j (ready_mono hj hji)).2
      refine qOp_mono (fun a' h3 => ?_) h2
      refine ih (s.setIfInBounds j true) a' (inv.set hj hjn) (fun k ok hk hki hun hno => hfree k ok hk hki ?_ hno) (ready_mono hr (Ne.symm hji)) h3.1 ?_
      · by_cases hjk : j = k
        · subst hjk; exact hjun
        · rw [getD_set_ne true hjk] at hun; exact hun
      · rw [Array.setIfInBounds_comm _ _ hji]; exact h3.2

theorem headQ_lex {n g : Nat} {Lq : Act → Prop} (hsel : Region.noSelect ops = true) (hs : Region.sinkB md ops n = true) (hc : Region.chainB md ops n = true) (hn : n < ops.size) :
    ∀ (l : List Oper) (k : Nat) (s : Array Bool) (a : Act), (∀ j, j < l.length → l[j]? = ops[k + j]?) → k + l.length = n → HeadInv md ops n s →
    Region.lexHead md ops g l.length k s = true → wpQuiet P ops C Lq l a →
    headQ P md ops C n (fun s' a' => Region.seqB md ops g n s' = true ∧ Lq a') l.length s a := by
  intro l
  induction l with
  | nil =>
    intro k s a _ hk _ hB h
    obtain rfl : k = n := by simpa using hk
    exact ⟨by simpa [Region.lexHead] using hB, h⟩
  | cons o l ih =>
    intro k s a hl hk inv hB h
    have h0 : ops[k]? = some o := by simpa using (hl 0 (by simp)).symm
    simp only [List.length_cons, Region.lexHead, Bool.and_eq_true] at hB
    have hkn : k < n := by simp only [List.length_cons] at hk; omega
    have hr : k ∈ Region.ready md ops s := by simpa using hB.1.1
    have hst : qOp P ops C k (wpQuiet P ops C Lq l) a := by unfold qOp; simp only [h0]; exact h
    obtain ⟨v, hy, hK⟩ := yieldsIn_of_qOp h0 hst
    exact headQ_first h0 (Region.noSelect_spec hsel) hs hc hn hkn (fun s' a' hL => seqB_ready hL.1) l.length s a inv (Region.free_spec h0 hB.1.2) hr hy
      (ih (k + 1) _ _ (fun j hj => by have := hl (j + 1) (by simp; omega); simpa [Nat.add_assoc, Nat.add_comm 1 j] using this) (by simp only [List.length_cons] at hk; omega) (inv.set hr hkn) hB.2 hK)

theorem wp_region_quiet_tail {id : Nat} {Q : Exit → Act → World → Prop} {a : Act} {w : World} {l : List Oper} (n : Nat) (hm : P.follows .mixedOrders = true) (hB : Region.lexTailB .any l.toArray n = true)
    (hC : C { w with drawn := w.drawn + 1 })
    (h : wpQuiet P l.toArray C (fun a' => ∀ w', C w' → wpList P l.toArray Q (l.drop n) a' w') (l.take n) a) : (Code.region id l.toArray true).wp P Q a w := by
  simp only [Region.lexTailB, Bool.and_eq_true, decide_eq_true_eq] at hB
  obtain ⟨⟨⟨⟨hsel, hn⟩, hs⟩, hc⟩, hlex⟩ := hB
  have hn' : n < l.length := by simpa using hn
  have htl : (l.take n).length = n := by simp; omega
  have hdl : (l.drop n).length = l.toArray.size - n := by simp
  have inv0 : HeadInv .any l.toArray n (Array.replicate l.toArray.size false) :=
    ⟨by simp, fun j oj _ hl => (by rw [getD_replicate_false] at hl; cases hl), fun t _ ht => getD_in (by simpa using ht) (getD_replicate_false _ _)⟩
  have H := headQ_lex (md := .any) (g := l.toArray.size - n) hsel hs hc hn (l.take n) 0 _ a (fun j hj => by rw [htl] at hj; simp [hj]) (by simpa using htl) inv0 (by rw [htl]; exact hlex) h
  refine wp_region_any hm ?_
  have R := any_of_headQ (Q := Q) (g := l.toArray.size - n) (fun s a' w' hw' hL => by
    have := wpAny_of_seq (md := .any) (Q' := Q) (l.drop n) n s a' w' (fun j => by simp [List.getElem?_drop]) (by rw [hdl]; exact hL.1) (hL.2 w' hw')
    rwa [hdl] at this) _ _ _ _ hC H
  rw [htl, show n + (l.toArray.size - n) = l.toArray.size by omega] at R
  exact R
/-- the same at the class of the worlds in which all that was there is as it was -/
theorem wp_region_below_tail {id : Nat} {Q : Exit → Act → World → Prop} {a : Act} {w : World} {l : List Oper} (n : Nat) (hm : P.follows .mixedOrders = true) (hB : Region.lexTailB .any l.toArray n = true)
    (h : wpQuiet P l.toArray (fun w' => RowKit.Below w.heap.size w w') (fun a' => ∀ w', RowKit.Below w.heap.size w w' → wpList P l.toArray Q (l.drop n) a' w') (l.take n) a) : (Code.region id l.toArray true).wp P Q a w :=
  wp_region_quiet_tail (C := fun w' => RowKit.Below w.heap.size w w') n hm hB ⟨rfl, rfl, rfl, Nat.le_refl _, fun _ _ => rfl⟩ h
theorem wp_region_below {id : Nat} {Q : Exit → Act → World → Prop} {a : Act} {w : World} {l : List Oper} (hm : P.follows .mixedOrders = true) (hB : Region.lexB .any l.toArray = true)
    (h : wpQuiet P l.toArray (fun w' => RowKit.Below w.heap.size w w') (fun a' => ∀ w', RowKit.Below w.heap.size w w' → Q .normal a' w') l a) : (Code.region id l.toArray true).wp P Q a w :=
  wp_region_quiet (C := fun w' => RowKit.Below w.heap.size w w') hm hB ⟨rfl, rfl, rfl, Nat.le_refl _, fun _ _ => rfl⟩ (by simpa using h)

variable {Q : Act → Prop} {a : Act} {o : Oper} {rest : List Oper}
/-- one operation that yields a value -/
theorem wq_val {v : Value} (hw : Region.wanted o (yielded ops a.tmps) = true) (hrun : ∀ w, C w → (execOp a.eval o).run P w = .ok (.value v) w)
    (h : ∀ K : Act → Prop, (∀ a, wpQuiet P ops C Q rest a → K a) → K (a.put o.dst v)) : wpQuiet P ops C Q (o :: rest) a := by
  unfold wpQuiet
  rw [if_pos hw]
  refine ⟨v, fun w hC => ?_, h _ (fun _ h => h)⟩
  unfold Oper.quietAt
  rw [hrun w hC]
  exact ⟨rfl, rfl⟩
/-- one that is passed over -/
theorem wq_skip (hw : Region.wanted o (yielded ops a.tmps) = false) (h : ∀ K : Act → Prop, (∀ a, wpQuiet P ops C Q rest a → K a) → K (a.put o.dst undef)) : wpQuiet P ops C Q (o :: rest) a := by
  unfold wpQuiet
  rw [hw]
  exact h _ (fun _ h => h)
/-- a call after which the world is of the class -/
theorem wq_call {v : Value} {f : FuncId} {args : Array Value} (hw : Region.wanted o (yielded ops a.tmps) = true) (hrun : ∀ w, C w → (execOp a.eval o).run P w = .ok (.enter f args) w)
    (hcall : ∀ w, C w → Calls P f args w fun e w'' => e = .returned v ∧ C w'')
    (h : ∀ K : Act → Prop, (∀ a, wpQuiet P ops C Q rest a → K a) → K (a.put o.dst v)) : wpQuiet P ops C Q (o :: rest) a := by
  unfold wpQuiet
  rw [if_pos hw]
  refine ⟨v, fun w hC => ?_, h _ (fun _ h => h)⟩
  unfold Oper.quietAt
  rw [hrun w hC]
  exact ⟨rfl, hcall w hC⟩
/-- a contract that ends in Below, at a world of the class -/
theorem call_below {P : Program} {f : FuncId} {args : Array Value} {W w : World} {v : Value} (hb : RowKit.Below W.heap.size W w)
    (h : Calls P f args w fun e w' => e = .returned v ∧ RowKit.Below w.heap.size w w') : Calls P f args w fun e w'' => e = .returned v ∧ RowKit.Below W.heap.size W w'' :=
  h.mono fun _ _ ⟨he, hb'⟩ => ⟨he, hb.trans (hb'.mono hb.size)⟩
end
/-- the first cells of a block, which may be written -/
def CellsW (w : World) (b : Nat) (vs : List Value) : Prop := ∀ i v, vs[i]? = some v → w.cell? ⟨b, i, none⟩ = some v ∧ w.frozen? ⟨b, i, none⟩ = false
def setAll (w : World) (b : Nat) : Nat → List Value → World
  | _, [] => w
  | i, v :: vs => setAll (w.setCell ⟨b, i, none⟩ v) b (i + 1) vs
theorem CellsW.set1 {w : World} {b : Nat} {pre old : List Value} {u : Value} (h : CellsW w b (pre ++ u :: old)) (v : Value) : CellsW (w.setCell ⟨b, pre.length, none⟩ v) b ((pre ++ [v]) ++ old) := by
  intro i x hx
  obtain ⟨h1, h2⟩ := h pre.length u (by simp)
  by_cases e : i = pre.length
  · subst e
    have : v = x := by simpa using hx
    subst this
    simp [go_sem, h1, h2]
  · have hx' : (pre ++ u :: old)[i]? = some x := by
      rcases Nat.lt_or_ge i pre.length with h' | h'
      · rw [List.getElem?_append_left h']; rw [List.append_assoc, List.getElem?_append_left h'] at hx; exact hx
      · rw [List.getElem?_append_right h']; rw [List.append_assoc, List.getElem?_append_right h'] at hx
        obtain ⟨j, hj⟩ : ∃ j, i - pre.length = j + 1 := ⟨i - pre.length - 1, by omega⟩
        rw [hj] at hx ⊢; simpa using hx
    obtain ⟨h3, h4⟩ := h i x hx'
    simp [go_sem, h3, h4]
theorem CellsW.setAll_pre (b : Nat) : ∀ (vs : List Value) (w : World) (pre old : List Value), old.length = vs.length → CellsW w b (pre ++ old) → CellsW (setAll w b pre.length vs) b (pre ++ vs)
  | [], _, pre, old, hl, h => by
    have : old = [] := List.length_eq_zero_iff.1 (by simpa using hl)
    subst this; exact h
  | v :: vs, _, pre, [], hl, _ => by simp at hl
  | v :: vs, _, pre, u :: old, hl, h => by
    have h1 := h.set1 v
    have h2 := CellsW.setAll_pre b vs _ (pre ++ [v]) old (by simpa using hl) h1
    simp only [List.length_append, List.length_cons, List.length_nil, Nat.zero_add, List.append_assoc, List.cons_append, List.nil_append] at h2
    exact h2
theorem CellsW.all {w : World} {b : Nat} {old : List Value} (h : CellsW w b old) (vs : List Value) (hl : old.length = vs.length) : CellsW (setAll w b 0 vs) b vs :=
  CellsW.setAll_pre b vs w [] old hl h
theorem CellsW.below {w w' : World} {b : Nat} {vs : List Value} {B : Nat} (h : CellsW w b vs) (hb : RowKit.Below B w w') (hB : b < B) : CellsW w' b vs :=
  fun i v hv => by rw [hb.cell (p := ⟨b, i, none⟩) hB, hb.frozen (p := ⟨b, i, none⟩) hB]; exact h i v hv
theorem CellsW.new (w : World) (vs : List Value) (t : TypeId) : CellsW (w.alloc (.cells vs.toArray t)) w.heap.size vs := by
  intro i v hv
  simp [go_sem, hv]
theorem setAll_below {B : Nat} (b : Nat) (hB : B ≤ b) : ∀ (vs : List Value) (i : Nat) (w : World), RowKit.Below B w (setAll w b i vs)
  | [], _, _ => RowKit.Below.refl _ _
  | v :: vs, i, w => ((RowKit.Below.refl B w).setCell hB v).trans (setAll_below b hB vs (i + 1) _)
/-- cells of a block from off on -/
def CellsAt (w : World) (b off : Nat) (vs : List Value) : Prop := ∀ j v, vs[j]? = some v → w.cell? ⟨b, off + j, none⟩ = some v
theorem addr_add (b off j : Nat) : (⟨b, off, none⟩ : Addr).add j = ⟨b, off + j, none⟩ := by unfold Addr.add; split <;> simp_all
section
variable {P : Program} {ops : Array Oper} {rest : List Oper} {o : Oper} {a : Act} {w : World} {Q : Exit → Act → World → Prop}
theorem run_loadVar_cells (ty : TypeId) (b off : Nat) (vs : List Value) (d : TypeDesc) (hu : P.underlying ty = some d) (hd : (match d with | .struct _ | .array _ _ => true | _ => false) = true) (hi : (P.info? ty).map (·.size) = some vs.length)
    (hc : CellsAt w b off vs) : (loadVar ty ⟨b, off, none⟩).run P w = .ok (.agg vs.toArray) w := by
  have hl : (loadCells ⟨b, off, none⟩ vs.length).run P w = .ok vs.toArray w :=
    run_loadCells_list (P := P) w ⟨b, off, none⟩ vs (fun j v hv => by rw [addr_add]; exact hc j v hv)
  cases hq : P.info? ty with
  | none => simp [hq] at hi
  | some i =>
    have hs : i.size = vs.length := by simpa [hq] using hi
    have hagg : (isAgg ty).run P w = .ok true w := by
      unfold isAgg
      rw [Sem.run_bind, run_underlying hu w]
      cases d <;> simp_all
    simp [loadVar, Sem.run_bind, hagg, sizeOf, typeInfo, hq, hs, hl]
theorem wpList_load_cells (hgd : o.guard = none) (ty : TypeId) (x : Operand) (ho : o.op = .load ty x) (b off : Nat) (hx : a.eval x = .pointer (some ⟨b, off, none⟩)) (vs : List Value) (d : TypeDesc)
    (hu : P.underlying ty = some d) (hd : (match d with | .struct _ | .array _ _ => true | _ => false) = true) (hi : (P.info? ty).map (·.size) = some vs.length) (hc : CellsAt w b off vs)
    (h : wpList P ops Q rest (a.put o.dst (.agg vs.toArray)) w) : wpList P ops Q (o :: rest) a w := by
  refine wpList_plain hgd fun K hK => ?_
  unfold Oper.wp execOp
  simp only [ho, hx, Instr.loadAt, Instr.sureAddr, Sem.run_bind, Sem.run_pure, Result.andThen_ok, run_loadVar_cells ty b off vs d hu hd hi hc]
  exact hK _ _ h
theorem wpList_store_cells (hgd : o.guard = none) (ty : TypeId) (x y : Operand) (ho : o.op = .store ty x y) (b off : Nat) (hx : a.eval x = .pointer (some ⟨b, off, none⟩)) (vs : List Value) (hy : a.eval y = .agg vs.toArray)
    (hi : (P.info? ty).map (·.size) = some vs.length) (hone : ∀ v ∈ vs, v.oneCell' = true) (hc : ∀ j, j < vs.length → (w.cell? ⟨b, off + j, none⟩).isSome = true) (hf : ∀ j, j < vs.length → w.frozen? ⟨b, off + j, none⟩ = false)
    (h : wpList P ops Q rest (a.put o.dst undef) (w.setCells b off vs)) : wpList P ops Q (o :: rest) a w := by
  refine wpList_plain hgd fun K hK => ?_
  have hst := run_storeCells_cells (P := P) b off vs 0 w (by simpa using hc) (by simpa using hf) hone
  unfold Oper.wp execOp
  cases hq : P.info? ty with
  | none => simp [hq] at hi
  | some i =>
    have hs : i.size = vs.length := by simpa [hq] using hi
    simp [ho, hx, hy, Instr.storeAt, Instr.sureAddr, storeVar, Sem.run_bind, sizeOf, typeInfo, hq, hs, Value.cells, hst]
    exact hK _ _ h
end
theorem CellsW.cellsAt {w : World} {b : Nat} {vs : List Value} (h : CellsW w b vs) : CellsAt w b 0 vs := fun j v hv => by rw [Nat.zero_add]; exact (h j v hv).1
theorem CellsW.some {w : World} {b : Nat} {vs : List Value} (h : CellsW w b vs) : ∀ j, j < vs.length → (w.cell? ⟨b, 0 + j, none⟩).isSome = true := fun j hj => by
  rw [Nat.zero_add, (h j _ (List.getElem?_eq_getElem hj)).1]; rfl
theorem CellsW.thaw {w : World} {b : Nat} {vs : List Value} (h : CellsW w b vs) : ∀ j, j < vs.length → w.frozen? ⟨b, 0 + j, none⟩ = false := fun j hj => by
  rw [Nat.zero_add, (h j _ (List.getElem?_eq_getElem hj)).2]
theorem CellsW.put {w : World} {b : Nat} {old : List Value} (h : CellsW w b old) (vs : List Value) (hl : old.length = vs.length) : CellsW (w.setCells b 0 vs) b vs := fun i v hv => by
  have hi : i < vs.length := (List.getElem?_eq_some_iff.1 hv).1
  have h1 := World.cell?_setCells_in b vs 0 w (fun j hj => h.some j (by omega)) i hi
  rw [Nat.zero_add] at h1
  have h2 : vs[i] = v := (List.getElem?_eq_some_iff.1 hv).2
  refine ⟨by rw [h1, h2], ?_⟩
  rw [World.frozen?_setCells]
  have := h.thaw i (by omega)
  rwa [Nat.zero_add] at this
theorem CellsW.other {w : World} {b c : Nat} {xs : List Value} (h : CellsW w c xs) (hne : c ≠ b) (o : Nat) (vs : List Value) : CellsW (w.setCells b o vs) c xs := fun i v hv => by
  rw [World.cell?_setCells_out b vs o w _ (fun e _ => absurd e hne), World.frozen?_setCells]
  exact h i v hv
theorem setCells_below {B : Nat} (b : Nat) (hB : B ≤ b) : ∀ (vs : List Value) (i : Nat) (w : World), RowKit.Below B w (w.setCells b i vs)
  | [], _, _ => RowKit.Below.refl _ _
  | _ :: vs, i, w => ((RowKit.Below.refl B w).setCell hB _).trans (setCells_below b hB vs (i + 1) _)
theorem CellsW.alloc {w : World} {b : Nat} {vs : List Value} (h : CellsW w b vs) (hb : b < w.heap.size) (o : Obj) : CellsW (w.alloc o) b vs :=
  h.below ((RowKit.Below.refl w.heap.size w).alloc (Nat.le_refl _) o) hb
end Go.Proofs.Ytggbnjdbbomjoaa
