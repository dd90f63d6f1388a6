/- Memory, regions that draw their order; the sorts package (1). -/
import Derived.Test.YtendekbckfpmgaaGreatChecked
import Derived.WalkKit
import Derived.WalkSpells
import Derived.WalkLawsBesides
import Derived.RowKit3
import Derived.Lib.Hide
import Derived.StillTail
import Derived.Deep.Quiet
import Derived.Laws.IdiomCopy
import Derived.Laws.Rows
import Derived.Lib.Strings
import Derived.Maps.AppendAt
import Derived.Maps.Own
import Derived.Maps.OwnSet
namespace Go.Proofs.YtendekbckfpmgaaGreat
open Go.RowKit
theorem bcell {W w1 : World} (hb : Below W.heap.size W w1) : (∀ b o, b < W.heap.size → w1.cell? ⟨b, o, none⟩ = W.cell? ⟨b, o, none⟩) ∧ (∀ b o, b < W.heap.size → w1.frozen? ⟨b, o, none⟩ = W.frozen? ⟨b, o, none⟩) :=
 ⟨fun b o h => hb.cell (p := ⟨b, o, none⟩) h, fun b o h => hb.frozen (p := ⟨b, o, none⟩) h⟩
def I64 (x : Int) : Prop := -9223372036854775808 ≤ x ∧ x ≤ 9223372036854775807
end Go.Proofs.YtendekbckfpmgaaGreat
namespace Go.Proofs.YtendekbckfpmgaaGreat
open Go
section
variable {P : Program} {ops : Array Oper} {md : Region.Mode} {C : World → Prop}
def headQ (P : Program) (md : Region.Mode) (ops : Array Oper) (C : World → Prop) (n : Nat) (L : Array Bool → Act → Prop) : Nat → Array Bool → Act → Prop
 | 0, s, a => L s a
 | f + 1, s, a => Region.ready md ops s ≠ [] ∧ ∀ i ∈ Region.ready md ops s, i < n ∧ qOp P ops C i (headQ P md ops C n L f (s.setIfInBounds i true)) a
theorem any_of_headQ {n g : Nat} {L : Array Bool → Act → Prop} {Q : Exit → Act → World → Prop} (hL : ∀ s a w, C w → L s a → wpAny P md ops Q g s a w) :
 ∀ (f : Nat) (s : Array Bool) (a : Act) (w : World), C w → headQ P md ops C n L f s a → wpAny P md ops Q (f + g) s a w := by
 intro f
 induction f with
 | zero => intro s a w hw h; rw [Nat.zero_add]; exact hL s a w hw h
 | succ f ih =>
  intro s a w hw h
  have e : f + 1 + g = (f + g) + 1 := by omega
  rw [e]
  refine ⟨fun h0 => absurd h0 h.1, fun i hi => ?_⟩
  exact wpOp_of_qOp hw (fun a' w' hw' h' => ih _ a' w' hw' h') (h.2 i hi).2
theorem head_lt {n i j : Nat} {s : Array Bool} (hs : Region.sinkB md ops n = true) (hc : Region.chainB md ops n = true) (hn : n < ops.size) (inv : HeadInv md ops n s)
 (hi : i ∈ Region.ready md ops s) (hin : i < n) (hj : j ∈ Region.ready md ops s) : j < n := by
 rcases Nat.lt_or_ge j n with h | h
 · exact h
 · exact absurd hj (tail_waits hs hc hn inv _ i rfl hin (mem_ready.1 hi).1 j h)
theorem headQ_first {n i : Nat} {oi : Oper} {v : Value} {L : Array Bool → Act → Prop} (hi : ops[i]? = some oi) (hsel : ∀ (j : Nat) (o : Oper) cs b, ops[j]? = some o → o.op ≠ .select cs b)
 (hs : Region.sinkB md ops n = true) (hc : Region.chainB md ops n = true) (hn : n < ops.size) (hin : i < n)
 (hdone : ∀ s a, L s a → ∀ j ∈ Region.ready md ops s, n ≤ j) (f : Nat) :
 ∀ (s : Array Bool) (a : Act), HeadInv md ops n s →
  (∀ j oj, ops[j]? = some oj → j ≠ i → s.getD j true = false → (∀ e ∈ oj.after, Region.binds md e = true → e.on ≠ i) → oi.apart ops oj = true) →
  i ∈ Region.ready md ops s → YieldsIn P ops C oi v a →
  headQ P md ops C n L f (s.setIfInBounds i true) (a.put oi.dst v) → headQ P md ops C n L (f + 1) s a := by
 induction f with
 | zero =>
  intro s a inv _ hr hy H
  refine ⟨fun h => (by rw [h] at hr; cases hr), fun j hj => ⟨head_lt hs hc hn inv hr hin hj, ?_⟩⟩
  by_cases hji : j = i
  · subst hji; exact hy.qOp hi H
  · have h1 := hdone _ _ H j (ready_mono hj hji)
    have h2 := head_lt hs hc hn inv hr hin hj
    omega
 | succ f ih =>
  intro s a inv hfree hr hy H
  refine ⟨fun h => (by rw [h] at hr; cases hr), fun j hj => ⟨head_lt hs hc hn inv hr hin hj, ?_⟩⟩
  by_cases hji : j = i
  · subst hji; exact hy.qOp hi H
  · have hjn := head_lt hs hc hn inv hr hin hj
    obtain ⟨hjun, oj, hoj, hall⟩ := mem_ready.1 hj
    have hnot : ∀ e ∈ oj.after, Region.binds md e = true → e.on ≠ i := fun e he hb heq => by
     have q := hall e he hb
     rw [heq, getD_both (mem_ready.1 hr).1] at q
     cases q
    have h2 := qOp_put hoj (hfree j oj hoj hji hjun hnot) (fun cs b => hsel i oi cs b hi) (fun cs b => hsel j oj cs b hoj) hy (H.2 j (ready_mono hj hji)).2
    refine qOp_mono (fun a' h3 => ?_) h2
    refine ih (s.setIfInBounds j true) a' (inv.set hj hjn) (fun k ok hk hki hun hno => hfree k ok hk hki ?_ hno) (ready_mono hr (Ne.symm hji)) h3.1 ?_
    · by_cases hjk : j = k
      · subst hjk; exact hjun
      · rw [getD_set_ne true hjk] at hun; exact hun
    · rw [Array.setIfInBounds_comm _ _ hji]; exact h3.2
theorem headQ_lex {n g : Nat} {Lq : Act → Prop} (hsel : Region.noSelect ops = true) (hs : Region.sinkB md ops n = true) (hc : Region.chainB md ops n = true) (hn : n < ops.size) :
 ∀ (l : List Oper) (k : Nat) (s : Array Bool) (a : Act), (∀ j, j < l.length → l[j]? = ops[k + j]?) → k + l.length = n → HeadInv md ops n s →
 Region.lexHead md ops g l.length k s = true → wpQuiet P ops C Lq l a →
 headQ P md ops C n (fun s' a' => Region.seqB md ops g n s' = true ∧ Lq a') l.length s a := by
 intro l
 induction l with
 | nil =>
  intro k s a _ hk _ hB h
  obtain rfl : k = n := by simpa using hk
  exact ⟨by simpa [Region.lexHead] using hB, h⟩
 | cons o l ih =>
  intro k s a hl hk inv hB h
  have h0 : ops[k]? = some o := by simpa using (hl 0 (by simp)).symm
  simp only [List.length_cons, Region.lexHead, Bool.and_eq_true] at hB
  have hkn : k < n := by simp only [List.length_cons] at hk; omega
  have hr : k ∈ Region.ready md ops s := by simpa using hB.1.1
  have hst : qOp P ops C k (wpQuiet P ops C Lq l) a := by unfold qOp; simp only [h0]; exact h
  obtain ⟨v, hy, hK⟩ := yieldsIn_of_qOp h0 hst
  exact headQ_first h0 (Region.noSelect_spec hsel) hs hc hn hkn (fun s' a' hL => seqB_ready hL.1) l.length s a inv (Region.free_spec h0 hB.1.2) hr hy
   (ih (k + 1) _ _ (fun j hj => by have := hl (j + 1) (by simp; omega); simpa [Nat.add_assoc, Nat.add_comm 1 j] using this) (by simp only [List.length_cons] at hk; omega) (inv.set hr hkn) hB.2 hK)
theorem wp_region_quiet_tail {id : Nat} {Q : Exit → Act → World → Prop} {a : Act} {w : World} {l : List Oper} (n : Nat) (hm : P.follows .mixedOrders = true) (hB : Region.lexTailB .any l.toArray n = true)
 (hC : C { w with drawn := w.drawn + 1 })
 (h : wpQuiet P l.toArray C (fun a' => ∀ w', C w' → wpList P l.toArray Q (l.drop n) a' w') (l.take n) a) : (Code.region id l.toArray true).wp P Q a w := by
 simp only [Region.lexTailB, Bool.and_eq_true, decide_eq_true_eq] at hB
 obtain ⟨⟨⟨⟨hsel, hn⟩, hs⟩, hc⟩, hlex⟩ := hB
 have hn' : n < l.length := by simpa using hn
 have htl : (l.take n).length = n := by simp; omega
 have hdl : (l.drop n).length = l.toArray.size - n := by simp
 have inv0 : HeadInv .any l.toArray n (Array.replicate l.toArray.size false) :=
  ⟨by simp, fun j oj _ hl => (by rw [getD_replicate_false] at hl; cases hl), fun t _ ht => getD_in (by simpa using ht) (getD_replicate_false _ _)⟩
 have H := headQ_lex (md := .any) (g := l.toArray.size - n) hsel hs hc hn (l.take n) 0 _ a (fun j hj => by rw [htl] at hj; simp [hj]) (by simpa using htl) inv0 (by rw [htl]; exact hlex) h
 refine wp_region_any hm ?_
 have R := any_of_headQ (Q := Q) (g := l.toArray.size - n) (fun s a' w' hw' hL => by
  have := wpAny_of_seq (md := .any) (Q' := Q) (l.drop n) n s a' w' (fun j => by simp [List.getElem?_drop]) (by rw [hdl]; exact hL.1) (hL.2 w' hw')
  rwa [hdl] at this) _ _ _ _ hC H
 rw [htl, show n + (l.toArray.size - n) = l.toArray.size by omega] at R
 exact R
theorem wp_region_below_tail {id : Nat} {Q : Exit → Act → World → Prop} {a : Act} {w : World} {l : List Oper} (n : Nat) (hm : P.follows .mixedOrders = true) (hB : Region.lexTailB .any l.toArray n = true)
 (h : wpQuiet P l.toArray (fun w' => RowKit.Below w.heap.size w w') (fun a' => ∀ w', RowKit.Below w.heap.size w w' → wpList P l.toArray Q (l.drop n) a' w') (l.take n) a) : (Code.region id l.toArray true).wp P Q a w :=
 wp_region_quiet_tail (C := fun w' => RowKit.Below w.heap.size w w') n hm hB ⟨rfl, rfl, rfl, Nat.le_refl _, fun _ _ => rfl⟩ h
theorem wp_region_below {id : Nat} {Q : Exit → Act → World → Prop} {a : Act} {w : World} {l : List Oper} (hm : P.follows .mixedOrders = true) (hB : Region.lexB .any l.toArray = true)
 (h : wpQuiet P l.toArray (fun w' => RowKit.Below w.heap.size w w') (fun a' => ∀ w', RowKit.Below w.heap.size w w' → Q .normal a' w') l a) : (Code.region id l.toArray true).wp P Q a w :=
 wp_region_quiet (C := fun w' => RowKit.Below w.heap.size w w') hm hB ⟨rfl, rfl, rfl, Nat.le_refl _, fun _ _ => rfl⟩ (by simpa using h)
variable {Q : Act → Prop} {a : Act} {o : Oper} {rest : List Oper}
theorem wq_val {v : Value} (hw : Region.wanted o (yielded ops a.tmps) = true) (hrun : ∀ w, C w → (execOp a.eval o).run P w = .ok (.value v) w)
 (h : ∀ K : Act → Prop, (∀ a, wpQuiet P ops C Q rest a → K a) → K (a.put o.dst v)) : wpQuiet P ops C Q (o :: rest) a := by
 unfold wpQuiet
 rw [if_pos hw]
 refine ⟨v, fun w hC => ?_, h _ (fun _ h => h)⟩
 unfold Oper.quietAt
 rw [hrun w hC]
 exact ⟨rfl, rfl⟩
theorem wq_skip (hw : Region.wanted o (yielded ops a.tmps) = false) (h : ∀ K : Act → Prop, (∀ a, wpQuiet P ops C Q rest a → K a) → K (a.put o.dst undef)) : wpQuiet P ops C Q (o :: rest) a := by
 unfold wpQuiet
 rw [hw]
 exact h _ (fun _ h => h)
theorem wq_call {v : Value} {f : FuncId} {args : Array Value} (hw : Region.wanted o (yielded ops a.tmps) = true) (hrun : ∀ w, C w → (execOp a.eval o).run P w = .ok (.enter f args) w)
 (hcall : ∀ w, C w → Calls P f args w fun e w'' => e = .returned v ∧ C w'')
 (h : ∀ K : Act → Prop, (∀ a, wpQuiet P ops C Q rest a → K a) → K (a.put o.dst v)) : wpQuiet P ops C Q (o :: rest) a := by
 unfold wpQuiet
 rw [if_pos hw]
 refine ⟨v, fun w hC => ?_, h _ (fun _ h => h)⟩
 unfold Oper.quietAt
 rw [hrun w hC]
 exact ⟨rfl, hcall w hC⟩
theorem call_below {P : Program} {f : FuncId} {args : Array Value} {W w : World} {v : Value} (hb : RowKit.Below W.heap.size W w)
 (h : Calls P f args w fun e w' => e = .returned v ∧ RowKit.Below w.heap.size w w') : Calls P f args w fun e w'' => e = .returned v ∧ RowKit.Below W.heap.size W w'' :=
 h.mono fun _ _ ⟨he, hb'⟩ => ⟨he, hb.trans (hb'.mono hb.size)⟩
end
def CellsW (w : World) (b : Nat) (vs : List Value) : Prop := ∀ i v, vs[i]? = some v → w.cell? ⟨b, i, none⟩ = some v ∧ w.frozen? ⟨b, i, none⟩ = false
theorem CellsW.new (w : World) (vs : List Value) (t : TypeId) : CellsW (w.alloc (.cells vs.toArray t)) w.heap.size vs := by
 intro i v hv
 simp [go_sem, hv]
def CellsAt (w : World) (b off : Nat) (vs : List Value) : Prop := ∀ j v, vs[j]? = some v → w.cell? ⟨b, off + j, none⟩ = some v
theorem addr_add (b off j : Nat) : (⟨b, off, none⟩ : Addr).add j = ⟨b, off + j, none⟩ := by unfold Addr.add; split <;> simp_all
section
variable {P : Program} {ops : Array Oper} {rest : List Oper} {o : Oper} {a : Act} {w : World} {Q : Exit → Act → World → Prop}
theorem run_loadVar_cells (ty : TypeId) (b off : Nat) (vs : List Value) (d : TypeDesc) (hu : P.underlying ty = some d) (hd : (match d with | .struct _ | .array _ _ => true | _ => false) = true) (hi : (P.info? ty).map (·.size) = some vs.length)
 (hc : CellsAt w b off vs) : (loadVar ty ⟨b, off, none⟩).run P w = .ok (.agg vs.toArray) w := by
 have hl : (loadCells ⟨b, off, none⟩ vs.length).run P w = .ok vs.toArray w :=
  run_loadCells_list (P := P) w ⟨b, off, none⟩ vs (fun j v hv => by rw [addr_add]; exact hc j v hv)
 cases hq : P.info? ty with
 | none => simp [hq] at hi
 | some i =>
  have hs : i.size = vs.length := by simpa [hq] using hi
  have hagg : (isAgg ty).run P w = .ok true w := by
   unfold isAgg
   rw [Sem.run_bind, run_underlying hu w]
   cases d <;> simp_all
  simp [loadVar, Sem.run_bind, hagg, sizeOf, typeInfo, hq, hs, hl]
end
end Go.Proofs.YtendekbckfpmgaaGreat
namespace Go.Proofs.YtendekbckfpmgaaGreat
open Go.RowKit
theorem map_some_eq (m : Nat) (w : World) : (binOp BinOp.eql 137 (.map (some m)) (.map none)).run Tryz.prog w = .ok (.bool false) w := by kernel_rfl
set_option maxRecDepth 100000 in
theorem none_there (b o m : Nat) (w : World) (h : w.cell? ⟨b, o + 1, none⟩ = some (.map (some m))) : Calls Tryz.prog 60 #[.pointer (some ⟨b, o, none⟩)] w fun e w' => e = .returned (.bool false) ∧ w' = w := by
 have hm := map_some_eq m
 go_enter Tryz.func60, Tryz.ntmps60
 go_wp2
 go_ret
 exact ⟨rfl, rfl⟩
def idx (s : ByteArray) : List ByteArray → Int → Int
 | [], _ => -1
 | t :: r, i => if s = t then i else idx s r (i + 1)
set_option maxRecDepth 100000 in
theorem index_any (b o : Nat) (ws : List ByteArray) (c : Nat) (s : ByteArray) (w : World) (h : ∀ j, j < ws.length → w.cell? ⟨b, o + j, none⟩ = some (.string (ws.getD j ByteArray.empty))) (hl : ws.length ≤ 1000) :
 Calls Tryz.prog 125 #[.slice (some ⟨b, o, none⟩) ws.length c, .string s] w fun e w' => e = .returned (.int .i64 (idx s ws 0)) ∧ w' = w := by
 have H := Lib.hid h
 clear h
 go_enter Tryz.func125, Tryz.ntmps125
 go_wp2
 go_loop [8] (fun vi => ∃ k : Nat, vi = .int .i64 k ∧ k ≤ ws.length ∧ Hid (idx s ws 0 = idx s (ws.drop k) k))
  (fun vi => ws.length - (intOf vi).toNat)
 case atStart => exact ⟨0, rfl, by omega, Lib.hid rfl⟩
 case round =>
  obtain ⟨k, rfl, hk, hi⟩ := hrel
  by_cases hkn : k < ws.length
  · have hc := H.out k hkn
    have hd : ws.drop k = ws[k] :: ws.drop (k + 1) := List.drop_eq_getElem_cons hkn
    have hg : ws.getD k ByteArray.empty = ws[k] := by simp [List.getD, List.getElem?_eq_getElem hkn]
    rw [hg] at hc
    have hs := hi.out
    rw [hd] at hs
    generalize ws[k] = t at hc hs
    clear hd hg
    by_cases e : s = t
    · subst e
      have HS : Hid (idx s ws 0 = k) := Lib.hid (by rw [hs]; simp [idx])
      clear hs
      go_wp2
      go_ret
      exact ⟨by rw [HS.out]; rfl, rfl⟩
    · have hne : (s.toList == t.toList) = false := by
       rw [beq_eq_false_iff_ne]
       intro q
       rw [Lib.toList_data, Lib.toList_data] at q
       exact e (ByteArray.ext (by simpa using q))
      have HS : Hid (idx s ws 0 = idx s (ws.drop (k + 1)) ((k + 1 : Nat) : Int)) := Lib.hid (by rw [hs]; simp [idx, e])
      clear hs e
      go_wp2
      exact ⟨⟨k + 1, rfl, hkn, HS⟩, by simp [intOf]; omega⟩
  · have HS : Hid (idx s ws 0 = -1) := Lib.hid (by rw [hi.out, List.drop_of_length_le (by omega)]; rfl)
    go_wp2
    go_ret
    exact ⟨by rw [HS.out]; rfl, rfl⟩
theorem idx_neg (s : ByteArray) : ∀ (l : List ByteArray) (i : Int), 0 ≤ i → (0 ≤ idx s l i ↔ s ∈ l)
 | [], i, _ => by simp [idx]
 | t :: r, i, h => by
  by_cases e : s = t
  · subst e; simp [idx, h]
  · have := idx_neg s r (i + 1) (by omega)
    simp [idx, e, this]
set_option maxRecDepth 100000 in
theorem contains_any (b o : Nat) (ws : List ByteArray) (c : Nat) (s : ByteArray) (w : World) (h : ∀ j, j < ws.length → w.cell? ⟨b, o + j, none⟩ = some (.string (ws.getD j ByteArray.empty))) (hl : ws.length ≤ 1000) :
 Calls Tryz.prog 104 #[.slice (some ⟨b, o, none⟩) ws.length c, .string s] w fun e w' => e = .returned (.bool (decide (0 ≤ idx s ws 0))) ∧ w' = w := by
 have HI := Lib.hid (index_any b o ws c s w h hl)
 clear h
 go_enter Tryz.func104, Tryz.ntmps104
 go_wp2_with fail
 refine HI.out.mono ?_; rintro e w1 ⟨rfl, rfl⟩
 go_wp2
 go_ret
 exact ⟨rfl, rfl⟩
end Go.Proofs.YtendekbckfpmgaaGreat
namespace Go.Proofs.YtendekbckfpmgaaGreat
open Go.RowKit
def words13 : List ByteArray := [⟨#[95]⟩, ⟨#[33]⟩, ⟨#[97, 115]⟩, ⟨#[108, 101, 116]⟩, ⟨#[101, 120, 105, 115, 116, 115]⟩, ⟨#[102, 111, 114, 97, 108, 108]⟩, ⟨#[109, 97, 116, 99, 104]⟩, ⟨#[112, 97, 114]⟩, ⟨#[66, 73, 78, 65, 82, 89]⟩, ⟨#[68, 69, 67, 73, 77, 65, 76]⟩, ⟨#[72, 69, 88, 65, 68, 69, 67, 73, 77, 65, 76]⟩, ⟨#[78, 85, 77, 69, 82, 65, 76]⟩, ⟨#[83, 84, 82, 73, 78, 71]⟩]
theorem infoS : (Tryz.prog.info? 9).map (fun i => (i.zero, i.size, i.bytes)) = some (some (.string ByteArray.empty), 1, 16) := by kernel_rfl
def mayB (name : ByteArray) (ws : List ByteArray) : Bool :=
 !name.toList.isEmpty && decide (name.size ≤ 1000) && (name.data.toList.head? != some 46) && (name.data.toList.head? != some 64) && !decide (0 ≤ idx name (ws ++ words13) 0)
set_option maxRecDepth 100000 in
set_option maxHeartbeats 1000000 in
theorem may_any (name : ByteArray) (ws : List ByteArray) (v : Value) (B : Nat) (w : World) (hB : B ≤ w.heap.size) (hw : w.ownsRow B 9 1 v ws.length (ws.map Value.string)) (hl : ws.length ≤ 100) :
 Calls Tryz.prog 61 #[.string name, v] w fun e w' => e = .returned (.bool (mayB name ws)) ∧ Below B w w' := by
 obtain ⟨i0, hi, hz0, hz1, hz2⟩ := info_parts infoS
 have hn : ∀ j u, ([.string ⟨#[95]⟩, .string ⟨#[33]⟩, .string ⟨#[97, 115]⟩, .string ⟨#[108, 101, 116]⟩, .string ⟨#[101, 120, 105, 115, 116, 115]⟩, .string ⟨#[102, 111, 114, 97, 108, 108]⟩, .string ⟨#[109, 97, 116, 99, 104]⟩, .string ⟨#[112, 97, 114]⟩, .string ⟨#[66, 73, 78, 65, 82, 89]⟩, .string ⟨#[68, 69, 67, 73, 77, 65, 76]⟩, .string ⟨#[72, 69, 88, 65, 68, 69, 67, 73, 77, 65, 76]⟩, .string ⟨#[78, 85, 77, 69, 82, 65, 76]⟩, .string ⟨#[83, 84, 82, 73, 78, 71]⟩] : List Value)[j]? = some u → (w.alloc (.cells ([.string ⟨#[95]⟩, .string ⟨#[33]⟩, .string ⟨#[97, 115]⟩, .string ⟨#[108, 101, 116]⟩, .string ⟨#[101, 120, 105, 115, 116, 115]⟩, .string ⟨#[102, 111, 114, 97, 108, 108]⟩, .string ⟨#[109, 97, 116, 99, 104]⟩, .string ⟨#[112, 97, 114]⟩, .string ⟨#[66, 73, 78, 65, 82, 89]⟩, .string ⟨#[68, 69, 67, 73, 77, 65, 76]⟩, .string ⟨#[72, 69, 88, 65, 68, 69, 67, 73, 77, 65, 76]⟩, .string ⟨#[78, 85, 77, 69, 82, 65, 76]⟩, .string ⟨#[83, 84, 82, 73, 78, 71]⟩] : List Value).toArray 9)).cell? ((⟨w.heap.size, 0, none⟩ : Addr).add j) = some u := by
  intro j u h
  have := (CellsW.new w ([.string ⟨#[95]⟩, .string ⟨#[33]⟩, .string ⟨#[97, 115]⟩, .string ⟨#[108, 101, 116]⟩, .string ⟨#[101, 120, 105, 115, 116, 115]⟩, .string ⟨#[102, 111, 114, 97, 108, 108]⟩, .string ⟨#[109, 97, 116, 99, 104]⟩, .string ⟨#[112, 97, 114]⟩, .string ⟨#[66, 73, 78, 65, 82, 89]⟩, .string ⟨#[68, 69, 67, 73, 77, 65, 76]⟩, .string ⟨#[72, 69, 88, 65, 68, 69, 67, 73, 77, 65, 76]⟩, .string ⟨#[78, 85, 77, 69, 82, 65, 76]⟩, .string ⟨#[83, 84, 82, 73, 78, 71]⟩] : List Value) 9 j u h).1
  rw [show ((⟨w.heap.size, 0, none⟩ : Addr).add j) = ⟨w.heap.size, j, none⟩ by cases j <;> simp [Addr.add]]
  exact this
 have hS0 : ∀ h : 0 < name.size, name[0]'h = name.data.toList.getD 0 0 := by
  intro h
  obtain ⟨⟨l⟩⟩ := name
  have h' : 0 < l.length := h
  show l[0] = l.getD 0 0
  rw [List.getD, List.getElem?_eq_getElem h']; rfl
 have hsz : name.size = name.data.toList.length := Lib.size_eq name
 have hLt : name.toList = name.data.toList := Lib.toList_data name
 have hbel : ∀ o w1, (w.alloc o).grownBy w1 v.ownBlock → Below B w w1 := fun o w1 g =>
  ⟨g.os, g.tape, g.output, Nat.le_trans (by simp) g.size, fun k hk => by
   rw [g.block k (by simp; omega) (fun e => by have := hw.lt k e.symm; omega)]
   exact ((Below.refl B w).alloc hB o).block k hk⟩
 have HBEL := Lib.hid hbel
 clear hbel
 cases hb : name.data.toList with
 | nil =>
  have hem : name.toList.isEmpty = true := by rw [hLt, hb]; rfl
  have HR : Hid (mayB name ws = false) := Lib.hid (by unfold mayB; rw [hem]; rfl)
  clear hS0 hsz hLt hb
  go_enter Tryz.func61, Tryz.ntmps61
  go_wp2_with (first | (at_builtin; refine wpList_append_own _ rfl _ _ 199 rfl B 9 i0 (.string ByteArray.empty) 1 16 Tryz.underlying199 hi hz0 hz1 hz2 rfl (by decide) v ws.length (ws.map Value.string) rfl (hw.alloc _) ⟨w.heap.size, 0, none⟩ 13 13 [.string ⟨#[95]⟩, .string ⟨#[33]⟩, .string ⟨#[97, 115]⟩, .string ⟨#[108, 101, 116]⟩, .string ⟨#[101, 120, 105, 115, 116, 115]⟩, .string ⟨#[102, 111, 114, 97, 108, 108]⟩, .string ⟨#[109, 97, 116, 99, 104]⟩, .string ⟨#[112, 97, 114]⟩, .string ⟨#[66, 73, 78, 65, 82, 89]⟩, .string ⟨#[68, 69, 67, 73, 77, 65, 76]⟩, .string ⟨#[72, 69, 88, 65, 68, 69, 67, 73, 77, 65, 76]⟩, .string ⟨#[78, 85, 77, 69, 82, 65, 76]⟩, .string ⟨#[83, 84, 82, 73, 78, 71]⟩] rfl rfl hn (by simp [Value.oneCell']) (by unfold maxLen; omega) (by omega) (by simp; omega) ?_; intro v' w1 hown hgrow hnil) | fail)
  go_ret
  exact ⟨by rw [HR.out]; rfl, HBEL.out _ _ hgrow⟩
 | cons c r =>
  have hem : name.toList.isEmpty = false := by rw [hLt, hb]; rfl
  have h0 : 0 < name.size := by rw [hsz, hb]; simp
  have hc0 : ∀ h : 0 < name.size, name[0]'h = c := fun h => by rw [hS0 h, hb]; rfl
  have hhd : name.data.toList.head? = some c := by rw [hb]; rfl
  have hmay : mayB name ws = (decide (name.size ≤ 1000) && (some c != some 46) && (some c != some 64) && !decide (0 ≤ idx name (ws ++ words13) 0)) := by
   unfold mayB; rw [hem, hhd]; simp
  have HMAY := Lib.hid hmay
  clear hS0 hsz hLt hb hhd hmay
  by_cases h1 : name.size ≤ 1000
  case neg =>
   have h1' : 1000 < (name.size : Int) := by omega
   have HR : Hid (mayB name ws = false) := Lib.hid (by rw [HMAY.out, decide_eq_false h1]; rfl)
   clear hc0 h1
   go_enter Tryz.func61, Tryz.ntmps61
   go_wp2_with (first | (at_builtin; refine wpList_append_own _ rfl _ _ 199 rfl B 9 i0 (.string ByteArray.empty) 1 16 Tryz.underlying199 hi hz0 hz1 hz2 rfl (by decide) v ws.length (ws.map Value.string) rfl (hw.alloc _) ⟨w.heap.size, 0, none⟩ 13 13 [.string ⟨#[95]⟩, .string ⟨#[33]⟩, .string ⟨#[97, 115]⟩, .string ⟨#[108, 101, 116]⟩, .string ⟨#[101, 120, 105, 115, 116, 115]⟩, .string ⟨#[102, 111, 114, 97, 108, 108]⟩, .string ⟨#[109, 97, 116, 99, 104]⟩, .string ⟨#[112, 97, 114]⟩, .string ⟨#[66, 73, 78, 65, 82, 89]⟩, .string ⟨#[68, 69, 67, 73, 77, 65, 76]⟩, .string ⟨#[72, 69, 88, 65, 68, 69, 67, 73, 77, 65, 76]⟩, .string ⟨#[78, 85, 77, 69, 82, 65, 76]⟩, .string ⟨#[83, 84, 82, 73, 78, 71]⟩] rfl rfl hn (by simp [Value.oneCell']) (by unfold maxLen; omega) (by omega) (by simp; omega) ?_; intro v' w1 hown hgrow hnil) | fail)
   go_ret
   exact ⟨by rw [HR.out]; rfl, HBEL.out _ _ hgrow⟩
  have h1' : (name.size : Int) ≤ 1000 := by omega
  by_cases h2 : c = 46
  · subst h2
    have HR : Hid (mayB name ws = false) := Lib.hid (by rw [HMAY.out]; simp)
    go_enter Tryz.func61, Tryz.ntmps61
    go_wp2_with (first | (at_builtin; refine wpList_append_own _ rfl _ _ 199 rfl B 9 i0 (.string ByteArray.empty) 1 16 Tryz.underlying199 hi hz0 hz1 hz2 rfl (by decide) v ws.length (ws.map Value.string) rfl (hw.alloc _) ⟨w.heap.size, 0, none⟩ 13 13 [.string ⟨#[95]⟩, .string ⟨#[33]⟩, .string ⟨#[97, 115]⟩, .string ⟨#[108, 101, 116]⟩, .string ⟨#[101, 120, 105, 115, 116, 115]⟩, .string ⟨#[102, 111, 114, 97, 108, 108]⟩, .string ⟨#[109, 97, 116, 99, 104]⟩, .string ⟨#[112, 97, 114]⟩, .string ⟨#[66, 73, 78, 65, 82, 89]⟩, .string ⟨#[68, 69, 67, 73, 77, 65, 76]⟩, .string ⟨#[72, 69, 88, 65, 68, 69, 67, 73, 77, 65, 76]⟩, .string ⟨#[78, 85, 77, 69, 82, 65, 76]⟩, .string ⟨#[83, 84, 82, 73, 78, 71]⟩] rfl rfl hn (by simp [Value.oneCell']) (by unfold maxLen; omega) (by omega) (by simp; omega) ?_; intro v' w1 hown hgrow hnil) | fail)
    go_ret
    exact ⟨by rw [HR.out]; rfl, HBEL.out _ _ hgrow⟩
  by_cases h3 : c = 64
  · subst h3
    have HR : Hid (mayB name ws = false) := Lib.hid (by rw [HMAY.out]; simp)
    go_enter Tryz.func61, Tryz.ntmps61
    go_wp2_with (first | (at_builtin; refine wpList_append_own _ rfl _ _ 199 rfl B 9 i0 (.string ByteArray.empty) 1 16 Tryz.underlying199 hi hz0 hz1 hz2 rfl (by decide) v ws.length (ws.map Value.string) rfl (hw.alloc _) ⟨w.heap.size, 0, none⟩ 13 13 [.string ⟨#[95]⟩, .string ⟨#[33]⟩, .string ⟨#[97, 115]⟩, .string ⟨#[108, 101, 116]⟩, .string ⟨#[101, 120, 105, 115, 116, 115]⟩, .string ⟨#[102, 111, 114, 97, 108, 108]⟩, .string ⟨#[109, 97, 116, 99, 104]⟩, .string ⟨#[112, 97, 114]⟩, .string ⟨#[66, 73, 78, 65, 82, 89]⟩, .string ⟨#[68, 69, 67, 73, 77, 65, 76]⟩, .string ⟨#[72, 69, 88, 65, 68, 69, 67, 73, 77, 65, 76]⟩, .string ⟨#[78, 85, 77, 69, 82, 65, 76]⟩, .string ⟨#[83, 84, 82, 73, 78, 71]⟩] rfl rfl hn (by simp [Value.oneCell']) (by unfold maxLen; omega) (by omega) (by simp; omega) ?_; intro v' w1 hown hgrow hnil) | fail)
    go_ret
    exact ⟨by rw [HR.out]; rfl, HBEL.out _ _ hgrow⟩
  have h2' : ((c.toNat : Int) != 46) = true := by simp; intro e; exact h2 (UInt8.toNat_inj.mp (by simpa using (by omega : c.toNat = 46)))
  have h3' : ((c.toNat : Int) != 64) = true := by simp; intro e; exact h3 (UInt8.toNat_inj.mp (by simpa using (by omega : c.toNat = 64)))
  have HR : Hid (mayB name ws = !decide (0 ≤ idx name (ws ++ words13) 0)) := Lib.hid (by rw [HMAY.out, decide_eq_true h1]; simp [h2, h3])
  clear h2 h3 h1
  go_enter Tryz.func61, Tryz.ntmps61
  go_wp2_with (first | (at_builtin; refine wpList_append_own _ rfl _ _ 199 rfl B 9 i0 (.string ByteArray.empty) 1 16 Tryz.underlying199 hi hz0 hz1 hz2 rfl (by decide) v ws.length (ws.map Value.string) rfl (hw.alloc _) ⟨w.heap.size, 0, none⟩ 13 13 [.string ⟨#[95]⟩, .string ⟨#[33]⟩, .string ⟨#[97, 115]⟩, .string ⟨#[108, 101, 116]⟩, .string ⟨#[101, 120, 105, 115, 116, 115]⟩, .string ⟨#[102, 111, 114, 97, 108, 108]⟩, .string ⟨#[109, 97, 116, 99, 104]⟩, .string ⟨#[112, 97, 114]⟩, .string ⟨#[66, 73, 78, 65, 82, 89]⟩, .string ⟨#[68, 69, 67, 73, 77, 65, 76]⟩, .string ⟨#[72, 69, 88, 65, 68, 69, 67, 73, 77, 65, 76]⟩, .string ⟨#[78, 85, 77, 69, 82, 65, 76]⟩, .string ⟨#[83, 84, 82, 73, 78, 71]⟩] rfl rfl hn (by simp [Value.oneCell']) (by unfold maxLen; omega) (by omega) (by simp; omega) ?_; intro v' w1 hown hgrow hnil) | fail)
  have hlw : (ws ++ words13).length = ws.length + 13 := by simp [words13]
  have hown' : w1.ownsRow B 9 1 v' (ws ++ words13).length ((ws ++ words13).map Value.string) := by rw [hlw, List.map_append]; exact hown
  clear hown hnil
  obtain ⟨g, cap, cur, rfl, hg⟩ : ∃ g cap cur, v' = .slice (some ⟨g, 0, none⟩) (ws ++ words13).length cap ∧ w1.heap[g]? = some (.cells cur 9 (0, 0)) := by
   rcases hown'.2 with ⟨_, h⟩ | ⟨g, cap, cur, h1, _, h2, _⟩
   · omega
   · exact ⟨g, cap, cur, h1, h2⟩
  have hcells := hown'.cells (g := g) rfl
  have HC := Lib.hid (contains_any g 0 (ws ++ words13) cap name w1 (fun j hj => by
   have := hcells j (.string ((ws ++ words13).getD j ByteArray.empty)) (by rw [List.getElem?_map, List.getElem?_eq_getElem hj]; simp [List.getD, List.getElem?_eq_getElem hj])
   rw [show ((⟨g, 0, none⟩ : Addr).add j) = ⟨g, 0 + j, none⟩ by cases j <;> simp [Addr.add]] at this
   exact this) (by omega))
  clear hcells hown' hg
  refine HC.out.mono ?_; rintro e w2 ⟨rfl, rfl⟩
  have HG := Lib.hid hgrow
  clear hgrow HC
  go_wp2
  go_ret
  exact ⟨by rw [HR.out]; rfl, HBEL.out _ _ HG.out⟩
end Go.Proofs.YtendekbckfpmgaaGreat
namespace Go.Proofs.YtendekbckfpmgaaGreat
open Go.RowKit
structure Ch (S : Nat → Prop) (w w' : World) : Prop where
 os : w'.os = w.os
 tape : w'.tape = w.tape
 output : w'.output = w.output
 size : w.heap.size ≤ w'.heap.size
 block : ∀ k, k < w.heap.size → ¬ S k → w'.heap[k]? = w.heap[k]?
theorem Ch.refl (S : Nat → Prop) (w : World) : Ch S w w := ⟨rfl, rfl, rfl, Nat.le_refl _, fun _ _ _ => rfl⟩
theorem Ch.trans {S : Nat → Prop} {a b c : World} (h : Ch S a b) (k : Ch S b c) : Ch S a c :=
 ⟨k.os.trans h.os, k.tape.trans h.tape, k.output.trans h.output, Nat.le_trans h.size k.size, fun i hi hs => (k.block i (Nat.lt_of_lt_of_le hi h.size) hs).trans (h.block i hi hs)⟩
theorem Ch.mono {S T : Nat → Prop} {a b : World} (h : Ch S a b) (hs : ∀ k, k < a.heap.size → S k → T k) : Ch T a b :=
 ⟨h.os, h.tape, h.output, h.size, fun i hi hn => h.block i hi (fun q => hn (hs i hi q))⟩
theorem Ch.ofGrown {a b : World} {row : Option Nat} (h : a.grownBy b row) : Ch (fun k => some k = row) a b := ⟨h.os, h.tape, h.output, h.size, h.block⟩
theorem Ch.grown {S : Nat → Prop} {a b : World} {row : Option Nat} (h : a.grownBy b row) (hs : ∀ k, some k = row → S k) : Ch S a b := (Ch.ofGrown h).mono fun k _ e => hs k e
theorem Ch.ofBelow {S : Nat → Prop} {a b : World} (h : Below a.heap.size a b) : Ch S a b := ⟨h.os, h.tape, h.output, h.size, fun k hk _ => h.block k hk⟩
theorem Ch.below {S : Nat → Prop} {B : Nat} {a b : World} (h : Ch S a b) (hB : B ≤ a.heap.size) (hs : ∀ k, S k → B ≤ k) : Below B a b :=
 ⟨h.os, h.tape, h.output, h.size, fun k hk => h.block k (Nat.lt_of_lt_of_le hk hB) (fun q => by have := hs k q; omega)⟩
theorem Ch.drawn {S : Nat → Prop} {a b : World} (h : Ch S a b) : Ch S a { b with drawn := b.drawn + 1 } := ⟨h.os, h.tape, h.output, h.size, h.block⟩
theorem Ch.setCell {S : Nat → Prop} {a b : World} (h : Ch S a b) {p : Addr} (hp : S p.block) (u : Value) : Ch S a (b.setCell p u) :=
 h.trans ⟨rfl, rfl, rfl, by simp [World.setCell], fun k _ hn => Below.heap_setCell _ _ _ _ (fun e => hn (by rw [e]; exact hp))⟩
theorem Ch.setC {S : Nat → Prop} {a c : World} (h : Ch S a c) (b o : Nat) (hp : S b) (u : Value) : Ch S a (c.setCell ⟨b, o, none⟩ u) := Ch.setCell (p := ⟨b, o, none⟩) h hp u
theorem Ch.alloc {S : Nat → Prop} {a b : World} (h : Ch S a b) (o : Obj) : Ch S a (b.alloc o) := h.trans (Ch.ofBelow ((Below.refl b.heap.size b).alloc (Nat.le_refl _) o))
def RowB (w : World) (b : Nat) (t : TypeId) (vs : List Value) : Prop := w.heap[b]? = some (.cells vs.toArray t (0, 0))
theorem RowB.lt {w : World} {b : Nat} {t : TypeId} {vs : List Value} (h : RowB w b t vs) : b < w.heap.size := lt_of_block h
theorem RowB.cell {w : World} {b : Nat} {t : TypeId} {vs : List Value} (h : RowB w b t vs) (j : Nat) : w.cell? ⟨b, j, none⟩ = vs[j]? := by
 unfold RowB at h; simp [World.cell?, h]
theorem RowB.free {w : World} {b : Nat} {t : TypeId} {vs : List Value} (h : RowB w b t vs) (j : Nat) : w.frozen? ⟨b, j, none⟩ = false := by
 unfold RowB at h; simp [World.frozen?, h]
theorem RowB.set {w : World} {b : Nat} {t : TypeId} {vs : List Value} (h : RowB w b t vs) (j : Nat) (u : Value) : RowB (w.setCell ⟨b, j, none⟩ u) b t (vs.set j u) := by
 have hlt := h.lt
 have h' : w.heap[b] = .cells vs.toArray t (0, 0) := by unfold RowB at h; simpa [Array.getElem?_eq_getElem hlt] using h
 show (w.heap.modify b _)[b]? = _
 rw [Array.getElem?_eq_getElem (by simpa using hlt), Array.getElem_modify_self, h']
 simp
theorem RowB.kept {w w' : World} {b : Nat} {t : TypeId} {vs : List Value} {S : Nat → Prop} (h : RowB w b t vs) (hc : Ch S w w') (hs : ¬ S b) : RowB w' b t vs := (hc.block b h.lt hs).trans h
theorem RowB.new (w : World) (vs : List Value) (t : TypeId) : RowB (w.alloc (.cells vs.toArray t)) w.heap.size t vs := heap_alloc_new w _
section
variable {w w' : World} {S : Nat → Prop}
theorem ownsRow_ch {base : Nat} {e : TypeId} {size : Nat} {v : Value} {n : Nat} {xs : List Value} (h : w.ownsRow base e size v n xs) (hc : Ch S w w') (hs : ∀ k, v.ownBlock = some k → ¬ S k) : w'.ownsRow base e size v n xs := by
 refine ⟨h.1, ?_⟩
 rcases h.2 with hn | ⟨g, cap, cur, rfl, hb, hgg, rest⟩
 · exact .inl hn
 · refine .inr ⟨g, cap, cur, rfl, hb, ?_, rest⟩
   rw [hc.block g (lt_of_block hgg) (hs g rfl)]
   exact hgg
theorem ownsMap_ch {H : Type} {P : Program} {k : TypeId} {R : Value → Option (DataW H × List MemPlace)} {b n : Nat} {D : DataW H} (h : w.ownsMap P k R b n D) (hc : Ch S w w') (hs : ¬ S b) : w'.ownsMap P k R b n D := by
 obtain ⟨es, clock, hb, r⟩ := h
 exact ⟨es, clock, (hc.block b (lt_of_block hb) hs).trans hb, r⟩
theorem own_ne {base base' : Nat} {e e' : TypeId} {size size' : Nat} {v v' : Value} {n n' : Nat} {xs xs' : List Value} (h : w.ownsRow base e size v n xs) (h' : w.ownsRow base' e' size' v' n' xs') (hne : e ≠ e') {k : Nat} (hk : v.ownBlock = some k) : v'.ownBlock ≠ some k := by
 intro hk'
 rcases h.2 with ⟨rfl, _⟩ | ⟨g, cap, cur, rfl, _, hg, _⟩
 · simp [Value.ownBlock] at hk
 rcases h'.2 with ⟨rfl, _⟩ | ⟨g', cap', cur', rfl, _, hg', _⟩
 · simp [Value.ownBlock] at hk'
 simp only [Value.ownBlock, Option.some.injEq] at hk hk'
 subst hk; subst hk'
 rw [hg] at hg'
 simp at hg'
 exact hne hg'.2
theorem own_ne_row {base : Nat} {e t : TypeId} {size : Nat} {v : Value} {n : Nat} {xs vs : List Value} {b : Nat} (h : w.ownsRow base e size v n xs) (h' : RowB w b t vs) (hne : e ≠ t) : v.ownBlock ≠ some b := by
 intro hk
 rcases h.2 with ⟨rfl, _⟩ | ⟨g, cap, cur, rfl, _, hg, _⟩
 · simp [Value.ownBlock] at hk
 simp only [Value.ownBlock, Option.some.injEq] at hk
 subst hk
 unfold RowB at h'
 rw [hg] at h'
 simp at h'
 exact hne h'.2
theorem own_ne_map {H : Type} {P : Program} {kt : TypeId} {R : Value → Option (DataW H × List MemPlace)} {m : Nat} {D : DataW H} {base : Nat} {e : TypeId} {size : Nat} {v : Value} {n n' : Nat} {xs : List Value} (h : w.ownsRow base e size v n xs) (h' : w.ownsMap P kt R m n' D) : v.ownBlock ≠ some m := by
 intro hk
 rcases h.2 with ⟨rfl, _⟩ | ⟨g, cap, cur, rfl, _, hg, _⟩
 · simp [Value.ownBlock] at hk
 simp only [Value.ownBlock, Option.some.injEq] at hk
 subst hk
 obtain ⟨es, clock, hb, _⟩ := h'
 rw [hg] at hb
 simp at hb
theorem row_ne_map {H : Type} {P : Program} {kt : TypeId} {R : Value → Option (DataW H × List MemPlace)} {m : Nat} {D : DataW H} {n' : Nat} {b : Nat} {t : TypeId} {vs : List Value} (h : RowB w b t vs) (h' : w.ownsMap P kt R m n' D) : b ≠ m := by
 rintro rfl
 obtain ⟨es, clock, hb, _⟩ := h'
 unfold RowB at h
 rw [h] at hb
 simp at hb
end
end Go.Proofs.YtendekbckfpmgaaGreat
namespace Go.Proofs.YtendekbckfpmgaaGreat
open Go
section
variable {P : Program} {ops : Array Oper} {md : Region.Mode}
def unl (s : Array Bool) : Nat := s.toList.countP (fun b => !b)
theorem countP_set : ∀ (l : List Bool) (i : Nat), l[i]? = some false → (l.set i true).countP (fun b => !b) + 1 = l.countP (fun b => !b)
 | [], i, h => by simp at h
 | b :: l, 0, h => by
  have : b = false := by simpa using h
  subst this; simp
 | b :: l, i + 1, h => by
  have := countP_set l i (by simpa using h)
  simp only [List.set_cons_succ, List.countP_cons]
  omega
theorem unl_set {s : Array Bool} {i : Nat} (h : s.getD i true = false) : unl (s.setIfInBounds i true) + 1 = unl s := by
 have hi : i < s.size := by
  rcases Nat.lt_or_ge i s.size with h' | h'
  · exact h'
  · simp [Array.getElem?_eq_none h'] at h
 have hs : s.toList[i]? = some false := by
  have : s[i] = false := by simpa [hi] using h
  simp [hi, this]
 have := countP_set s.toList i hs
 unfold unl
 simpa using this
theorem any_of_inv {Q : Exit → Act → World → Prop} (I : Array Bool → Act → World → Prop) (hstep : ∀ s a w i, I s a w → i ∈ Region.ready md ops s → wpOp P ops Q i (I (s.setIfInBounds i true)) a w)
 (hend : ∀ s a w, I s a w → Region.ready md ops s = [] → Q .normal a w) : ∀ (f : Nat) (s : Array Bool) (a : Act) (w : World), unl s ≤ f → I s a w → wpAny P md ops Q f s a w := by
 intro f
 induction f with
 | zero =>
  intro s a w hf hI
  have h0 : Region.ready md ops s = [] := by
   rcases hr : Region.ready md ops s with _ | ⟨i, r⟩
   · rfl
   · have hi : i ∈ Region.ready md ops s := by rw [hr]; simp
     have := unl_set (mem_ready.1 hi).1
     omega
  exact ⟨h0, hend _ _ _ hI h0⟩
 | succ f ih =>
  intro s a w hf hI
  refine ⟨fun h0 => hend _ _ _ hI h0, fun i hi => ?_⟩
  have h1 := unl_set (mem_ready.1 hi).1
  exact wpOp_mono (fun a' w' hI' => ih _ _ _ (by omega) hI') (hstep s a w i hI hi)
theorem wp_region_inv {id : Nat} {Q : Exit → Act → World → Prop} {a : Act} {w : World} (hm : P.follows .mixedOrders = true) (I : Array Bool → Act → World → Prop)
 (h0 : I (Array.replicate ops.size false) a { w with drawn := w.drawn + 1 }) (hstep : ∀ s a w i, I s a w → i ∈ Region.ready .any ops s → wpOp P ops Q i (I (s.setIfInBounds i true)) a w)
 (hend : ∀ s a w, I s a w → Region.ready .any ops s = [] → Q .normal a w) : (Code.region id ops true).wp P Q a w :=
 wp_region_any hm (any_of_inv I hstep hend _ _ _ _ (by unfold unl; exact Nat.le_trans List.countP_le_length (by simp)) h0)
def Oper.flowA (P : Program) (o : Oper) (a : Act) (w : World) (R : Value → World → Prop) : Prop :=
 match (execOp a.eval o).run P w with
 | .ok (.value v) w' => R v w'
 | .ok .skip w' => R undef w'
 | .ok (.enter f args) w' => Calls P f args w' fun e w'' => ∃ v, e = .returned v ∧ R v w''
 | _ => False
theorem Oper.wp_of_flowA {o : Oper} {a : Act} {w : World} {R : Value → World → Prop} {K : Act → World → Prop} {Q : Exit → Act → World → Prop} (h : Oper.flowA P o a w R)
 (hR : ∀ v w', R v w' → K (a.put o.dst v) w') : o.wp P a w K Q := by
 unfold Oper.flowA at h
 unfold Oper.wp
 generalize (execOp a.eval o).run P w = r at *
 cases r with
 | halt x w' => exact h.elim
 | ok n w' =>
  cases n <;> simp only [] at h <;> simp only [Oper.upon]
  case value v => exact hR _ _ h
  case skip => exact hR _ _ h
  case enter f args => exact h.mono fun e w'' ⟨v, he, hr⟩ => by subst he; exact hR _ _ hr
def putAll (ops : List Oper) (vs : Nat → Value) (k : Nat) (a : Act) : Act :=
 match ops with
 | [] => a
 | o :: r => putAll r vs (k + 1) (a.put o.dst (vs k))
structure FlowInv (ops : Array Oper) (n : Nat) (Z : Nat → World → Value → Prop) (C : World → Prop) (a0 : Act) (s : Array Bool) (a : Act) (w : World) : Prop where
 world : C w
 defers : a.defers = a0.defers
 size : a.tmps.size = a0.tmps.size
 done : ∀ i o d, i < n → ops[i]? = some o → o.dst = some d → s.getD i false = true → Z i w (a.tmps.getD d undef)
 rest : ∀ d, (∀ i o, i < n → ops[i]? = some o → s.getD i false = true → o.dst ≠ some d) → a.tmps.getD d undef = a0.tmps.getD d undef
def unh (s : Array Bool) (n : Nat) : Nat := (List.range n).countP (fun i => !(s.getD i false))
theorem unh_set {s : Array Bool} {i n : Nat} (h : s.getD i true = false) (hi : i < n) : unh (s.setIfInBounds i true) n + 1 = unh s n := by
 have his : i < s.size := by
  rcases Nat.lt_or_ge i s.size with h' | h'
  · exact h'
  · simp [Array.getElem?_eq_none h'] at h
 have h0 : s.getD i false = false := getD_both h
 unfold unh
 have key : ∀ m, (List.range m).countP (fun j => !((s.setIfInBounds i true).getD j false)) + (if i < m then 1 else 0) = (List.range m).countP (fun j => !(s.getD j false)) := by
  intro m
  induction m with
  | zero => simp
  | succ m ih =>
   rw [List.range_succ, List.countP_append, List.countP_append, List.countP_singleton, List.countP_singleton]
   by_cases e : i = m
   · subst e
     have h1 : (s.setIfInBounds i true).getD i false = true := by simp [his]
     rw [h1, h0]; simp at ih ⊢; omega
   · rw [getD_set_ne false e]
     by_cases hlt : i < m
     · have e1 : (if i < m + 1 then 1 else 0) = 1 := if_pos (by omega)
       rw [if_pos hlt] at ih; rw [e1]; omega
     · have e1 : (if i < m + 1 then 1 else 0) = 0 := if_neg (by omega)
       rw [if_neg hlt] at ih; rw [e1]; omega
 have := key n
 rw [if_pos hi] at this
 exact this
theorem unh_zero {s : Array Bool} {n : Nat} (h : unh s n = 0) : ∀ i, i < n → s.getD i false = true := by
 intro i hi
 unfold unh at h
 rw [List.countP_eq_zero] at h
 have := h i (List.mem_range.2 hi)
 simpa using this
theorem unh_pos {s : Array Bool} {n : Nat} (h : 0 < unh s n) : ∃ i, i < n ∧ s.getD i false = false ∧ ∀ j, j < i → s.getD j false = true := by
 have hex : ∃ i, i < n ∧ s.getD i false = false := by
  unfold unh at h
  rw [List.countP_pos_iff] at h
  obtain ⟨i, hi, hb⟩ := h
  exact ⟨i, List.mem_range.1 hi, by simpa using hb⟩
 have key : ∀ m, (∃ i, i < m ∧ s.getD i false = false) → ∃ i, i < m ∧ s.getD i false = false ∧ ∀ j, j < i → s.getD j false = true := by
  intro m
  induction m with
  | zero => rintro ⟨i, hi, _⟩; omega
  | succ m ih =>
   rintro ⟨i, hi, hf⟩
   by_cases hm : ∃ i, i < m ∧ s.getD i false = false
   · obtain ⟨i', a, b, c⟩ := ih hm
     exact ⟨i', by omega, b, c⟩
   · refine ⟨i, hi, hf, fun j hj => ?_⟩
     cases hv : s.getD j false with
     | true => rfl
     | false => exact absurd ⟨j, by omega, hv⟩ hm
 exact key n hex
def lowB (md : Region.Mode) (ops : Array Oper) (n : Nat) : Bool :=
 (List.range n).all fun i => match ops[i]? with
  | some o => o.after.all fun e => !(Region.binds md e) || decide (e.on < i)
  | none => true
def soleB (ops : Array Oper) (n : Nat) : Bool :=
 (List.range n).all fun i => (List.range n).all fun j => decide (i = j) || (match (ops[i]?).bind (·.dst), (ops[j]?).bind (·.dst) with
  | some d, some e => d != e
  | _, _ => true)
def doneS (m n : Nat) : Array Bool := ((List.range m).map fun i => decide (i < n)).toArray
def flowB (ops : Array Oper) (n : Nat) : Bool :=
 decide (n < ops.size) && Region.sinkB .any ops n && Region.chainB .any ops n && lowB .any ops n && soleB ops n && Region.seqB .any ops (ops.size - n) n (doneS ops.size n)
theorem soleB_spec {ops : Array Oper} {n i j : Nat} {o o' : Oper} {d : Nat} (h : soleB ops n = true) (hi : i < n) (hj : j < n) (ho : ops[i]? = some o) (ho' : ops[j]? = some o') (hd : o.dst = some d) (hd' : o'.dst = some d) : i = j := by
 have h1 := List.all_eq_true.1 (List.all_eq_true.1 h i (List.mem_range.2 hi)) j (List.mem_range.2 hj)
 simp only [ho, ho', Option.bind_some, hd, hd', bne_self_eq_false, Bool.or_false, decide_eq_true_eq] at h1
 exact h1
theorem put_defers (a : Act) (d : Option Nat) (v : Value) : (a.put d v).defers = a.defers := by cases d <;> rfl
theorem put_size (a : Act) (d : Option Nat) (v : Value) : (a.put d v).tmps.size = a.tmps.size := by cases d <;> simp [Act.put]
theorem put_other {a : Act} {d : Option Nat} {e : Nat} {v : Value} (h : d ≠ some e) : (a.put d v).tmps.getD e undef = a.tmps.getD e undef := by
 cases d with
 | none => rfl
 | some d =>
  have : d ≠ e := fun h' => h (by rw [h'])
  simp only [Act.put, Array.getD_eq_getD_getElem?, Array.getElem?_setIfInBounds]
  rw [if_neg this]
theorem put_same {a : Act} {d : Nat} {v : Value} (h : d < a.tmps.size) : (a.put (some d) v).tmps.getD d undef = v := by
 simp [Act.put, h]
theorem putAll_eq (ops : Array Oper) (n : Nat) (hs : soleB ops n = true) (a0 a : Act) (hsz : ∀ i o d, i < n → ops[i]? = some o → o.dst = some d → d < a0.tmps.size)
 (hd : a.defers = a0.defers) (hz : a.tmps.size = a0.tmps.size) (vs : Nat → Value) (hv : ∀ i o d, i < n → ops[i]? = some o → o.dst = some d → a.tmps.getD d undef = vs i)
 (hr : ∀ d, (∀ i o, i < n → ops[i]? = some o → o.dst ≠ some d) → a.tmps.getD d undef = a0.tmps.getD d undef) :
 ∀ (l : List Oper) (k : Nat) (b : Act), (∀ j, l[j]? = (ops.toList.take n)[k + j]?) → k + l.length = (ops.toList.take n).length → b.defers = a0.defers → b.tmps.size = a0.tmps.size →
  (∀ i o d, i < k → i < n → ops[i]? = some o → o.dst = some d → b.tmps.getD d undef = vs i) →
  (∀ d, (∀ i o, i < k → i < n → ops[i]? = some o → o.dst ≠ some d) → b.tmps.getD d undef = a0.tmps.getD d undef) → putAll l vs k b = a
 | [], k, b, _, hk, hbd, hbz, hbv, hbr => by
  have hall : ∀ i o, i < n → ops[i]? = some o → i < k := fun i o hi ho => by
   have h1 : i < ops.size := (Array.getElem?_eq_some_iff.1 ho).1
   simp at hk; omega
  show b = a
  obtain ⟨bt, bd⟩ := b
  obtain ⟨t, df⟩ := a
  simp only at hbd hbz hd hz hv hr hbv hbr
  have e1 : bd = df := hbd.trans hd.symm
  have e2 : bt = t := by
   apply Array.ext (by omega)
   intro d h1 h2
   have g1 : bt.getD d undef = bt[d] := by simp [h1]
   have g2 : t.getD d undef = t[d] := by simp [h2]
   rw [← g1, ← g2]
   by_cases hx : ∃ i o, i < n ∧ ops[i]? = some o ∧ o.dst = some d
   · obtain ⟨i, o, hi, ho, hod⟩ := hx
     rw [hbv i o d (hall i o hi ho) hi ho hod, hv i o d hi ho hod]
   · rw [hbr d (fun i o _ hi ho hod => hx ⟨i, o, hi, ho, hod⟩), hr d (fun i o hi ho hod => hx ⟨i, o, hi, ho, hod⟩)]
  rw [e1, e2]
 | o :: l, k, b, hl, hk, hbd, hbz, hbv, hbr => by
  have h0 : (ops.toList.take n)[k]? = some o := by simpa using (hl 0).symm
  have hkn : k < n := by
   have := (List.getElem?_eq_some_iff.1 h0).1
   simp at this; omega
  have ho : ops[k]? = some o := by
   rw [List.getElem?_take_of_lt hkn] at h0
   simpa using h0
  refine putAll_eq ops n hs a0 a hsz hd hz vs hv hr l (k + 1) (b.put o.dst (vs k)) (fun j => by have := hl (j + 1); simpa [Nat.add_assoc, Nat.add_comm 1 j] using this) (by simp only [List.length_cons] at hk; omega) (by rw [put_defers, hbd]) (by rw [put_size, hbz]) ?_ ?_
  · intro i oi d hi hin hoi hod
    by_cases e : i = k
    · subst e
      have : oi = o := Option.some.inj (hoi.symm.trans ho)
      subst this
      rw [hod]
      exact put_same (by rw [hbz]; exact hsz i oi d hin hoi hod)
    · rw [put_other (fun h => e (soleB_spec hs hin hkn hoi ho hod h))]
      exact hbv i oi d (by omega) hin hoi hod
  · intro d hx
    rw [put_other (hx k o (by omega) hkn ho)]
    exact hbr d (fun i oi hi hin hoi => hx i oi (by omega) hin hoi)
end
section
variable {P : Program} {o : Oper} {a : Act} {w : World} {R : Value → World → Prop}
theorem flow_val {v : Value} (h : (execOp a.eval o).run P w = .ok (.value v) w) (hR : R v w) : Oper.flowA P o a w R := by
 unfold Oper.flowA; rw [h]; exact hR
theorem flow_new {v : Value} {w' : World} (h : (execOp a.eval o).run P w = .ok (.value v) w') (hR : R v w') : Oper.flowA P o a w R := by
 unfold Oper.flowA; rw [h]; exact hR
theorem flow_call {f : FuncId} {args : Array Value} (h : (execOp a.eval o).run P w = .ok (.enter f args) w) (hc : Calls P f args w fun e w' => ∃ v, e = .returned v ∧ R v w') : Oper.flowA P o a w R := by
 unfold Oper.flowA; rw [h]; exact hc
theorem run_load_cells (ty : TypeId) (x : Operand) (ho : o.op = .load ty x) (b off : Nat) (hx : a.eval x = .pointer (some ⟨b, off, none⟩)) (vs : List Value) (d : TypeDesc)
 (hu : P.underlying ty = some d) (hd : (match d with | .struct _ | .array _ _ => true | _ => false) = true) (hi : (P.info? ty).map (·.size) = some vs.length) (hc : CellsAt w b off vs) :
 (execOp a.eval o).run P w = .ok (.value (.agg vs.toArray)) w := by
 unfold execOp
 simp only [ho, hx, Instr.loadAt, Instr.sureAddr, Sem.run_bind, Sem.run_pure, Result.andThen_ok, run_loadVar_cells ty b off vs d hu hd hi hc]
end
theorem free_of {l : List Oper} {n d : Nat} (h : (l.take n).all (fun o => o.dst != some d) = true) : ∀ j oj, j < n → l.toArray[j]? = some oj → oj.dst ≠ some d := by
 intro j oj hj hoj
 have h1 : oj ∈ l.take n := by
  have : (l.take n)[j]? = some oj := by rw [List.getElem?_take_of_lt hj]; simpa using hoj
  exact List.mem_of_getElem? this
 have := List.all_eq_true.1 h oj h1
 simpa using this
end Go.Proofs.YtendekbckfpmgaaGreat
namespace Go.Proofs.YtendekbckfpmgaaGreat
open Go
section
variable {P : Program}
def StepAt3 (P : Program) (ops : Array Oper) (n : Nat) (Z : Nat → World → Value → Prop) (C : World → Prop) (a0 : Act) (i : Nat) (o : Oper) : Prop :=
 ∀ a w, C w → (∀ e, e ∈ o.after → Region.binds .any e = true → ∀ oj d, ops[e.on]? = some oj → oj.dst = some d → Z e.on w (a.tmps.getD d undef)) →
  (∀ d, (∀ j oj, j < n → ops[j]? = some oj → oj.dst ≠ some d) → a.tmps.getD d undef = a0.tmps.getD d undef) →
  if Region.wanted o (yielded ops a.tmps) = true then Oper.flowA P o a w (fun v w' => Z i w' v ∧ C w' ∧ ∀ j u, j ≠ i → Z j w u → Z j w' u) else Z i w undef
theorem flow_head3 {ops : Array Oper} {n : Nat} {Z : Nat → World → Value → Prop} {C : World → Prop} {a0 : Act} {Q : Exit → Act → World → Prop} (hB : flowB ops n = true)
 (hsz : ∀ i o d, i < n → ops[i]? = some o → o.dst = some d → d < a0.tmps.size)
 (hstep : ∀ i o, i < n → ops[i]? = some o → StepAt3 P ops n Z C a0 i o)
 (htail : ∀ (vs : Nat → Value) w, C w → (∀ i o d, i < n → ops[i]? = some o → o.dst = some d → Z i w (vs i)) → wpList P ops Q (ops.toList.drop n) (putAll (ops.toList.take n) vs 0 a0) w) :
 ∀ (f : Nat) (s : Array Bool) (a : Act) (w : World), unh s n = f → HeadInv .any ops n s → FlowInv ops n Z C a0 s a w → wpAny P .any ops Q (f + (ops.size - n)) s a w := by
 simp only [flowB, Bool.and_eq_true, decide_eq_true_eq] at hB
 obtain ⟨⟨⟨⟨⟨hn, hsink⟩, hchain⟩, hlow⟩, hsole⟩, hseq⟩ := hB
 intro f
 induction f with
 | zero =>
  intro s a w hf inv I
  have hall := unh_zero hf
  have es : s = doneS ops.size n := by
   apply Array.ext (by simp [doneS, inv.size])
   intro i h1 h2
   have hi : i < ops.size := by rw [← inv.size]; exact h1
   have e2 : (doneS ops.size n)[i] = decide (i < n) := by simp [doneS]
   rw [e2]
   by_cases hin : i < n
   · have := hall i hin
     simp [h1] at this
     simp [this, hin]
   · have := inv.tail i (by omega) hi
     simp [h1] at this
     simp [this, hin]
  have ha : putAll (ops.toList.take n) (fun i => a.tmps.getD (((ops[i]?).bind (·.dst)).getD 0) undef) 0 a0 = a := by
   refine putAll_eq ops n hsole a0 a hsz I.defers I.size _ (fun i o d hi ho hd => by simp only [ho, Option.bind_some, hd, Option.getD_some]) (fun d hd => I.rest d (fun i o hi ho _ => hd i o hi ho)) _ 0 a0 (fun j => by rw [Nat.zero_add]) (by simp) rfl rfl (fun i o d h => by omega) (fun d _ => rfl)
  have ht := htail (fun i => a.tmps.getD (((ops[i]?).bind (·.dst)).getD 0) undef) w I.world (fun i o d hi ho hd => by
   simp only [ho, Option.bind_some, hd, Option.getD_some]
   exact I.done i o d hi ho hd (hall i hi))
  rw [ha] at ht
  rw [Nat.zero_add, es]
  have hdl : (ops.toList.drop n).length = ops.size - n := by simp
  have := wpAny_of_seq (md := .any) (Q' := Q) (ops.toList.drop n) n (doneS ops.size n) a w (fun j => by simp [List.getElem?_drop]) (by rw [hdl]; exact hseq) ht
  rwa [hdl] at this
 | succ f ih =>
  intro s a w hf inv I
  obtain ⟨i0, hi0, hf0, hb0⟩ := unh_pos (n := n) (s := s) (by omega)
  have hr0 : i0 ∈ Region.ready .any ops s := by
   obtain ⟨o, ho⟩ : ∃ o, ops[i0]? = some o := ⟨_, Array.getElem?_eq_getElem (by omega)⟩
   refine mem_ready.2 ⟨getD_in (by rw [inv.size]; omega) hf0, o, ho, fun e he hbd => hb0 _ ?_⟩
   have h1 := List.all_eq_true.1 hlow i0 (List.mem_range.2 hi0)
   simp only [ho] at h1
   have h2 := Array.all_eq_true_iff_forall_mem.1 h1 e he
   simp only [hbd, Bool.not_true, Bool.false_or, decide_eq_true_eq] at h2
   exact h2
  rw [show f + 1 + (ops.size - n) = (f + (ops.size - n)) + 1 by omega]
  refine ⟨fun h0 => (by rw [h0] at hr0; cases hr0), fun i hi => ?_⟩
  have hin : i < n := head_lt hsink hchain hn inv hr0 hi0 hi
  obtain ⟨hun, o, ho, hdeps⟩ := mem_ready.1 hi
  have hst := hstep i o hin ho a w I.world (fun e he hbd oj d hoj hd => I.done _ oj d (by
   have h1 := List.all_eq_true.1 hlow i (List.mem_range.2 hin)
   simp only [ho] at h1
   have h2 := Array.all_eq_true_iff_forall_mem.1 h1 e he
   simp only [hbd, Bool.not_true, Bool.false_or, decide_eq_true_eq] at h2
   omega) hoj hd (hdeps e he hbd)) (fun d hd => I.rest d (fun j oj hj hoj _ => hd j oj hj hoj))
  have hunh := unh_set hun hin
  have inv' := inv.set hi hin
  have next : ∀ v w', Z i w' v → C w' → (∀ j u, j ≠ i → Z j w u → Z j w' u) → FlowInv ops n Z C a0 (s.setIfInBounds i true) (a.put o.dst v) w' := by
   intro v w' hZ hC hmon
   refine ⟨hC, by rw [put_defers, I.defers], by rw [put_size, I.size], ?_, ?_⟩
   · intro j oj d hj hoj hd hl
     by_cases e : i = j
     · subst e
       have : oj = o := Option.some.inj (hoj.symm.trans ho)
       subst this
       rw [hd, put_same (by rw [I.size]; exact hsz i oj d hin hoj hd)]
       exact hZ
     · rw [getD_set_ne false e] at hl
       rw [put_other (fun h => e (soleB_spec hsole hin hj ho hoj h hd))]
       exact hmon j _ (Ne.symm e) (I.done j oj d hj hoj hd hl)
   · intro d hd
     have h1 : o.dst ≠ some d := hd i o hin ho (by
      have : i < s.size := by rw [inv.size]; omega
      simp [this])
     rw [put_other h1]
     exact I.rest d (fun j oj hj hoj hl => hd j oj hj hoj (by
      by_cases e : i = j
      · subst e; rw [getD_both hun] at hl; cases hl
      · rw [getD_set_ne false e]; exact hl))
  unfold wpOp
  simp only [ho]
  by_cases hw : Region.wanted o (yielded ops a.tmps) = true
  · rw [if_pos hw] at hst ⊢
    exact .inl (Oper.wp_of_flowA hst fun v w' ⟨h1, h2, h3⟩ => ih _ _ _ (by omega) inv' (next v w' h1 h2 h3))
  · rw [if_neg hw] at hst ⊢
    exact ih _ _ _ (by omega) inv' (next undef w hst I.world (fun _ _ _ h => h))
theorem wp_region_flow3 {id : Nat} {Q : Exit → Act → World → Prop} {a0 : Act} {w : World} {l : List Oper} (n : Nat) (hm : P.follows .mixedOrders = true) (hB : flowB l.toArray n = true)
 (hsz : ∀ i o d, i < n → l[i]? = some o → o.dst = some d → d < a0.tmps.size) (Z : Nat → World → Value → Prop) (C : World → Prop) (hC : C { w with drawn := w.drawn + 1 })
 (hstep : ∀ i o, i < n → l[i]? = some o → StepAt3 P l.toArray n Z C a0 i o)
 (htail : ∀ (vs : Nat → Value) w, C w → (∀ i o d, i < n → l[i]? = some o → o.dst = some d → Z i w (vs i)) → wpList P l.toArray Q (l.drop n) (putAll (l.take n) vs 0 a0) w) : (Code.region id l.toArray true).wp P Q a0 w := by
 refine wp_region_any hm ?_
 have hn : n < l.length := by simp only [flowB, Bool.and_eq_true, decide_eq_true_eq] at hB; simpa using hB.1.1.1.1.1
 have hu : unh (Array.replicate l.toArray.size false) n = n := by
  unfold unh
  rw [List.countP_eq_length.2 (fun i _ => by rw [getD_replicate_false]; rfl)]
  simp
 have := flow_head3 (P := P) (Q := Q) (Z := Z) (C := C) (a0 := a0) hB (fun i o d hi ho => hsz i o d hi (by simpa using ho)) (fun i o hi ho => hstep i o hi (by simpa using ho)) (fun vs w hC hZ => by
  have := htail vs w hC (fun i o d hi ho => hZ i o d hi (by simpa using ho))
  simpa using this) n (Array.replicate l.toArray.size false) a0 { w with drawn := w.drawn + 1 } hu
  ⟨by simp, fun j oj _ hl => (by rw [getD_replicate_false] at hl; cases hl), fun t _ ht => getD_in (by simpa using ht) (getD_replicate_false _ _)⟩
  ⟨hC, rfl, rfl, fun i o d _ _ _ hl => (by rw [getD_replicate_false] at hl; cases hl), fun _ _ => rfl⟩
 rwa [show n + (l.toArray.size - n) = l.toArray.size by simp; omega] at this
end
theorem tmp_bool {t : Array Value} {i : Nat} {b : Bool} (h : t.getD i undef = .bool b) : t[i]? = some (.bool b) := by
 rw [Array.getD_eq_getD_getElem?] at h
 cases e : t[i]? with
 | none => rw [e] at h; simp [undef] at h
 | some v => rw [e] at h; simpa using h
theorem gd {t : Array Value} {i : Nat} {u v : Value} (h : t.getD i u = v) : t[i]?.getD u = v := by rw [← h, Array.getD_eq_getD_getElem?]
theorem bget {W w : World} {b o : Nat} {v : Value} (hC : RowKit.Below W.heap.size W w) (h : W.cell? ⟨b, o, none⟩ = some v) (hb : b < W.heap.size) : w.cell? ⟨b, o, none⟩ = some v := ((bcell hC).1 b o hb).trans h
end Go.Proofs.YtendekbckfpmgaaGreat
namespace Go.Proofs.YtendekbckfpmgaaGreat
open Go.RowKit
open Go.Maps (Keyed)
section
variable {P : Program} (w : World)
theorem run_append_both (base : Nat) (t ty e : TypeId) (i : TypeInfo) (z : Value) (size bytes : Nat) (ht : P.underlying t = some (.slice e)) (hi : P.info? e = some i) (hz : i.zero = some z)
 (hsize : i.size = size) (hby : i.bytes = bytes) (hzs : z.cells.size = size) (hsz : 0 < size)
 (v : Value) (n : Nat) (xs : List Value) (hown : w.ownsRow base e size v n xs)
 (a : Addr) (m c : Nat) (news : List Value) (hl : news.length = m * size) (hnews : ∀ j u, news[j]? = some u → w.cell? (a.add j) = some u) (h1 : ∀ u ∈ news, u.oneCell' = true)
 (h63 : n + m ≤ maxLen) (hbytes : (n + m) * bytes ≤ 140737488355328) (hbase : base ≤ w.heap.size) :
 ∃ v' w', (Builtin.append_ #[t, t] ty #[v, .slice (some a) m c]).run P w = .ok v' w' ∧ w'.ownsRow base e size v' (n + m) (xs ++ news) ∧ w.grownBy w' v.ownBlock ∧
  (v'.ownBlock = v.ownBlock ∨ v'.ownBlock = some w.heap.size) ∧ w'.ownsRow base e size v n xs := by
 obtain ⟨v', w', hr, h2, h3, _, h5⟩ := run_append_own_at (P := P) w base t ty e i z size bytes ht hi hz hsize hby hzs hsz v n xs hown a m c news hl hnews h1 h63 hbytes hbase
 refine ⟨v', w', hr, h2, h3, h5, ?_⟩
 subst hsize
 subst hby
 rcases hown.2 with ⟨rfl, rfl⟩ | ⟨g, cap, cur, rfl, hbg, hg, hnc, hcm, hcs, htake⟩
 · have hx : xs = [] := List.eq_nil_of_length_eq_zero (by simpa using hown.1)
   subst hx
   exact World.ownsRow_nil _ _ _ _
 · by_cases hroom : n + m ≤ cap
   · have hfit : n * i.size + news.length ≤ cur.size := by rw [hl, hcs, ← Nat.add_mul]; exact Nat.mul_le_mul_right _ hroom
     have hr2 := run_append_room (P := P) w t ty e i ht hi g n cap cur hg a m c news hl hnews h1 hroom hfit
     rw [hr] at hr2
     injection hr2 with _ hw
     subst hw
     refine ⟨hown.1, .inr ⟨g, cap, _, rfl, hbg, setRow_heap w g cur _ e _ hg, hnc, hcm, ?_, ?_⟩⟩
     · simp only [List.size_toArray, List.length_append, List.length_take, List.length_drop, Array.length_toList]
       omega
     · have hlx := hown.1
       simp only [List.append_assoc]
       rw [htake, ← hlx]
       exact List.take_left
   · have holds : ∀ j u, xs[j]? = some u → w.cell? ((⟨g, 0, none⟩ : Addr).add j) = some u := hown.cells (g := g) rfl
     have hsmall : n + m ≤ 9223372036854775807 := by simp only [maxLen] at h63; omega
     have hr2 := run_append_grow (P := P) w t ty e i z ht hi hz ⟨g, 0, none⟩ n cap xs hown.1 holds a m c news hl hnews (by omega) (by omega) (growslice_fits (by omega) hbytes)
     rw [hr] at hr2
     injection hr2 with _ hw
     subst hw
     exact World.ownsRow.alloc (w := w.drew) (show w.drew.ownsRow _ _ _ _ _ _ from hown) _
theorem exec_append {o : Oper} {a : Act} {v v' xv : Value} {w' : World} (s x : Operand) (t : TypeId) (ho : o.op = .call { callee := .builtin .append, args := #[s, x], argTypes := #[t, t] }) (hs : a.eval s = v) (hx : a.eval x = xv)
 (hrun : (Builtin.append_ #[t, t] o.type #[v, xv]).run P w = .ok v' w') : (execOp a.eval o).run P w = .ok (.value v') w' := by
 unfold execOp
 simp only [ho, resolve, invoke, builtin, Sem.run_bind, Sem.run_pure, Result.andThen_ok, List.map_toArray, List.map_cons, List.map_nil, hs, hx, hrun]
end
structure Fd where
 nm : ByteArray
 ar : Value
 res : Int
 df : Bool
def Fd.cells (x : Fd) : List Value := [.string x.nm, x.ar, .int .i64 x.res, .bool x.df]
def flatF (fs : List Fd) : List Value := fs.flatMap Fd.cells
theorem flatF_snoc (fs : List Fd) (x : Fd) : flatF (fs ++ [x]) = flatF fs ++ x.cells := by simp [flatF]
theorem flatF_get : ∀ (fs : List Fd) (i : Nat) (x : Fd) (j : Nat), fs[i]? = some x → j < 4 → (flatF fs)[i * 4 + j]? = x.cells[j]?
 | [], i, x, j, h, _ => by simp at h
 | y :: r, 0, x, j, h, hj => by
  have : y = x := by simpa using h
  subst this
  simp only [flatF, List.flatMap_cons, Nat.zero_mul, Nat.zero_add]
  rw [List.getElem?_append_left (by simp [Fd.cells]; omega)]
 | y :: r, i + 1, x, j, h, hj => by
  have := flatF_get r i x j (by simpa using h) hj
  simp only [flatF, List.flatMap_cons] at this ⊢
  rw [List.getElem?_append_right (by simp [Fd.cells]; omega)]
  rw [← this]
  congr 1
  simp [Fd.cells]; omega
abbrev ownsD (w : World) (m n : Nat) (D : DataW Unit) : Prop := w.ownsMap Tryz.prog 9 (plainElem Tryz.prog 3) m n D
def kS (s : ByteArray) : Lit := .string s.data.toList
theorem keyS {s : ByteArray} (h : s.size ≤ maxLen) : keyOf Tryz.prog 9 (.string s) = some (kS s) := WideMaps.keyOf_string_mk Tryz.underlying9 h
theorem isKeyS (s : ByteArray) : WideAt.IsKeyLit (kS s) := by unfold kS; simp [WideAt.IsKeyLit]
def numOf (D : DataW Unit) (s : ByteArray) : Int := match D.atKey (kS s) (.lit (.int .i64 0)) with | .lit (.int _ c) => c | _ => 0
theorem look_num {w : World} {m n : Nat} {D : DataW Unit} (h : ownsD w m n D) {s : ByteArray} (hs : s.size ≤ maxLen) :
 (Instr.lookup 137 (.map (some m)) (.string s) true).run Tryz.prog w = .ok (.tuple #[.int .i64 (numOf D s), .bool (Maps.has D (kS s))]) w ∧
 (Instr.lookup 137 (.map (some m)) (.string s) false).run Tryz.prog w = .ok (.int .i64 (numOf D s)) w ∧ I64 (numOf D s) := by
 have hz : (zeroValue 3).run Tryz.prog w = .ok (.int .i64 0) w := by kernel_rfl
 obtain ⟨v, ps, hr, hv⟩ := h.look_ok (Maps.string_keyed Tryz.underlying9) Tryz.underlying137 hz (plainElem_int Tryz.underlying3 (by decide)) (keyS hs)
 obtain ⟨c, rfl, hc, hwc⟩ := plainElem_int_inv Tryz.underlying3 hv
 simp only [Prod.mk.injEq] at hc
 obtain ⟨c', hr', hc', _⟩ := h.lookup_int (Maps.string_keyed Tryz.underlying9) Tryz.underlying137 Tryz.underlying3 hz (keyS hs)
 have e : numOf D s = c := by unfold numOf; rw [hc.1]
 have e' : numOf D s = c' := by unfold numOf; rw [hc']
 refine ⟨by rw [e]; exact hr, by rw [e']; exact hr', ?_⟩
 rw [e]
 simp only [Lit.wf, Bool.and_eq_true, decide_eq_true_eq] at hwc
 have l1 : IntKind.i64.min = -9223372036854775808 := by decide
 have l2 : IntKind.i64.max = 9223372036854775807 := by decide
 rw [l1, l2] at hwc
 exact hwc
theorem numOf_put {D : DataW Unit} (h : Maps.IsMap D) (s : ByteArray) (c : Int) : numOf (D.put (kS s) (.lit (.int .i64 c))) s = c := by
 unfold numOf; rw [Maps.atKey_put_same h (isKeyS s)]
end Go.Proofs.YtendekbckfpmgaaGreat
namespace Go.Proofs.YtendekbckfpmgaaGreat
open Go.RowKit
theorem infoF : (Tryz.prog.info? 72).map (fun i => (i.zero, i.size, i.bytes)) = some (some (.agg #[.string ByteArray.empty, .slice none 0 0, .int .i64 0, .bool false]), 4, 56) := by kernel_rfl
def ZA (b o : Nat) (A : Value) (B n : Nat) (xs : List Value) (f : Fd) (W : Nat) : Nat → World → Value → Prop
 | 4, _, v => v = A
 | 5, _, v => v = .agg f.cells.toArray
 | 6, w, v => ∃ ad, v = .slice (some ⟨ad, 0, none⟩) 1 1 ∧ W ≤ ad ∧ RowB w ad 72 f.cells
 | 7, w, v => w.ownsRow B 72 4 v (n + 1) (xs ++ f.cells) ∧ (v.ownBlock = A.ownBlock ∨ ∃ g, v.ownBlock = some g ∧ W ≤ g)
 | _, _, v => v = .pointer (some ⟨b, o, none⟩)
def CA (A : Value) (B n : Nat) (xs : List Value) (w w' : World) : Prop := Ch (fun k => A.ownBlock = some k) w w' ∧ w'.ownsRow B 72 4 A n xs
theorem ZA.keep {b o : Nat} {A : Value} {B n : Nat} {xs : List Value} {f : Fd} {W : Nat} {w w' : World} {i : Nat} (h6 : i ≠ 6 → ∀ ad, W ≤ ad → RowB w ad 72 f.cells → RowB w' ad 72 f.cells)
 (h7 : i ≠ 7 → ∀ v, w.ownsRow B 72 4 v (n + 1) (xs ++ f.cells) → w'.ownsRow B 72 4 v (n + 1) (xs ++ f.cells)) : ∀ j u, j ≠ i → ZA b o A B n xs f W j w u → ZA b o A B n xs f W j w' u := by
 intro j u hj h
 unfold ZA at h ⊢
 split at h
 · exact h
 · exact h
 · obtain ⟨ad, h1, h2, h3⟩ := h
   exact ⟨ad, h1, h2, h6 (Ne.symm hj) ad h2 h3⟩
 · exact ⟨h7 (Ne.symm hj) _ h.1, h.2⟩
 · exact h
theorem own_slice {w : World} {base : Nat} {e : TypeId} {size : Nat} {v : Value} {n : Nat} {xs : List Value} (h : w.ownsRow base e size v n xs) : ∃ ao cap, v = .slice ao n cap ∧ n ≤ cap := by
 rcases h.2 with ⟨rfl, rfl⟩ | ⟨g, cap, cur, rfl, _, _, hc, _⟩
 · exact ⟨none, 0, rfl, Nat.le_refl _⟩
 · exact ⟨_, cap, rfl, hc⟩
theorem Fd.one {f : Fd} (h : f.ar.oneCell' = true) : ∀ u ∈ f.cells, u.oneCell' = true := by
 intro u hu
 simp only [Fd.cells, List.mem_cons, List.not_mem_nil, or_false] at hu
 rcases hu with rfl | rfl | rfl | rfl
 · rfl
 · exact h
 · rfl
 · rfl
theorem RowB.at {w : World} {b : Nat} {t : TypeId} {vs : List Value} (h : RowB w b t vs) : CellsAt w b 0 vs := fun j v hv => by rw [Nat.zero_add, h.cell]; exact hv
def addE (D : DataW Unit) (s : ByteArray) (n : Nat) : Int := if Maps.has D (kS s) then 8 else if 2000 ≤ n then 9 else 0
theorem wf_small (n : Nat) (h : n ≤ 2000) : (Lit.int .i64 n).wf = true := by
 have l1 : IntKind.i64.min = -9223372036854775808 := by decide
 have l2 : IntKind.i64.max = 9223372036854775807 := by decide
 simp only [Lit.wf, Bool.and_eq_true, decide_eq_true_eq]
 rw [l1, l2]; omega
theorem wrap_small (n : Nat) (h : n ≤ 2000) : IntKind.i64.wrap n = n := IntWalk.i64_in _ (by constructor <;> omega)
set_option maxRecDepth 100000 in
set_option maxHeartbeats 1000000 in
theorem add_any (b o B m n : Nat) (vs : List Value) (A : Value) (xs : List Value) (D : DataW Unit) (f : Fd) (w : World)
 (hrow : RowB w b 142 vs) (h0 : vs[o]? = some A) (h1 : vs[o + 1]? = some (.map (some m)))
 (hA : w.ownsRow B 72 4 A n xs) (hm : ownsD w m n D) (hB : B ≤ w.heap.size) (hn : n ≤ 2000) (hnm : f.nm.size ≤ maxLen) (har : f.ar.oneCell' = true) :
 Calls Tryz.prog 62 #[.pointer (some ⟨b, o, none⟩), .agg f.cells.toArray] w fun e w' =>
  (addE D f.nm n ≠ 0 ∧ e = .returned (.tuple #[.int .i64 0, .int .i64 (addE D f.nm n)]) ∧ Ch (fun _ => False) w w') ∨
  (∃ A', addE D f.nm n = 0 ∧ e = .returned (.tuple #[.int .i64 n, .int .i64 0]) ∧ Maps.has D (kS f.nm) = false ∧ n < 2000 ∧ RowB w' b 142 (vs.set o A') ∧ w'.ownsRow B 72 4 A' (n + 1) (xs ++ f.cells) ∧
   ownsD w' m (n + 1) (D.put (kS f.nm) (.lit (.int .i64 n))) ∧ (A'.ownBlock = A.ownBlock ∨ ∃ g, A'.ownBlock = some g ∧ w.heap.size ≤ g) ∧ Ch (fun k => k = b ∨ A.ownBlock = some k ∨ k = m) w w') := by
 have hbl := hrow.lt
 have c0 : w.cell? ⟨b, o, none⟩ = some A := by rw [hrow.cell]; exact h0
 have c1 : w.cell? ⟨b, o + 1, none⟩ = some (.map (some m)) := by rw [hrow.cell]; exact h1
 go_enter Tryz.func62, Tryz.ntmps62
 go_wp2
 refine wp_region_below (by kernel_rfl) (by kernel_rfl) ?_
 iterate 6 (refine wq_val (by rfl) (fun w' hw' => by obtain ⟨hc, hf⟩ := bcell hw'; go_simp; try rfl) ?_; (intro K hK; go_simp; refine hK _ ?_; clear hK K))
 (refine wq_val (v := .tuple #[.int .i64 (numOf D f.nm), .bool (Maps.has D (kS f.nm))]) (by rfl) (fun w' hw' => by have hl := (look_num (ownsMap_ch (hm.alloc _) (Ch.ofBelow (S := fun _ => False) hw') (fun h => h)) hnm).1; go_simp; try rfl) ?_; (intro K hK; go_simp; refine hK _ ?_; clear hK K))
 iterate 5 (refine wq_val (by rfl) (fun w' hw' => by obtain ⟨hc, hf⟩ := bcell hw'; go_simp; try rfl) ?_; (intro K hK; go_simp; refine hK _ ?_; clear hK K))
 refine wpQuiet_nil ?_; intro w4 hb4
 have ch4 : Ch (fun _ => False) w w4 := ((Ch.refl _ w).alloc (.cells f.cells.toArray 72)).trans (Ch.ofBelow hb4)
 have hrow4 : RowB w4 b 142 vs := hrow.kept ch4 (fun h => h)
 have hbox4 : RowB w4 w.heap.size 72 f.cells := RowB.kept (S := fun _ => False) (RowB.new w f.cells 72) (Ch.ofBelow hb4) (fun h => h)
 have hA4 : w4.ownsRow B 72 4 A n xs := ownsRow_ch hA ch4 (fun _ _ h => h)
 have hm4 : ownsD w4 m n D := ownsMap_ch hm ch4 (fun h => h)
 have hB4 : B ≤ w4.heap.size := Nat.le_trans hB ch4.size
 have hAlt : ∀ k, A.ownBlock = some k → k < w.heap.size := fun k hk => (hA.lt k hk).2
 have c0' : w4.cell? ⟨b, o, none⟩ = some A := by rw [hrow4.cell]; exact h0
 obtain ⟨ao, cap, hAe, hcap⟩ := own_slice hA
 clear hb4 c0 c1 hA hm hrow
 generalize hfb : w.heap.size = fb at hbox4 hB hbl hAlt ⊢
 have HFB := Lib.hid hfb
 clear hfb
 have HL := Lib.hid (And.intro h0 h1)
 have HN := Lib.hid hn
 subst hAe
 clear h0 h1
 cases hhas : Maps.has D (kS f.nm)
 case true =>
  go_wp2
  go_ret2
  have hE : addE D f.nm n = 8 := by unfold addE; rw [hhas]; rfl
  exact Or.inl ⟨by rw [hE]; decide, by rw [hE]; rfl, ch4⟩
 case false =>
  by_cases h2 : 2000 ≤ n
  case pos =>
   have h2' : (2000 : Int) ≤ n := by omega
   go_wp2
   go_ret2
   have hE : addE D f.nm n = 9 := by unfold addE; rw [hhas, if_pos h2]; rfl
   exact Or.inl ⟨by rw [hE]; decide, by rw [hE]; rfl, ch4⟩
  case neg =>
   have h2' : ¬ (2000 : Int) ≤ n := by omega
   go_wp2
   have hne : ∀ k, (Value.slice ao n cap).ownBlock = some k → k ≠ fb ∧ k ≠ b ∧ k ≠ m := fun k hk => ⟨by have := hAlt k hk; omega, fun e => own_ne_row hA4 hrow4 (by decide) (by rw [hk, e]), fun e => own_ne_map hA4 hm4 (by rw [hk, e])⟩
   have cellK : ∀ w', CA (.slice ao n cap) B n xs w4 w' → w'.cell? ⟨b, o, none⟩ = some (.slice ao n cap) := fun w' h => by rw [(hrow4.kept h.1 (fun e => (hne b e).2.1 rfl)).cell]; exact HL.out.1
   have fboxK : ∀ w', CA (.slice ao n cap) B n xs w4 w' → CellsAt w' fb 0 f.cells := fun w' h => (hbox4.kept h.1 (fun e => (hne fb e).1 rfl)).at
   have allocK : ∀ w', CA (.slice ao n cap) B n xs w4 w' → ZA b o (.slice ao n cap) B n xs f w4.heap.size 6 (w'.alloc (.cells f.cells.toArray 72)) (.slice (some ⟨w'.heap.size, 0, none⟩) 1 1) ∧ CA (.slice ao n cap) B n xs w4 (w'.alloc (.cells f.cells.toArray 72)) ∧
    ∀ j u, j ≠ 6 → ZA b o (.slice ao n cap) B n xs f w4.heap.size j w' u → ZA b o (.slice ao n cap) B n xs f w4.heap.size j (w'.alloc (.cells f.cells.toArray 72)) u := fun w' h =>
    ⟨⟨_, rfl, h.1.size, RowB.new _ _ _⟩, ⟨h.1.alloc _, h.2.alloc _⟩, ZA.keep (fun e => absurd rfl e) (fun _ v hv => hv.alloc _)⟩
   have appK : ∀ w', CA (.slice ao n cap) B n xs w4 w' → ∀ ad, w4.heap.size ≤ ad → RowB w' ad 72 f.cells → ∃ v' w'', (Builtin.append_ #[138, 138] 138 #[.slice ao n cap, .slice (some ⟨ad, 0, none⟩) 1 1]).run Tryz.prog w' = .ok v' w'' ∧
    (ZA b o (.slice ao n cap) B n xs f w4.heap.size 7 w'' v' ∧ CA (.slice ao n cap) B n xs w4 w'' ∧ ∀ j u, j ≠ 7 → ZA b o (.slice ao n cap) B n xs f w4.heap.size j w' u → ZA b o (.slice ao n cap) B n xs f w4.heap.size j w'' u) := fun w' h ad h1 h3 => by
    obtain ⟨i0, hi, hz0, hz1, hz2⟩ := info_parts infoF
    obtain ⟨v', w'', hr, ho, hg, hat, hold⟩ := run_append_both (P := Tryz.prog) w' B 138 138 72 i0 _ 4 56 Tryz.underlying138 hi hz0 hz1 hz2 rfl (by decide) (.slice ao n cap) n xs h.2 ⟨ad, 0, none⟩ 1 1 f.cells rfl
     (fun j u hu => by rw [show ((⟨ad, 0, none⟩ : Addr).add j) = ⟨ad, j, none⟩ by cases j <;> simp [Addr.add], h3.cell]; exact hu) (Fd.one har) (by unfold maxLen; omega) (by omega) (Nat.le_trans hB4 h.1.size)
    have hch : Ch (fun k => (Value.slice ao n cap).ownBlock = some k) w' w'' := Ch.grown hg (fun k e => e.symm)
    refine ⟨v', w'', hr, ⟨ho, hat.imp id (fun e => ⟨_, e, h.1.size⟩)⟩, ⟨h.1.trans hch, hold⟩, ZA.keep (fun _ ad' hd hr' => hr'.kept hch (fun e => by have := hA4.lt _ e; omega)) (fun e => absurd rfl e)⟩
   refine wp_region_flow3 10 (by kernel_rfl) (by kernel_rfl) ?_ (ZA b o (.slice ao n cap) B n xs f w4.heap.size) (CA (.slice ao n cap) B n xs w4) ⟨(Ch.refl _ w4).drawn, hA4⟩ ?_ ?_
   · intro i o' d hi ho hd
     have : i = 0 ∨ i = 1 ∨ i = 2 ∨ i = 3 ∨ i = 4 ∨ i = 5 ∨ i = 6 ∨ i = 7 ∨ i = 8 ∨ i = 9 := by omega
     rcases this with rfl | rfl | rfl | rfl | rfl | rfl | rfl | rfl | rfl | rfl <;> (simp at ho; subst ho; simp at hd; subst hd; simp)
   · intro i o' hi ho
     have : i = 0 ∨ i = 1 ∨ i = 2 ∨ i = 3 ∨ i = 4 ∨ i = 5 ∨ i = 6 ∨ i = 7 ∨ i = 8 ∨ i = 9 := by omega
     rcases this with rfl | rfl | rfl | rfl | rfl | rfl | rfl | rfl | rfl | rfl <;> (simp at ho; subst ho; intro a w' hC hd hr; rw [if_pos (by rfl)])
     · have e0 : a.tmps.getD 0 undef = Value.pointer (some ⟨b, o, none⟩) := hr 0 (free_of (by rfl))
       have e0' : a.tmps[0]?.getD undef = Value.pointer (some ⟨b, o, none⟩) := by simpa using e0
       exact flow_val (v := Value.pointer (some ⟨b, o, none⟩)) (by go_simp) ⟨rfl, hC, fun _ _ _ h => h⟩
     · have e0 : a.tmps.getD 0 undef = Value.pointer (some ⟨b, o, none⟩) := hr 0 (free_of (by rfl))
       have e0' : a.tmps[0]?.getD undef = Value.pointer (some ⟨b, o, none⟩) := by simpa using e0
       exact flow_val (v := Value.pointer (some ⟨b, o, none⟩)) (by go_simp) ⟨rfl, hC, fun _ _ _ h => h⟩
     · have e26 : a.tmps.getD 26 undef = Value.pointer (some ⟨b, o, none⟩) := hd ⟨1, .data⟩ (by simp) rfl _ _ rfl rfl
       have e26' : a.tmps[26]?.getD undef = Value.pointer (some ⟨b, o, none⟩) := by simpa using e26
       exact flow_val (v := Value.pointer (some ⟨b, o, none⟩)) (by go_simp) ⟨rfl, hC, fun _ _ _ h => h⟩
     · have e27 : a.tmps.getD 27 undef = Value.pointer (some ⟨b, o, none⟩) := hd ⟨2, .data⟩ (by simp) rfl _ _ rfl rfl
       have e27' : a.tmps[27]?.getD undef = Value.pointer (some ⟨b, o, none⟩) := by simpa using e27
       exact flow_val (v := Value.pointer (some ⟨b, o, none⟩)) (by go_simp) ⟨rfl, hC, fun _ _ _ h => h⟩
     · have e28 : a.tmps.getD 28 undef = Value.pointer (some ⟨b, o, none⟩) := hd ⟨3, .data⟩ (by simp) rfl _ _ rfl rfl
       have e28' : a.tmps[28]?.getD undef = Value.pointer (some ⟨b, o, none⟩) := by simpa using e28
       have c0 := cellK w' hC
       exact flow_val (v := .slice ao n cap) (by go_simp) ⟨rfl, hC, fun _ _ _ h => h⟩
     · have e3 : a.tmps.getD 3 undef = Value.pointer (some ⟨fb, 0, none⟩) := hr 3 (free_of (by rfl))
       have e3' : a.tmps[3]?.getD undef = Value.pointer (some ⟨fb, 0, none⟩) := by simpa using e3
       exact flow_val (run_load_cells 72 (.tmp 3) rfl fb 0 e3 f.cells _ Tryz.underlying72 rfl (by kernel_rfl) (fboxK w' hC)) ⟨rfl, hC, fun _ _ _ h => h⟩
     · have e30 : a.tmps.getD 30 undef = .agg #[.string f.nm, f.ar, .int .i64 f.res, .bool f.df] := hd ⟨5, .data⟩ (by simp) rfl _ _ rfl rfl
       have e30' : a.tmps[30]?.getD undef = .agg #[.string f.nm, f.ar, .int .i64 f.res, .bool f.df] := by simpa using e30
       refine flow_new (v := .slice (some ⟨w'.heap.size, 0, none⟩) 1 1) (w' := w'.alloc (.cells f.cells.toArray 72)) (by go_simp; rfl) ?_
       exact allocK w' hC
     · have e29 : a.tmps.getD 29 undef = .slice ao n cap := hd ⟨4, .data⟩ (by simp) rfl _ _ rfl rfl
       have e29' : a.tmps[29]?.getD undef = .slice ao n cap := by simpa using e29
       have h31 := hd ⟨6, .data⟩ (by simp) rfl _ _ rfl rfl
       obtain ⟨ad, h31a, h31b, h31c⟩ : ∃ ad, a.tmps.getD 31 undef = .slice (some ⟨ad, 0, none⟩) 1 1 ∧ w4.heap.size ≤ ad ∧ RowB w' ad 72 f.cells := h31
       obtain ⟨v', w'', hr1, hr2⟩ := appK w' hC ad h31b h31c
       exact flow_new (exec_append _ (.tmp 29) (.tmp 31) 138 rfl e29 h31a hr1) hr2
     · have e25 : a.tmps.getD 25 undef = Value.pointer (some ⟨b, o, none⟩) := hd ⟨0, .data⟩ (by simp) rfl _ _ rfl rfl
       have e25' : a.tmps[25]?.getD undef = Value.pointer (some ⟨b, o, none⟩) := by simpa using e25
       exact flow_val (v := Value.pointer (some ⟨b, o, none⟩)) (by go_simp) ⟨rfl, hC, fun _ _ _ h => h⟩
     · have e33 : a.tmps.getD 33 undef = Value.pointer (some ⟨b, o, none⟩) := hd ⟨8, .data⟩ (by simp) rfl _ _ rfl rfl
       have e33' : a.tmps[33]?.getD undef = Value.pointer (some ⟨b, o, none⟩) := by simpa using e33
       exact flow_val (v := Value.pointer (some ⟨b, o, none⟩)) (by go_simp) ⟨rfl, hC, fun _ _ _ h => h⟩
   · intro vs' w5 hC5 hZ
     have v7 := hZ 7 _ _ (by omega) rfl rfl
     have v9 : vs' 9 = .pointer (some ⟨b, o, none⟩) := hZ 9 _ _ (by omega) rfl rfl
     obtain ⟨hoA', hatA'⟩ : w5.ownsRow B 72 4 (vs' 7) (n + 1) (xs ++ f.cells) ∧ ((vs' 7).ownBlock = (Value.slice ao n cap).ownBlock ∨ ∃ g, (vs' 7).ownBlock = some g ∧ w4.heap.size ≤ g) := v7
     clear cellK fboxK allocK appK
     have hrow5 := hrow4.kept hC5.1 (fun e => (hne b e).2.1 rfl)
     simp only [List.drop_succ_cons, List.drop_zero, List.take_succ_cons, List.take_zero, putAll, v9]
     obtain ⟨ao', cap', hAe', _⟩ := own_slice hoA'
     simp only [hAe'] at *
     have c5 : w5.cell? ⟨b, o, none⟩ = some (.slice ao n cap) := by rw [hrow5.cell]; exact HL.out.1
     have f5 := hrow5.free o
     have hbl5 := hrow5.lt
     clear hZ
     go_wp2
     have hnA' : (Value.slice ao' (n + 1) cap').ownBlock ≠ some b := own_ne_row hoA' hrow5 (by decide)
     have hnm6 : ¬ (Value.slice ao n cap).ownBlock = some m := fun e => (hne m e).2.2 rfl
     have hm5 := ownsMap_ch hm4 hC5.1 hnm6
     have hbm : m ≠ b := fun e => row_ne_map hrow5 hm5 e.symm
     have hrow6 := hrow5.set o (.slice ao' (n + 1) cap')
     have ho6 := ownsRow_setCell_other hoA' (a := ⟨b, o, none⟩) hnA' (.slice ao' (n + 1) cap')
     have hm6 := hm5.setCell (a := ⟨b, o, none⟩) hbm (.slice ao' (n + 1) cap')
     have hbox6 : RowB (w5.setCell ⟨b, o, none⟩ (.slice ao' (n + 1) cap')) fb 72 f.cells := (hbox4.kept hC5.1 (fun e => (hne fb e).1 rfl)).kept (S := fun k => k = b) ((Ch.refl (fun k => k = b) w5).setC b o rfl _) (fun (e : fb = b) => by omega)
     have ch5 : Ch (fun k => k = b ∨ (Value.slice ao n cap).ownBlock = some k ∨ k = m) w w5 := (ch4.mono (fun _ _ h => h.elim)).trans (hC5.1.mono (fun _ _ h => Or.inr (Or.inl h)))
     have ch6 := ch5.setC b o (Or.inl rfl) (.slice ao' (n + 1) cap')
     have hs4 : fb ≤ w4.heap.size := by have := ch4.size; have := HFB.out; omega
     have holt : o < vs.length := (List.getElem?_eq_some_iff.1 HL.out.1).1
     have c60 : (w5.setCell ⟨b, o, none⟩ (.slice ao' (n + 1) cap')).cell? ⟨b, o, none⟩ = some (.slice ao' (n + 1) cap') := by rw [hrow6.cell]; simp [holt]
     have c61 : (w5.setCell ⟨b, o, none⟩ (.slice ao' (n + 1) cap')).cell? ⟨b, o + 1, none⟩ = some (.map (some m)) := by rw [hrow6.cell, List.getElem?_set_ne (by omega)]; exact HL.out.2
     have c62 : (w5.setCell ⟨b, o, none⟩ (.slice ao' (n + 1) cap')).cell? ⟨fb, 0, none⟩ = some (.string f.nm) := by rw [hbox6.cell]; rfl
     have hl6 := hrow6.lt
     have hl6' := hbox6.lt
     clear ch5 hrow5 hoA' hC5 hm5 c5 f5 hbl5 hA4 c0' hrow4 hm4 hbox4 ch4
     generalize w5.setCell ⟨b, o, none⟩ (.slice ao' (n + 1) cap') = w6 at *
     refine wp_region_below_tail 12 (by kernel_rfl) (by kernel_rfl) ?_
     iterate 12 (refine wq_val (by rfl) (fun w' hw' => by obtain ⟨hc, hf⟩ := bcell hw'; go_simp; try rfl) ?_; (intro K hK; go_simp; refine hK _ ?_; clear hK K))
     refine wpQuiet_nil ?_; intro w7 hb7
     have ch7 := ch6.trans (Ch.ofBelow hb7)
     have hrow7 := hrow6.kept (S := fun _ => False) (Ch.ofBelow hb7) (fun h => h)
     have ho7 := ownsRow_ch (S := fun _ => False) ho6 (Ch.ofBelow hb7) (fun _ _ h => h)
     have hm7 := ownsMap_ch (S := fun _ => False) hm6 (Ch.ofBelow hb7) (fun h => h)
     simp only [List.drop_succ_cons, List.drop_zero]
     refine wpList_mapUpdate_own _ rfl _ _ _ 137 rfl 9 3 (Maps.string_keyed Tryz.underlying9) Tryz.underlying137 _ m n D (by go_simp) hm7 (by unfold maxLen; omega) (.string f.nm) (.int .i64 n) (kS f.nm) (by go_simp) (by go_simp; rw [wrap_small n (by omega)]) (keyS hnm) (.lit (.int .i64 n)) [] (plainElem_int Tryz.underlying3 (wf_small n (by omega))) ?_
     intro w8 hm8 hg8
     have hbm7 : ¬ (some b = some m) := fun e => hbm (by simpa using e.symm)
     have ch78 : Ch (fun k => some k = some m) w7 w8 := Ch.ofGrown hg8
     have ch8 := ch7.trans (ch78.mono (fun k _ e => Or.inr (Or.inr (by simpa using e))))
     have hrow8 := hrow7.kept ch78 hbm7
     have ho8 := ownsRow_ch ho7 ch78 (fun k hk e => own_ne_map ho7 hm7 (by rw [hk]; exact e))
     have c80 : w8.cell? ⟨b, o, none⟩ = some (.slice ao' (n + 1) cap') := by rw [hrow8.cell]; simp [holt]
     clear hb7 ch7 hrow7 ho7 hm7 c60 c61 c62 hrow6 ho6 hm6 hbox6 ch6 hg8 ch78
     go_wp2
     go_ret2
     refine Or.inr ⟨.slice ao' (n + 1) cap', by unfold addE; rw [hhas, if_neg h2]; rfl, ?_, hhas, by omega, hrow8, ho8, hm8, ?_, ch8⟩
     · simp
     · rcases hatA' with e | ⟨g, e1, e2⟩
       · exact Or.inl e
       · exact Or.inr ⟨g, e1, by have := HFB.out; omega⟩
end Go.Proofs.YtendekbckfpmgaaGreat
namespace Go.Proofs.YtendekbckfpmgaaGreat
open Go.RowKit
structure Nm where
 A : Value
 m : Nat
 M : Value
 fs : List Fd
 ms : List Int
 D : DataW Unit
structure NmOk (B : Nat) (w : World) (x : Nm) : Prop where
 oA : w.ownsRow B 72 4 x.A x.fs.length (flatF x.fs)
 oM : w.ownsRow B 3 1 x.M x.ms.length (x.ms.map (Value.int .i64))
 oD : ownsD w x.m x.fs.length x.D
 nf : x.fs.length ≤ 2000
 nm : x.ms.length ≤ 200
 mks : ∀ y ∈ x.ms, 0 ≤ y ∧ y ≤ x.fs.length
 sz : ∀ f ∈ x.fs, f.nm.size ≤ maxLen
 gm : B ≤ x.m
 ar : ∀ f ∈ x.fs, ∃ l : List Int, l.length ≤ 20 ∧ w.ownsRow B 43 1 f.ar l.length (l.map (Value.int .i64))
def rowOf (x y : Nm) : List Value := [x.A, .map (some x.m), x.M, y.A, .map (some y.m), y.M]
structure STab0 (B : Nat) (w : World) (b : Nat) (x y : Nm) : Prop where
 row : RowB w b 142 (rowOf x y)
 gb : B ≤ b
 okx : NmOk B w x
 oky : NmOk B w y
 nA : ∀ k, x.A.ownBlock = some k → y.A.ownBlock ≠ some k
 nM : ∀ k, x.M.ownBlock = some k → y.M.ownBlock ≠ some k
 nD : x.m ≠ y.m
structure STab (B : Nat) (w : World) (b : Nat) (x y : Nm) : Prop extends STab0 B w b x y where
 ln : x.ms.length = y.ms.length
def Own (b : Nat) (x : Nm) (k : Nat) : Prop := k = b ∨ x.A.ownBlock = some k ∨ k = x.m ∨ x.M.ownBlock = some k
def Chg (b : Nat) (x y : Nm) (w w' : World) : Prop := Ch (fun k => Own b x k ∨ Own b y k) w w'
theorem Chg.ofx {b : Nat} {x y : Nm} {w w' : World} (h : Ch (Own b x) w w') : Chg b x y w w' := h.mono fun _ _ e => Or.inl e
theorem Chg.ofy {b : Nat} {x y : Nm} {w w' : World} (h : Ch (Own b y) w w') : Chg b x y w w' := h.mono fun _ _ e => Or.inr e
theorem Chg.ofB {b : Nat} {x y : Nm} {w w' : World} (h : Below w.heap.size w w') : Chg b x y w w' := Ch.ofBelow h
theorem own3 {b : Nat} {x : Nm} {w w' : World} (h : Ch (fun k => k = b ∨ x.A.ownBlock = some k ∨ k = x.m) w w') : Ch (Own b x) w w' :=
 h.mono fun k _ e => by rcases e with e | e | e; exact Or.inl e; exact Or.inr (Or.inl e); exact Or.inr (Or.inr (Or.inl e))
theorem NmOk.ch {B : Nat} {w w' : World} {x : Nm} {S : Nat → Prop} (h : NmOk B w x) (hc : Ch S w w') (hA : ∀ k, x.A.ownBlock = some k → ¬ S k) (hM : ∀ k, x.M.ownBlock = some k → ¬ S k) (hD : ¬ S x.m)
 (hr : ∀ v l, w.ownsRow B 43 1 v l.length l → ∀ k, v.ownBlock = some k → ¬ S k) : NmOk B w' x :=
 ⟨ownsRow_ch h.oA hc hA, ownsRow_ch h.oM hc hM, ownsMap_ch h.oD hc hD, h.nf, h.nm, h.mks, h.sz, h.gm, fun f hf => by
  obtain ⟨l, h1, h2⟩ := h.ar f hf
  exact ⟨l, h1, ownsRow_ch h2 hc (hr _ (l.map (Value.int .i64)) (by simpa using h2))⟩⟩
theorem NmOk.below {B : Nat} {w w' : World} {x : Nm} (h : NmOk B w x) (hb : Below w.heap.size w w') : NmOk B w' x :=
 h.ch (S := fun _ => False) (Ch.ofBelow hb) (fun _ _ e => e) (fun _ _ e => e) (fun e => e) (fun _ _ _ _ _ e => e)
theorem STab0.below {B : Nat} {w w' : World} {b : Nat} {x y : Nm} (h : STab0 B w b x y) (hb : Below w.heap.size w w') : STab0 B w' b x y :=
 ⟨h.row.kept (S := fun _ => False) (Ch.ofBelow hb) (fun e => e), h.gb, h.okx.below hb, h.oky.below hb, h.nA, h.nM, h.nD⟩
theorem STab.below {B : Nat} {w w' : World} {b : Nat} {x y : Nm} (h : STab B w b x y) (hb : Below w.heap.size w w') : STab B w' b x y := ⟨h.toSTab0.below hb, h.ln⟩
theorem own_args {B : Nat} {w : World} {b : Nat} {x y : Nm} (h : STab0 B w b x y) : (∀ v l, w.ownsRow B 43 1 v l.length l → ∀ k, v.ownBlock = some k → ¬ Own b x k) ∧ (∀ v l, w.ownsRow B 43 1 v l.length l → ∀ k, v.ownBlock = some k → ¬ Own b y k) := by
 constructor <;>
 · intro v l hv k hk hs
   rcases hs with rfl | e | rfl | e
   · exact own_ne_row hv h.row (by decide) hk
   · first | exact own_ne hv h.okx.oA (by decide) hk e | exact own_ne hv h.oky.oA (by decide) hk e
   · first | exact own_ne_map hv h.okx.oD hk | exact own_ne_map hv h.oky.oD hk
   · first | exact own_ne hv h.okx.oM (by decide) hk e | exact own_ne hv h.oky.oM (by decide) hk e
theorem STab0.yx {B : Nat} {w w' : World} {b : Nat} {x y : Nm} (h : STab0 B w b x y) (hc : Ch (Own b x) w w') : NmOk B w' y := by
 refine h.oky.ch hc ?_ ?_ ?_ (own_args h).1
 · intro k hk hs
   rcases hs with rfl | e | rfl | e
   · exact own_ne_row h.oky.oA h.row (by decide) hk
   · exact h.nA k e hk
   · exact own_ne_map h.oky.oA h.okx.oD hk
   · exact own_ne h.oky.oA h.okx.oM (by decide) hk e
 · intro k hk hs
   rcases hs with rfl | e | rfl | e
   · exact own_ne_row h.oky.oM h.row (by decide) hk
   · exact own_ne h.oky.oM h.okx.oA (by decide) hk e
   · exact own_ne_map h.oky.oM h.okx.oD hk
   · exact h.nM k e hk
 · intro hs
   rcases hs with e | e | e | e
   · exact row_ne_map h.row h.oky.oD e.symm
   · exact own_ne_map h.okx.oA h.oky.oD e
   · exact h.nD e.symm
   · exact own_ne_map h.okx.oM h.oky.oD e
theorem STab0.xy {B : Nat} {w w' : World} {b : Nat} {x y : Nm} (h : STab0 B w b x y) (hc : Ch (Own b y) w w') : NmOk B w' x := by
 refine h.okx.ch hc ?_ ?_ ?_ (own_args h).2
 · intro k hk hs
   rcases hs with rfl | e | rfl | e
   · exact own_ne_row h.okx.oA h.row (by decide) hk
   · exact h.nA k hk e
   · exact own_ne_map h.okx.oA h.oky.oD hk
   · exact own_ne h.okx.oA h.oky.oM (by decide) hk e
 · intro k hk hs
   rcases hs with rfl | e | rfl | e
   · exact own_ne_row h.okx.oM h.row (by decide) hk
   · exact own_ne h.okx.oM h.oky.oA (by decide) hk e
   · exact own_ne_map h.okx.oM h.oky.oD hk
   · exact h.nM k hk e
 · intro hs
   rcases hs with e | e | e | e
   · exact row_ne_map h.row h.okx.oD e.symm
   · exact own_ne_map h.oky.oA h.okx.oD e
   · exact h.nD e
   · exact own_ne_map h.oky.oM h.okx.oD e
theorem STab0.lowx {B : Nat} {w w' : World} {b : Nat} {x y : Nm} (h : STab0 B w b x y) (hc : Ch (Own b x) w w') : Below B w w' :=
 hc.below (Nat.le_trans h.gb (Nat.le_of_lt h.row.lt)) (fun k hs => by
  rcases hs with rfl | e | rfl | e
  · exact h.gb
  · exact (h.okx.oA.lt k e).1
  · exact h.okx.gm
  · exact (h.okx.oM.lt k e).1)
theorem STab0.lowy {B : Nat} {w w' : World} {b : Nat} {x y : Nm} (h : STab0 B w b x y) (hc : Ch (Own b y) w w') : Below B w w' :=
 hc.below (Nat.le_trans h.gb (Nat.le_of_lt h.row.lt)) (fun k hs => by
  rcases hs with rfl | e | rfl | e
  · exact h.gb
  · exact (h.oky.oA.lt k e).1
  · exact h.oky.gm
  · exact (h.oky.oM.lt k e).1)
section
variable {B : Nat} {w : World} {b : Nat} {x y : Nm}
theorem STab0.c0 (h : STab0 B w b x y) : w.cell? ⟨b, 0, none⟩ = some x.A := h.row.cell 0
theorem STab0.c1 (h : STab0 B w b x y) : w.cell? ⟨b, 1, none⟩ = some (.map (some x.m)) := h.row.cell 1
theorem STab0.c3 (h : STab0 B w b x y) : w.cell? ⟨b, 3, none⟩ = some y.A := h.row.cell 3
theorem STab0.c4 (h : STab0 B w b x y) : w.cell? ⟨b, 4, none⟩ = some (.map (some y.m)) := h.row.cell 4
theorem STab0.lt (h : STab0 B w b x y) : b < w.heap.size := h.row.lt
theorem STab0.B_le (h : STab0 B w b x y) : B ≤ w.heap.size := Nat.le_trans h.gb (Nat.le_of_lt h.row.lt)
end
theorem none_tab {B : Nat} {w : World} {b : Nat} {x y : Nm} (h : STab0 B w b x y) : Calls Tryz.prog 60 #[.pointer (some ⟨b, 0, none⟩)] w fun e w' => e = .returned (.bool false) ∧ w' = w :=
 none_there b 0 x.m w (by simpa using h.c1)
def sBool : ByteArray := ⟨#[66, 111, 111, 108]⟩
def sInt : ByteArray := ⟨#[73, 110, 116]⟩
theorem beq_ne {s t : ByteArray} (h : s ≠ t) : (s.toList == t.toList) = false := by
 rw [beq_eq_false_iff_ne]
 intro q
 rw [Lib.toList_data, Lib.toList_data] at q
 exact h (ByteArray.ext (by simpa using q))
def thereB (x : Nm) (s : Int) : Bool := s == 0 || s == 1 || (decide (2 ≤ s) && match x.fs[(s - 2).toNat]? with
 | some f => Maps.has x.D (kS f.nm) && (numOf x.D f.nm == s - 2)
 | none => false)
set_option maxRecDepth 100000 in
theorem there_any {B : Nat} {w : World} {b : Nat} {x y : Nm} (h : STab B w b x y) (s : Int) (hs : I64 s) : Calls Tryz.prog 65 #[.pointer (some ⟨b, 0, none⟩), .int .i64 s] w fun e w' =>
 e = .returned (.bool (thereB x s)) ∧ Below w.heap.size w w' := by
 have c0 := h.c0
 have c1 := h.c1
 have hbl := h.lt
 obtain ⟨ao, cap, hAe, hcap⟩ := own_slice h.okx.oA
 rw [hAe] at c0
 by_cases e0 : s = 0
 · subst e0
   clear h
   go_enter Tryz.func65, Tryz.ntmps65
   go_wp2
   go_ret
   exact ⟨rfl, Below.refl _ _⟩
 by_cases e1 : s = 1
 · subst e1
   clear h
   go_enter Tryz.func65, Tryz.ntmps65
   go_wp2
   go_ret
   exact ⟨rfl, Below.refl _ _⟩
 by_cases e2 : s < 2
 · have e0' : (s == 0) = false := by simpa using e0
   have e1' : (s == 1) = false := by simpa using e1
   have HR2 := Lib.hid (show thereB x s = false by unfold thereB; rw [e0', e1', decide_eq_false (by omega)]; rfl)
   clear h e0 e1
   go_enter Tryz.func65, Tryz.ntmps65
   go_wp2
   go_ret
   exact ⟨by rw [HR2.out]; rfl, Below.refl _ _⟩
 obtain ⟨i, rfl⟩ : ∃ i : Nat, s = i + 2 := ⟨(s - 2).toNat, by omega⟩
 have hw : IntKind.i64.wrap ((i : Int) + 2 - 2) = i := by rw [IntWalk.i64_in _ (by obtain ⟨_, _⟩ := hs; constructor <;> omega)]; omega
 have hw' : IntKind.i64.wrap (i : Int) = i := by rw [IntWalk.i64_in _ (by obtain ⟨_, _⟩ := hs; constructor <;> omega)]
 have e2' : ¬ (i : Int) + 2 < 2 := e2
 have e0' : ((i : Int) + 2 == 0) = false := by simpa using e0
 have e1' : ((i : Int) + 2 == 1) = false := by simpa using e1
 have hto : ((i : Int) + 2 - 2).toNat = i := by omega
 by_cases e3 : (x.fs.length : Int) ≤ i
 · have HR3 := Lib.hid (show thereB x ((i : Int) + 2) = false by unfold thereB; rw [e0', e1', hto, List.getElem?_eq_none (by omega)]; simp)
   clear h e0 e1 e2 hto
   go_enter Tryz.func65, Tryz.ntmps65
   go_wp2
   go_ret
   exact ⟨by rw [HR3.out]; rfl, Below.refl _ _⟩
 have hin : i < x.fs.length := by omega
 obtain ⟨f, hf⟩ : ∃ f, x.fs[i]? = some f := ⟨_, List.getElem?_eq_getElem hin⟩
 have hfn : f.nm.size ≤ maxLen := h.okx.sz f (List.mem_of_getElem? hf)
 have hA := h.okx.oA
 rw [hAe] at hA
 obtain ⟨g', rfl⟩ : ∃ g', ao = some ⟨g', 0, none⟩ := by
  rcases hA.2 with ⟨_, h⟩ | ⟨g', cap', cur, h1, _⟩
  · omega
  · simp at h1; exact ⟨g', h1.1⟩
 have cN : w.cell? ⟨g', i * 4, none⟩ = some (.string f.nm) := by
  rw [hA.cellAt (i * 4) (by omega)]
  have := flatF_get x.fs i f 0 hf (by omega)
  rw [Nat.add_zero] at this
  rw [this]; rfl
 have hgl' : g' < w.heap.size := (hA.lt g' rfl).2
 have HD := Lib.hid h.okx.oD
 have HR4 := Lib.hid (show thereB x ((i : Int) + 2) = (Maps.has x.D (kS f.nm) && (numOf x.D f.nm == (i : Int))) by
  unfold thereB; rw [e0', e1', hto, hf, decide_eq_true (by omega)]
  simp only [Bool.false_or, Bool.true_and]
  congr 2
  omega)
 have hin' : (i : Int) < x.fs.length := by omega
 clear hA hf hAe h e0 e1 e2 e3 hto
 go_enter Tryz.func65, Tryz.ntmps65
 go_wp2
 refine wp_region_below (by kernel_rfl) (by kernel_rfl) ?_
 iterate 14 (refine wq_val (by rfl) (fun w' hw' => by obtain ⟨hc, hf⟩ := bcell hw'; go_simp; try rfl) ?_; (intro K hK; go_simp; refine hK _ ?_; clear hK K))
 (refine wq_val (v := .tuple #[.int .i64 (numOf x.D f.nm), .bool (Maps.has x.D (kS f.nm))]) (by rfl) (fun w' hw' => by have hl := (look_num (ownsMap_ch HD.out (Ch.ofBelow (S := fun _ => False) hw') (fun h => h)) hfn).1; go_simp; try rfl) ?_; (intro K hK; go_simp; refine hK _ ?_; clear hK K))
 iterate 5 (refine wq_val (by rfl) (fun w' hw' => by obtain ⟨hc, hf⟩ := bcell hw'; go_simp; try rfl) ?_; (intro K hK; go_simp; refine hK _ ?_; clear hK K))
 refine wpQuiet_nil ?_; intro w2 hb2
 have HB2 := Lib.hid hb2
 clear c0 c1 cN hb2
 cases hh : Maps.has x.D (kS f.nm)
 · rw [hh] at HR4
   clear hh
   go_wp2
   go_ret
   exact ⟨by rw [HR4.out]; rfl, HB2.out⟩
 · rw [hh] at HR4
   clear hh
   go_wp2
   go_ret
   exact ⟨by rw [HR4.out]; rfl, HB2.out⟩
end Go.Proofs.YtendekbckfpmgaaGreat
namespace Go.Proofs.YtendekbckfpmgaaGreat
open Go.RowKit
theorem own_lower {w : World} {base base' : Nat} {e : TypeId} {size n : Nat} {v : Value} {xs : List Value} (h : w.ownsRow base e size v n xs) (hb : base' ≤ base) : w.ownsRow base' e size v n xs :=
 ⟨h.1, h.2.imp id (fun ⟨g, cap, cur, h1, h2, r⟩ => ⟨g, cap, cur, h1, Nat.le_trans hb h2, r⟩)⟩
set_option maxRecDepth 100000 in
theorem test_any {B : Nat} {w : World} {b : Nat} {x y : Nm} (h : STab B w b x y) (tb : Nat) (ht : w.cell? ⟨tb, 0, none⟩ = some (.pointer (some ⟨b, 0, none⟩))) (s : Int) (hs : I64 s) :
 Calls Tryz.prog 67 #[.int .i64 s, .pointer (some ⟨tb, 0, none⟩)] w fun e w' => e = .returned (.bool (!thereB x s)) ∧ Below w.heap.size w w' := by
 have HT := Lib.hid (there_any h s hs)
 clear h
 go_enter Tryz.func67, Tryz.ntmps67
 go_wp2_with fail
 refine HT.out.mono ?_; rintro e w1 ⟨rfl, hb⟩
 clear HT
 go_wp2
 go_ret
 exact ⟨rfl, hb⟩
def noneI (x : Nm) : List Int → Int → Int
 | [], _ => -1
 | z :: r, i => if thereB x z = false then i else noneI x r (i + 1)
theorem noneI_neg (x : Nm) : ∀ (l : List Int) (i : Int), 0 ≤ i → (0 ≤ noneI x l i ↔ ¬ ∀ z ∈ l, thereB x z = true)
 | [], i, _ => by simp [noneI]
 | z :: r, i, h => by
  cases e : thereB x z
  · simp [noneI, e, h]
  · have := noneI_neg x r (i + 1) (by omega)
    simp [noneI, e] at this ⊢
    exact this
set_option maxRecDepth 100000 in
theorem indexFunc_any {B B0 : Nat} {w : World} {b : Nat} {x y : Nm} (h : STab B w b x y) (tb : Nat) (ht : w.cell? ⟨tb, 0, none⟩ = some (.pointer (some ⟨b, 0, none⟩))) (htl : tb < w.heap.size)
 (v : Value) (l : List Int) (hv : w.ownsRow B0 43 1 v l.length (l.map (Value.int .i64))) (hl : l.length ≤ 500) (hI : ∀ z ∈ l, I64 z) :
 Calls Tryz.prog 106 #[v, .func (.func 67) #[] #[.pointer (some ⟨tb, 0, none⟩)]] w fun e w' => e = .returned (.int .i64 (noneI x l 0)) ∧ Below w.heap.size w w' := by
 obtain ⟨ao, cap, rfl, hcap⟩ := own_slice hv
 have HT := Lib.hid (show ∀ w', Below w.heap.size w w' → ∀ s, I64 s → Calls Tryz.prog 67 #[.int .i64 s, .pointer (some ⟨tb, 0, none⟩)] w' fun e w'' => e = .returned (.bool (!thereB x s)) ∧ Below w'.heap.size w' w'' from
  fun w' hb s hs => test_any (h.below hb) tb (((bcell hb).1 tb 0 htl).trans ht) s hs)
 have HV := Lib.hid hv
 have HI := Lib.hid hI
 clear h ht hv hI
 go_enter Tryz.func106, Tryz.ntmps106
 go_wp2
 go_loopw [8] (fun vi wr => ∃ k : Nat, vi = .int .i64 k ∧ k ≤ l.length ∧ Hid (Below w.heap.size w wr ∧ noneI x l 0 = noneI x (l.drop k) k)) (fun vi _ => l.length - (intOf vi).toNat)
 case atStart => exact ⟨0, rfl, by omega, Lib.hid ⟨Below.refl _ _, rfl⟩⟩
 case round =>
  obtain ⟨k, rfl, hk, hb0⟩ := hrel
  have hb := Lib.hid hb0.out.1
  have HNI := Lib.hid hb0.out.2
  clear hb0
  by_cases hkl : k < l.length
  · have hkl' : (k : Int) < l.length := by omega
    obtain ⟨g, rfl⟩ : ∃ g, ao = some ⟨g, 0, none⟩ := by
     rcases HV.out.2 with ⟨_, h⟩ | ⟨g, cap', cur, h1, _⟩
     · omega
     · simp at h1; exact ⟨g, h1.1⟩
    have hgl := (HV.out.lt g rfl).2
    have cN : wr.cell? ⟨g, k, none⟩ = some (.int .i64 l[k]) := by
     rw [(bcell hb.out).1 g k hgl, HV.out.cellAt k (by omega)]
     simp [hkl]
    have HZ := Lib.hid (HI.out l[k] (List.getElem_mem hkl))
    have HDR := Lib.hid (show l.drop k = l[k] :: l.drop (k + 1) from List.drop_eq_getElem_cons hkl)
    generalize l[k] = z at cN HZ HDR
    go_wp2_with fail
    refine (HT.out wr hb.out z HZ.out).mono ?_; rintro e w1 ⟨rfl, hb1⟩
    have HB1 := Lib.hid (hb.out.trans (hb1.mono hb.out.size))
    clear hb1 hb cN
    cases hz : thereB x z
    · have HX := Lib.hid (show noneI x l 0 = k by rw [HNI.out, HDR.out]; simp [noneI, hz])
      clear hz
      go_wp2
      go_ret
      exact ⟨by rw [HX.out]; rfl, HB1.out⟩
    · have HX := Lib.hid (And.intro HB1.out (show noneI x l 0 = noneI x (l.drop (k + 1)) ((k + 1 : Nat) : Int) by rw [HNI.out, HDR.out]; simp [noneI, hz]))
      clear hz
      go_wp2
      go_roundw
      case rel => exact ⟨k + 1, by go_num, by omega, HX⟩
      case measure => simp [intOf]; omega
  · have hkl' : ¬ (k : Int) < l.length := by omega
    have HX := Lib.hid (show noneI x l 0 = -1 by rw [HNI.out, List.drop_of_length_le (by omega)]; rfl)
    go_wp2
    go_ret
    exact ⟨by rw [HX.out]; rfl, hb.out⟩
set_option maxRecDepth 100000 in
theorem containsFunc_any {B B0 : Nat} {w : World} {b : Nat} {x y : Nm} (h : STab B w b x y) (tb : Nat) (ht : w.cell? ⟨tb, 0, none⟩ = some (.pointer (some ⟨b, 0, none⟩))) (htl : tb < w.heap.size)
 (v : Value) (l : List Int) (hv : w.ownsRow B0 43 1 v l.length (l.map (Value.int .i64))) (hl : l.length ≤ 500) (hI : ∀ z ∈ l, I64 z) :
 Calls Tryz.prog 66 #[v, .func (.func 67) #[] #[.pointer (some ⟨tb, 0, none⟩)]] w fun e w' => e = .returned (.bool (decide (0 ≤ noneI x l 0))) ∧ Below w.heap.size w w' := by
 have HX := Lib.hid (indexFunc_any h tb ht htl v l hv hl hI)
 clear h ht htl hv hl hI
 go_enter Tryz.func66, Tryz.ntmps66
 go_wp2_with fail
 refine HX.out.mono ?_; rintro e w1 ⟨rfl, hb⟩
 clear HX
 go_wp2
 go_ret
 exact ⟨rfl, hb⟩
theorem infoI : (Tryz.prog.info? 43).map (fun i => (i.zero, i.size, i.bytes)) = some (some (.int .i64 0), 1, 8) := by kernel_rfl
theorem nil_slice (w : World) : (binOp BinOp.eql 70 (.slice none 0 0) (.slice none 0 0)).run Tryz.prog w = .ok (.bool true) w := by kernel_rfl
theorem some_slice (g n c : Nat) (w : World) : (binOp BinOp.eql 70 (.slice (some ⟨g, 0, none⟩) n c) (.slice none 0 0)).run Tryz.prog w = .ok (.bool false) w := by kernel_rfl
set_option maxRecDepth 100000 in
theorem clone_any {B0 : Nat} {w : World} (v : Value) (l : List Int) (hv : w.ownsRow B0 43 1 v l.length (l.map (Value.int .i64))) (hl : l.length ≤ 500) :
 Calls Tryz.prog 68 #[v] w fun e w' => (∃ v', e = .returned v' ∧ w'.ownsRow w.heap.size 43 1 v' l.length (l.map (Value.int .i64))) ∧ Below w.heap.size w w' := by
 obtain ⟨i0, hi, hz0, hz1, hz2⟩ := info_parts infoI
 rcases hv.2 with ⟨rfl, hn⟩ | ⟨g, cap, cur, rfl, hg1, hg2, hg3, hg4, hg5, hg6⟩
 · have : l = [] := List.length_eq_zero_iff.1 hn
   subst this
   have hm := nil_slice
   go_enter Tryz.func68, Tryz.ntmps68
   go_wp2
   go_ret
   exact ⟨⟨_, rfl, World.ownsRow_nil _ _ _ _⟩, Below.refl _ _⟩
 · have hm := some_slice g l.length cap
   have hgl := lt_of_block hg2
   have h1 : ∀ u ∈ l.map (Value.int .i64), u.oneCell' = true := by
    intro u hu
    obtain ⟨z, _, rfl⟩ := List.mem_map.1 hu
    rfl
   have HV := Lib.hid (hv.alloc (.cells #[] 43))
   have HO := Lib.hid (World.ownsRow_made (base := w.heap.size) (e := 43) (size := 1) w #[] 0 (Nat.le_refl _) (by decide) rfl)
   have H1 := Lib.hid h1
   clear hv hg2 hg5 hg6 h1
   go_enter Tryz.func68, Tryz.ntmps68
   go_wp2_with (first | (at_builtin; refine wpList_append_own_at _ rfl _ _ 70 rfl w.heap.size 43 i0 (.int .i64 0) 1 8 Tryz.underlying70 hi hz0 hz1 hz2 rfl (by decide) (.slice (some ⟨w.heap.size, 0, none⟩) 0 0) 0 [] rfl HO.out ⟨g, 0, none⟩ l.length cap (l.map (Value.int .i64)) rfl (by simp) (HV.out.cells rfl) H1.out (by unfold maxLen; omega) (by omega) (by simp) ?_; intro v' w1 hown hgrow hnil hat) | fail)
   go_ret
   refine ⟨⟨_, rfl, ?_⟩, ?_⟩
   · rw [Nat.zero_add, List.nil_append] at hown; exact hown
   · exact ((Below.refl w.heap.size w).alloc (Nat.le_refl _) _).grown hgrow (by simp) (fun k e => by simp [Value.ownBlock] at e; omega)
set_option maxRecDepth 100000 in
theorem info_any {B : Nat} {w : World} {b : Nat} {x y : Nm} (h : STab B w b x y) (n : Nat) (f : Fd) (hf : y.fs[n]? = some f) (l : List Int) (hl : l.length ≤ 20) (hv : w.ownsRow B 43 1 f.ar l.length (l.map (Value.int .i64))) :
 Calls Tryz.prog 32 #[.pointer (some ⟨b, 0, none⟩), .int .i64 n] w fun e w' =>
  (∃ v', e = .returned (.tuple #[.agg #[.string f.nm, v', .int .i64 f.res, .bool f.df], .int .i64 0]) ∧ w'.ownsRow w.heap.size 43 1 v' l.length (l.map (Value.int .i64))) ∧ Below w.heap.size w w' := by
 have c3 := h.c3
 have hbl := h.lt
 obtain ⟨ao, cap, hAe, hcap⟩ := own_slice h.oky.oA
 have hA := h.oky.oA
 rw [hAe] at hA c3
 have hin : n < y.fs.length := (List.getElem?_eq_some_iff.1 hf).1
 obtain ⟨g', rfl⟩ : ∃ g', ao = some ⟨g', 0, none⟩ := by
  rcases hA.2 with ⟨_, h⟩ | ⟨g', cap', cur, h1, _⟩
  · omega
  · simp at h1; exact ⟨g', h1.1⟩
 have hc : ∀ j, j < 4 → w.cell? ⟨g', n * 4 + j, none⟩ = f.cells[j]? := fun j hj => by
  rw [hA.cellAt (n * 4 + j) (by omega), flatF_get y.fs n f j hf hj]
 have k0 := hc 0 (by omega); have k1 := hc 1 (by omega); have k2 := hc 2 (by omega); have k3 := hc 3 (by omega)
 simp only [Fd.cells, List.getElem?_cons_zero, List.getElem?_cons_succ, Nat.add_zero] at k0 k1 k2 k3
 have hgl' : g' < w.heap.size := (hA.lt g' rfl).2
 have HN := Lib.hid (show ∀ w', Below w.heap.size w w' → Calls Tryz.prog 60 #[.pointer (some ⟨b, 0, none⟩)] w' fun e w'' => e = .returned (.bool false) ∧ w'' = w' from fun w' hb => none_tab (h.below hb).toSTab0)
 have HV := Lib.hid hv
 have hin' : (n : Int) < y.fs.length := by omega
 obtain ⟨av, avn, hav⟩ : ∃ ao cap, f.ar = .slice ao l.length cap := by obtain ⟨ao, cap, e, _⟩ := own_slice hv; exact ⟨ao, cap, e⟩
 rw [hav] at k1 HV
 clear h hA hc hf hv
 go_enter Tryz.func32, Tryz.ntmps32
 go_wp2_with fail
 refine (HN.out _ (by (repeat (first | (with_reducible exact Below.refl _ _) | ((with_reducible refine Below.alloc ?_ ?_ _); rotate_left; focus (first | (simp; done) | (simp; omega))) | ((with_reducible refine Below.setCell ?_ ?_ _); rotate_left; focus (first | (simp; done) | (simp; omega))) | (with_reducible refine Below.drew ?_) | (with_reducible refine Below.drewN' ?_ _))))).mono ?_; rintro e w1 ⟨rfl, rfl⟩
 go_wp2_with fail
 refine (clone_any (B0 := B) _ l ((HV.out.alloc _).alloc _) (by omega)).mono ?_; rintro e w2 ⟨⟨v', rfl, ho⟩, hb2⟩
 obtain ⟨ao', cap', rfl, _⟩ := own_slice ho
 have ho' := own_lower ho (show w.heap.size ≤ _ by simp; omega)
 have HB := Lib.hid (show Below w.heap.size w w2 by (repeat (first | (with_reducible exact Below.refl _ _) | ((with_reducible refine Below.alloc ?_ ?_ _); rotate_left; focus (first | (simp; done) | (simp; omega) | (have q0 := hb2.size; (try simp at q0); (try simp); omega))) | ((with_reducible refine Below.setCell ?_ ?_ _); rotate_left; focus (first | (simp; done) | (simp; omega) | (have q0 := hb2.size; (try simp at q0); (try simp); omega))) | (with_reducible refine Below.drew ?_) | (with_reducible refine Below.drewN' ?_ _) | (with_reducible refine Below.trans ?_ (hb2.mono ?_); rotate_left; focus (first | (simp; done) | (simp; omega) | (have q0 := hb2.size; (try simp at q0); (try simp); omega))))))
 obtain ⟨hc2, hf2⟩ := bcell hb2
 have z0 := hc2 w.heap.size 0 (by simp; omega); have z1 := hc2 w.heap.size 1 (by simp; omega); have z2 := hc2 w.heap.size 2 (by simp; omega); have z3 := hc2 w.heap.size 3 (by simp; omega)
 have y0 := hf2 w.heap.size 0 (by simp; omega); have y1 := hf2 w.heap.size 1 (by simp; omega); have y2 := hf2 w.heap.size 2 (by simp; omega); have y3 := hf2 w.heap.size 3 (by simp; omega)
 have x0 := hc2 (w.heap.size + 1) 0 (by simp); have x1 := hc2 (w.heap.size + 1) 1 (by simp); have x2 := hc2 (w.heap.size + 1) 2 (by simp); have x3 := hc2 (w.heap.size + 1) 3 (by simp)
 have u1 := hf2 (w.heap.size + 1) 1 (by simp)
 simp at z0 z1 z2 z3 y0 y1 y2 y3 x0 x1 x2 x3 u1
 have HO := Lib.hid ho'
 have hsz := hb2.size
 simp at hsz
 have hne : ∀ k, (Value.slice ao' l.length cap').ownBlock = some k → w.heap.size + 2 ≤ k := fun k hk => by have := (ho.lt k hk).1; simpa using this
 have HNE := Lib.hid hne
 clear hc2 hf2 hb2 ho ho' HN HV k0 k1 k2 k3 c3 hne
 generalize hN : w.heap.size = N at *
 have HN := Lib.hid hN
 clear hN
 go_wp2
 have n0 : (Value.slice ao' l.length cap').ownBlock ≠ some N := fun e => by have := HNE.out _ e; omega
 have n1 : (Value.slice ao' l.length cap').ownBlock ≠ some (N + 1) := fun e => by have := HNE.out _ e; omega
 refine bodyPost_ret (v := .tuple #[.agg #[.string f.nm, .slice ao' l.length cap', .int .i64 f.res, .bool f.df], .int .i64 0]) (by simp [results, Tryz.results32, go_sem, z0, z1, z2, z3]) rfl ⟨⟨_, rfl, ?_⟩, ?_⟩
 · rw [HN.out]
   exact ownsRow_setCell_other (ownsRow_setCell_other (ownsRow_setCell_other (ownsRow_setCell_other (ownsRow_setCell_other HO.out (a := ⟨N + 1, 1, none⟩) n1 _) (a := ⟨N, 0, none⟩) n0 _) (a := ⟨N, 1, none⟩) n0 _) (a := ⟨N, 2, none⟩) n0 _) (a := ⟨N, 3, none⟩) n0 _
 · rw [HN.out]
   exact ((((HB.out.setCell (p := ⟨N + 1, 1, none⟩) (by simp) _).setCell (p := ⟨N, 0, none⟩) (by simp) _).setCell (p := ⟨N, 1, none⟩) (by simp) _).setCell (p := ⟨N, 2, none⟩) (by simp) _).setCell (p := ⟨N, 3, none⟩) (by simp) _
end Go.Proofs.YtendekbckfpmgaaGreat
namespace Go.Proofs.YtendekbckfpmgaaGreat
open Go
section
variable {P : Program}
structure FlowInv4 (ops : Array Oper) (n : Nat) (Z : Nat → World → Value → Prop) (C : Array Bool → World → Prop) (a0 : Act) (s : Array Bool) (a : Act) (w : World) : Prop where
 world : C s w
 defers : a.defers = a0.defers
 size : a.tmps.size = a0.tmps.size
 done : ∀ i o d, i < n → ops[i]? = some o → o.dst = some d → s.getD i false = true → Z i w (a.tmps.getD d undef)
 rest : ∀ d, (∀ i o, i < n → ops[i]? = some o → s.getD i false = true → o.dst ≠ some d) → a.tmps.getD d undef = a0.tmps.getD d undef
def StepAt4 (P : Program) (ops : Array Oper) (n : Nat) (Z : Nat → World → Value → Prop) (C : Array Bool → World → Prop) (a0 : Act) (i : Nat) (o : Oper) : Prop :=
 ∀ s a w, s.getD i true = false → C s w → (∀ e, e ∈ o.after → Region.binds .any e = true → ∀ oj d, ops[e.on]? = some oj → oj.dst = some d → Z e.on w (a.tmps.getD d undef)) →
  (∀ d, (∀ j oj, j < n → ops[j]? = some oj → oj.dst ≠ some d) → a.tmps.getD d undef = a0.tmps.getD d undef) →
  if Region.wanted o (yielded ops a.tmps) = true then Oper.flowA P o a w (fun v w' => Z i w' v ∧ C (s.setIfInBounds i true) w' ∧ ∀ j u, j ≠ i → Z j w u → Z j w' u) else Z i w undef ∧ C (s.setIfInBounds i true) w
theorem flow_head4 {ops : Array Oper} {n : Nat} {Z : Nat → World → Value → Prop} {C : Array Bool → World → Prop} {a0 : Act} {Q : Exit → Act → World → Prop} (hB : flowB ops n = true)
 (hsz : ∀ i o d, i < n → ops[i]? = some o → o.dst = some d → d < a0.tmps.size)
 (hstep : ∀ i o, i < n → ops[i]? = some o → StepAt4 P ops n Z C a0 i o)
 (htail : ∀ (vs : Nat → Value) w, C (doneS ops.size n) w → (∀ i o d, i < n → ops[i]? = some o → o.dst = some d → Z i w (vs i)) → wpList P ops Q (ops.toList.drop n) (putAll (ops.toList.take n) vs 0 a0) w) :
 ∀ (f : Nat) (s : Array Bool) (a : Act) (w : World), unh s n = f → HeadInv .any ops n s → FlowInv4 ops n Z C a0 s a w → wpAny P .any ops Q (f + (ops.size - n)) s a w := by
 simp only [flowB, Bool.and_eq_true, decide_eq_true_eq] at hB
 obtain ⟨⟨⟨⟨⟨hn, hsink⟩, hchain⟩, hlow⟩, hsole⟩, hseq⟩ := hB
 intro f
 induction f with
 | zero =>
  intro s a w hf inv I
  have hall := unh_zero hf
  have es : s = doneS ops.size n := by
   apply Array.ext (by simp [doneS, inv.size])
   intro i h1 h2
   have hi : i < ops.size := by rw [← inv.size]; exact h1
   have e2 : (doneS ops.size n)[i] = decide (i < n) := by simp [doneS]
   rw [e2]
   by_cases hin : i < n
   · have := hall i hin
     simp [h1] at this
     simp [this, hin]
   · have := inv.tail i (by omega) hi
     simp [h1] at this
     simp [this, hin]
  have ha : putAll (ops.toList.take n) (fun i => a.tmps.getD (((ops[i]?).bind (·.dst)).getD 0) undef) 0 a0 = a := by
   refine putAll_eq ops n hsole a0 a hsz I.defers I.size _ (fun i o d hi ho hd => by simp only [ho, Option.bind_some, hd, Option.getD_some]) (fun d hd => I.rest d (fun i o hi ho _ => hd i o hi ho)) _ 0 a0 (fun j => by rw [Nat.zero_add]) (by simp) rfl rfl (fun i o d h => by omega) (fun d _ => rfl)
  have ht := htail (fun i => a.tmps.getD (((ops[i]?).bind (·.dst)).getD 0) undef) w (es ▸ I.world) (fun i o d hi ho hd => by
   simp only [ho, Option.bind_some, hd, Option.getD_some]
   exact I.done i o d hi ho hd (hall i hi))
  rw [ha] at ht
  rw [Nat.zero_add, es]
  have hdl : (ops.toList.drop n).length = ops.size - n := by simp
  have := wpAny_of_seq (md := .any) (Q' := Q) (ops.toList.drop n) n (doneS ops.size n) a w (fun j => by simp [List.getElem?_drop]) (by rw [hdl]; exact hseq) ht
  rwa [hdl] at this
 | succ f ih =>
  intro s a w hf inv I
  obtain ⟨i0, hi0, hf0, hb0⟩ := unh_pos (n := n) (s := s) (by omega)
  have hr0 : i0 ∈ Region.ready .any ops s := by
   obtain ⟨o, ho⟩ : ∃ o, ops[i0]? = some o := ⟨_, Array.getElem?_eq_getElem (by omega)⟩
   refine mem_ready.2 ⟨getD_in (by rw [inv.size]; omega) hf0, o, ho, fun e he hbd => hb0 _ ?_⟩
   have h1 := List.all_eq_true.1 hlow i0 (List.mem_range.2 hi0)
   simp only [ho] at h1
   have h2 := Array.all_eq_true_iff_forall_mem.1 h1 e he
   simp only [hbd, Bool.not_true, Bool.false_or, decide_eq_true_eq] at h2
   exact h2
  rw [show f + 1 + (ops.size - n) = (f + (ops.size - n)) + 1 by omega]
  refine ⟨fun h0 => (by rw [h0] at hr0; cases hr0), fun i hi => ?_⟩
  have hin : i < n := head_lt hsink hchain hn inv hr0 hi0 hi
  obtain ⟨hun, o, ho, hdeps⟩ := mem_ready.1 hi
  have hst := hstep i o hin ho s a w hun I.world (fun e he hbd oj d hoj hd => I.done _ oj d (by
   have h1 := List.all_eq_true.1 hlow i (List.mem_range.2 hin)
   simp only [ho] at h1
   have h2 := Array.all_eq_true_iff_forall_mem.1 h1 e he
   simp only [hbd, Bool.not_true, Bool.false_or, decide_eq_true_eq] at h2
   omega) hoj hd (hdeps e he hbd)) (fun d hd => I.rest d (fun j oj hj hoj _ => hd j oj hj hoj))
  have hunh := unh_set hun hin
  have inv' := inv.set hi hin
  have next : ∀ v w', Z i w' v → C (s.setIfInBounds i true) w' → (∀ j u, j ≠ i → Z j w u → Z j w' u) → FlowInv4 ops n Z C a0 (s.setIfInBounds i true) (a.put o.dst v) w' := by
   intro v w' hZ hC hmon
   refine ⟨hC, by rw [put_defers, I.defers], by rw [put_size, I.size], ?_, ?_⟩
   · intro j oj d hj hoj hd hl
     by_cases e : i = j
     · subst e
       have : oj = o := Option.some.inj (hoj.symm.trans ho)
       subst this
       rw [hd, put_same (by rw [I.size]; exact hsz i oj d hin hoj hd)]
       exact hZ
     · rw [getD_set_ne false e] at hl
       rw [put_other (fun h => e (soleB_spec hsole hin hj ho hoj h hd))]
       exact hmon j _ (Ne.symm e) (I.done j oj d hj hoj hd hl)
   · intro d hd
     have h1 : o.dst ≠ some d := hd i o hin ho (by
      have : i < s.size := by rw [inv.size]; omega
      simp [this])
     rw [put_other h1]
     exact I.rest d (fun j oj hj hoj hl => hd j oj hj hoj (by
      by_cases e : i = j
      · subst e; rw [getD_both hun] at hl; cases hl
      · rw [getD_set_ne false e]; exact hl))
  unfold wpOp
  simp only [ho]
  by_cases hw : Region.wanted o (yielded ops a.tmps) = true
  · rw [if_pos hw] at hst ⊢
    exact .inl (Oper.wp_of_flowA hst fun v w' ⟨h1, h2, h3⟩ => ih _ _ _ (by omega) inv' (next v w' h1 h2 h3))
  · rw [if_neg hw] at hst ⊢
    exact ih _ _ _ (by omega) inv' (next undef w hst.1 hst.2 (fun _ _ _ h => h))
theorem wp_region_flow4 {id : Nat} {Q : Exit → Act → World → Prop} {a0 : Act} {w : World} {l : List Oper} (n : Nat) (hm : P.follows .mixedOrders = true) (hB : flowB l.toArray n = true)
 (hsz : ∀ i o d, i < n → l[i]? = some o → o.dst = some d → d < a0.tmps.size) (Z : Nat → World → Value → Prop) (C : Array Bool → World → Prop) (hC : C (Array.replicate l.toArray.size false) { w with drawn := w.drawn + 1 })
 (hstep : ∀ i o, i < n → l[i]? = some o → StepAt4 P l.toArray n Z C a0 i o)
 (htail : ∀ (vs : Nat → Value) w, C (doneS l.toArray.size n) w → (∀ i o d, i < n → l[i]? = some o → o.dst = some d → Z i w (vs i)) → wpList P l.toArray Q (l.drop n) (putAll (l.take n) vs 0 a0) w) : (Code.region id l.toArray true).wp P Q a0 w := by
 refine wp_region_any hm ?_
 have hn : n < l.length := by simp only [flowB, Bool.and_eq_true, decide_eq_true_eq] at hB; simpa using hB.1.1.1.1.1
 have hu : unh (Array.replicate l.toArray.size false) n = n := by
  unfold unh
  rw [List.countP_eq_length.2 (fun i _ => by rw [getD_replicate_false]; rfl)]
  simp
 have := flow_head4 (P := P) (Q := Q) (Z := Z) (C := C) (a0 := a0) hB (fun i o d hi ho => hsz i o d hi (by simpa using ho)) (fun i o hi ho => hstep i o hi (by simpa using ho)) (fun vs w hC hZ => by
  have := htail vs w hC (fun i o d hi ho => hZ i o d hi (by simpa using ho))
  simpa using this) n (Array.replicate l.toArray.size false) a0 { w with drawn := w.drawn + 1 } hu
  ⟨by simp, fun j oj _ hl => (by rw [getD_replicate_false] at hl; cases hl), fun t _ ht => getD_in (by simpa using ht) (getD_replicate_false _ _)⟩
  ⟨hC, rfl, rfl, fun i o d _ _ _ hl => (by rw [getD_replicate_false] at hl; cases hl), fun _ _ => rfl⟩
 rwa [show n + (l.toArray.size - n) = l.toArray.size by simp; omega] at this
end
end Go.Proofs.YtendekbckfpmgaaGreat
namespace Go.Proofs.YtendekbckfpmgaaGreat
open Go.RowKit
def Nm.add (x : Nm) (f : Fd) (A' : Value) : Nm := { x with A := A', fs := x.fs ++ [f], D := x.D.put (kS f.nm) (.lit (.int .i64 x.fs.length)) }
theorem NmOk.add {B : Nat} {w w' : World} {x : Nm} {f : Fd} {A' : Value} {l : List Int} (h : NmOk B w x) (hn : x.fs.length < 2000) (hA : w'.ownsRow B 72 4 A' (x.fs.length + 1) (flatF x.fs ++ f.cells))
 (hD : ownsD w' x.m (x.fs.length + 1) (x.D.put (kS f.nm) (.lit (.int .i64 x.fs.length)))) (hM : w'.ownsRow B 3 1 x.M x.ms.length (x.ms.map (Value.int .i64))) (hf : f.nm.size ≤ maxLen)
 (har : ∀ g ∈ x.fs, ∃ l : List Int, l.length ≤ 20 ∧ w'.ownsRow B 43 1 g.ar l.length (l.map (Value.int .i64))) (hl : l.length ≤ 20) (hv : w'.ownsRow B 43 1 f.ar l.length (l.map (Value.int .i64))) : NmOk B w' (x.add f A') := by
 have e : (x.add f A').fs.length = x.fs.length + 1 := by simp [Nm.add]
 refine ⟨?_, hM, ?_, by rw [e]; omega, h.nm, fun z hz => ?_, ?_, h.gm, ?_⟩
 · rw [e]; show w'.ownsRow B _ 4 A' _ (flatF (x.fs ++ [f])); rw [flatF_snoc]; exact hA
 · rw [e]; exact hD
 · rw [e]; have := h.mks z hz; omega
 · intro g hg
   rcases List.mem_append.1 hg with h1 | h1
   · exact h.sz g h1
   · rw [List.mem_singleton.1 h1]; exact hf
 · intro g hg
   rcases List.mem_append.1 hg with h1 | h1
   · exact har g h1
   · rw [List.mem_singleton.1 h1]; exact ⟨l, hl, hv⟩
theorem STab.addx {B : Nat} {w w' : World} {b : Nat} {x y : Nm} {f : Fd} {A' : Value} {l : List Int} (h : STab B w b x y) (hn : x.fs.length < 2000) (hrow : RowB w' b 142 ((rowOf x y).set 0 A'))
 (hA : w'.ownsRow B 72 4 A' (x.fs.length + 1) (flatF x.fs ++ f.cells)) (hD : ownsD w' x.m (x.fs.length + 1) (x.D.put (kS f.nm) (.lit (.int .i64 x.fs.length))))
 (hat : A'.ownBlock = x.A.ownBlock ∨ ∃ g, A'.ownBlock = some g ∧ w.heap.size ≤ g) (hc : Ch (fun k => k = b ∨ x.A.ownBlock = some k ∨ k = x.m) w w') (hf : f.nm.size ≤ maxLen)
 (hl : l.length ≤ 20) (hv : w.ownsRow B 43 1 f.ar l.length (l.map (Value.int .i64))) : STab B w' b (x.add f A') y ∧ Below B w w' ∧ w'.ownsRow B 43 1 f.ar l.length (l.map (Value.int .i64)) := by
 have hc' : Ch (Own b x) w w' := hc.mono (fun k _ e => by rcases e with e | e | e; exact Or.inl e; exact Or.inr (Or.inl e); exact Or.inr (Or.inr (Or.inl e)))
 have hM : w'.ownsRow B 3 1 x.M x.ms.length (x.ms.map (Value.int .i64)) := ownsRow_ch h.okx.oM hc (fun k hk hs => by
  rcases hs with rfl | e | rfl
  · exact own_ne_row h.okx.oM h.row (by decide) hk
  · exact own_ne h.okx.oM h.okx.oA (by decide) hk e
  · exact own_ne_map h.okx.oM h.okx.oD hk)
 have hargs : ∀ (v : Value) (l : List Int), w.ownsRow B 43 1 v l.length (l.map (Value.int .i64)) → w'.ownsRow B 43 1 v l.length (l.map (Value.int .i64)) := fun v l hv =>
  ownsRow_ch hv hc' ((own_args h.toSTab0).1 v (l.map (Value.int .i64)) (by simpa using hv))
 refine ⟨⟨⟨hrow, h.gb, NmOk.add h.okx hn hA hD hM hf (fun g hg => ?_) hl (hargs _ _ hv), h.yx hc', ?_, h.nM, h.nD⟩, h.ln⟩, h.lowx hc', hargs _ _ hv⟩
 · obtain ⟨l, h1, h2⟩ := h.okx.ar g hg
   exact ⟨l, h1, hargs _ _ h2⟩
 · intro k hk hk'
   rcases hat with e | ⟨g, e, e2⟩
   · exact h.nA k (by rw [← e]; exact hk) hk'
   · have e3 : A'.ownBlock = some k := hk
     rw [e] at e3
     have : g = k := by simpa using e3
     have := (h.oky.oA.lt k hk').2
     omega
theorem STab.addy {B : Nat} {w w' : World} {b : Nat} {x y : Nm} {f : Fd} {A' : Value} {l : List Int} (h : STab B w b x y) (hn : y.fs.length < 2000) (hrow : RowB w' b 142 ((rowOf x y).set 3 A'))
 (hA : w'.ownsRow B 72 4 A' (y.fs.length + 1) (flatF y.fs ++ f.cells)) (hD : ownsD w' y.m (y.fs.length + 1) (y.D.put (kS f.nm) (.lit (.int .i64 y.fs.length))))
 (hat : A'.ownBlock = y.A.ownBlock ∨ ∃ g, A'.ownBlock = some g ∧ w.heap.size ≤ g) (hc : Ch (fun k => k = b ∨ y.A.ownBlock = some k ∨ k = y.m) w w') (hf : f.nm.size ≤ maxLen)
 (hl : l.length ≤ 20) (hv : w.ownsRow B 43 1 f.ar l.length (l.map (Value.int .i64))) : STab B w' b x (y.add f A') ∧ Below B w w' ∧ w'.ownsRow B 43 1 f.ar l.length (l.map (Value.int .i64)) := by
 have hc' : Ch (Own b y) w w' := hc.mono (fun k _ e => by rcases e with e | e | e; exact Or.inl e; exact Or.inr (Or.inl e); exact Or.inr (Or.inr (Or.inl e)))
 have hM : w'.ownsRow B 3 1 y.M y.ms.length (y.ms.map (Value.int .i64)) := ownsRow_ch h.oky.oM hc (fun k hk hs => by
  rcases hs with rfl | e | rfl
  · exact own_ne_row h.oky.oM h.row (by decide) hk
  · exact own_ne h.oky.oM h.oky.oA (by decide) hk e
  · exact own_ne_map h.oky.oM h.oky.oD hk)
 have hargs : ∀ (v : Value) (l : List Int), w.ownsRow B 43 1 v l.length (l.map (Value.int .i64)) → w'.ownsRow B 43 1 v l.length (l.map (Value.int .i64)) := fun v l hv =>
  ownsRow_ch hv hc' ((own_args h.toSTab0).2 v (l.map (Value.int .i64)) (by simpa using hv))
 refine ⟨⟨⟨hrow, h.gb, h.xy hc', NmOk.add h.oky hn hA hD hM hf (fun g hg => ?_) hl (hargs _ _ hv), ?_, h.nM, h.nD⟩, h.ln⟩, h.lowy hc', hargs _ _ hv⟩
 · obtain ⟨l, h1, h2⟩ := h.oky.ar g hg
   exact ⟨l, h1, hargs _ _ h2⟩
 · intro k hk hk'
   rcases hat with e | ⟨g, e, e2⟩
   · exact h.nA k hk (by rw [← e]; exact hk')
   · have e3 : A'.ownBlock = some k := hk'
     rw [e] at e3
     have : g = k := by simpa using e3
     have := (h.okx.oA.lt k hk).2
     omega
theorem addx_any {B : Nat} {w : World} {b : Nat} {x y : Nm} (h : STab B w b x y) (f : Fd) (hnm : f.nm.size ≤ maxLen) (l : List Int) (hl : l.length ≤ 20) (hv : w.ownsRow B 43 1 f.ar l.length (l.map (Value.int .i64))) :
 Calls Tryz.prog 62 #[.pointer (some ⟨b, 0, none⟩), .agg f.cells.toArray] w fun e w' =>
  (addE x.D f.nm x.fs.length ≠ 0 ∧ e = .returned (.tuple #[.int .i64 0, .int .i64 (addE x.D f.nm x.fs.length)]) ∧ STab B w' b x y ∧ Below B w w' ∧ Ch (fun k => k = b ∨ x.A.ownBlock = some k ∨ k = x.m) w w') ∨
  (∃ A', addE x.D f.nm x.fs.length = 0 ∧ e = .returned (.tuple #[.int .i64 x.fs.length, .int .i64 0]) ∧ Maps.has x.D (kS f.nm) = false ∧ STab B w' b (x.add f A') y ∧ Below B w w' ∧ w'.ownsRow B 43 1 f.ar l.length (l.map (Value.int .i64)) ∧ Ch (fun k => k = b ∨ x.A.ownBlock = some k ∨ k = x.m) w w') := by
 obtain ⟨ao, cap, hao, _⟩ := own_slice hv
 refine (add_any b 0 B x.m x.fs.length (rowOf x y) x.A (flatF x.fs) x.D f w h.row rfl rfl h.okx.oA h.okx.oD h.B_le h.okx.nf hnm (by rw [hao]; rfl)).mono fun e w' hw => ?_
 rcases hw with ⟨h1, h2, h3⟩ | ⟨A', h1, h2, h3, h4, h5, h6, h7, h8, h9⟩
 · have hb : Below w.heap.size w w' := h3.below (Nat.le_refl _) (fun _ e => e.elim)
   exact Or.inl ⟨h1, h2, h.below hb, hb.mono h.B_le, Ch.ofBelow hb⟩
 · obtain ⟨t1, t2, t3⟩ := h.addx h4 h5 h6 h7 h8 h9 hnm hl hv
   exact Or.inr ⟨A', h1, h2, h3, t1, t2, t3, h9⟩
theorem addy_any {B : Nat} {w : World} {b : Nat} {x y : Nm} (h : STab B w b x y) (f : Fd) (hnm : f.nm.size ≤ maxLen) (l : List Int) (hl : l.length ≤ 20) (hv : w.ownsRow B 43 1 f.ar l.length (l.map (Value.int .i64))) :
 Calls Tryz.prog 62 #[.pointer (some ⟨b, 3, none⟩), .agg f.cells.toArray] w fun e w' =>
  (addE y.D f.nm y.fs.length ≠ 0 ∧ e = .returned (.tuple #[.int .i64 0, .int .i64 (addE y.D f.nm y.fs.length)]) ∧ STab B w' b x y ∧ Below B w w' ∧ Ch (fun k => k = b ∨ y.A.ownBlock = some k ∨ k = y.m) w w') ∨
  (∃ A', addE y.D f.nm y.fs.length = 0 ∧ e = .returned (.tuple #[.int .i64 y.fs.length, .int .i64 0]) ∧ Maps.has y.D (kS f.nm) = false ∧ STab B w' b x (y.add f A') ∧ Below B w w' ∧ w'.ownsRow B 43 1 f.ar l.length (l.map (Value.int .i64)) ∧ Ch (fun k => k = b ∨ y.A.ownBlock = some k ∨ k = y.m) w w') := by
 obtain ⟨ao, cap, hao, _⟩ := own_slice hv
 refine (add_any b 3 B y.m y.fs.length (rowOf x y) y.A (flatF y.fs) y.D f w h.row rfl rfl h.oky.oA h.oky.oD h.B_le h.oky.nf hnm (by rw [hao]; rfl)).mono fun e w' hw => ?_
 rcases hw with ⟨h1, h2, h3⟩ | ⟨A', h1, h2, h3, h4, h5, h6, h7, h8, h9⟩
 · have hb : Below w.heap.size w w' := h3.below (Nat.le_refl _) (fun _ e => e.elim)
   exact Or.inl ⟨h1, h2, h.below hb, hb.mono h.B_le, Ch.ofBelow hb⟩
 · obtain ⟨t1, t2, t3⟩ := h.addy h4 h5 h6 h7 h8 h9 hnm hl hv
   exact Or.inr ⟨A', h1, h2, h3, t1, t2, t3, h9⟩
theorem mayB_not {name : ByteArray} {ws : List ByteArray} (h : mayB name ws = true) : name ∉ ws := by
 unfold mayB at h
 simp only [Bool.and_eq_true, Bool.not_eq_true', decide_eq_false_iff_not] at h
 intro hm
 exact h.2 ((idx_neg name (ws ++ words13) 0 (Int.le_refl 0)).2 (List.mem_append_left _ hm))
def OkS (x : Nm) (nm : ByteArray) : Prop := mayB nm [sBool, sInt] = true ∧ addE x.D nm x.fs.length = 0
def DeclS (B : Nat) (w : World) (b : Nat) (x y : Nm) (name : ByteArray) (e : Ending) (w' : World) : Prop :=
 (∃ (v er : Int), (er ≠ 0 ∧ ¬ OkS x name) ∧ e = .returned (.tuple #[.int .i64 v, .int .i64 er]) ∧ STab B w' b x y ∧ Below B w w' ∧ Chg b x y w w') ∨
 (∃ A', e = .returned (.tuple #[.int .i64 (x.fs.length + 2 : Int), .int .i64 0]) ∧ name ≠ sBool ∧ name ≠ sInt ∧ (Maps.has x.D (kS name) = false ∧ OkS x name) ∧ STab B w' b (x.add ⟨name, .slice none 0 0, 0, false⟩ A') y ∧ Below B w w' ∧ Chg b x y w w')
set_option maxRecDepth 100000 in
set_option maxHeartbeats 1000000 in
theorem declareSort_any {B : Nat} {w : World} {b : Nat} {x y : Nm} (h : STab B w b x y) (name : ByteArray) (hs : name.size ≤ maxLen) :
 Calls Tryz.prog 22 #[.pointer (some ⟨b, 0, none⟩), .string name] w (DeclS B w b x y name) := by
 have HN := Lib.hid (none_tab h.toSTab0)
 have HT := Lib.hid h
 clear h
 go_enter Tryz.func22, Tryz.ntmps22
 go_wp2_with fail
 refine HN.out.mono ?_; rintro e w1 ⟨rfl, rfl⟩
 clear HN
 go_wp2_with fail
 refine (may_any name [sBool, sInt] _ w1.heap.size _ (by simp) (World.ownsRow_lit w1 _ 2 (Nat.le_refl _) (by decide) rfl) (by decide)).mono ?_; rintro e w2 ⟨rfl, hb2⟩
 have HB2 := Lib.hid (show Below w1.heap.size w1 w2 by (repeat (first | (with_reducible exact Below.refl _ _) | ((with_reducible refine Below.alloc ?_ ?_ _); rotate_left; focus (first | (simp; done) | (simp; omega) | (have q0 := hb2.size; (try simp at q0); (try simp); omega))) | ((with_reducible refine Below.setCell ?_ ?_ _); rotate_left; focus (first | (simp; done) | (simp; omega) | (have q0 := hb2.size; (try simp at q0); (try simp); omega))) | (with_reducible refine Below.drew ?_) | (with_reducible refine Below.drewN' ?_ _) | (with_reducible refine Below.trans ?_ (hb2.mono ?_); rotate_left; focus (first | (simp; done) | (simp; omega) | (have q0 := hb2.size; (try simp at q0); (try simp); omega))))))
 clear hb2
 have HT2 := Lib.hid (HT.out.below HB2.out)
 cases hm : mayB name [sBool, sInt]
 case false =>
  have HM := Lib.hid (show ¬ OkS x name from fun q => by rw [OkS, hm] at q; cases q.1)
  clear hm
  go_wp2_with fail
  go_ret2
  exact Or.inl ⟨_, 50, ⟨by decide, HM.out⟩, rfl, HT2.out, HB2.out.mono HT.out.B_le, Chg.ofB HB2.out⟩
 case true =>
  have hnb := mayB_not hm
  have HNB := Lib.hid (show name ≠ sBool ∧ name ≠ sInt from ⟨fun e => hnb (by simp [e]), fun e => hnb (by simp [e])⟩)
  clear hnb
  have HM := Lib.hid hm
  clear hm
  go_wp2_with fail
  refine (addx_any HT2.out ⟨name, .slice none 0 0, 0, false⟩ hs [] (by simp) (World.ownsRow_nil _ _ _ _)).mono ?_
  rintro e w3 (⟨h1, rfl, h3, h4, h6⟩ | ⟨A', h1, rfl, h3, h4, h5, _, h6⟩)
  · have HX := Lib.hid (And.intro h3 (And.intro ((HB2.out.mono HT.out.B_le).trans h4) (Ch.trans (Chg.ofB (x := x) (y := y) (b := b) HB2.out) (Chg.ofx (own3 h6)))))
    have hne : (addE x.D name x.fs.length != 0) = true := by simpa using h1
    have HE := Lib.hid (show addE x.D name x.fs.length ≠ 0 ∧ ¬ OkS x name from ⟨h1, fun q => h1 q.2⟩)
    clear h3 h4 h1 h6
    generalize addE x.D name x.fs.length = er at *
    go_wp2_with fail
    go_ret2
    exact Or.inl ⟨_, er, HE.out, rfl, HX.out.1, HX.out.2.1, HX.out.2.2⟩
  · have HX := Lib.hid (And.intro h3 (And.intro h4 (And.intro ((HB2.out.mono HT.out.B_le).trans h5) (Ch.trans (Chg.ofB (x := x) (y := y) (b := b) HB2.out) (Chg.ofx (own3 h6))))))
    have hle : x.fs.length ≤ 2000 := HT.out.okx.nf
    have HOK := Lib.hid (show OkS x name from ⟨HM.out, h1⟩)
    clear h3 h4 h5 h1 h6
    go_wp2_with fail
    go_ret2
    refine Or.inr ⟨A', ?_, HNB.out.1, HNB.out.2, ⟨HX.out.1, HOK.out⟩, HX.out.2.1, HX.out.2.2.1, HX.out.2.2.2⟩
    simp
end Go.Proofs.YtendekbckfpmgaaGreat
namespace Go.Proofs.YtendekbckfpmgaaGreat
open Go.RowKit
def words17 : List ByteArray := [⟨#[116, 114, 117, 101]⟩, ⟨#[102, 97, 108, 115, 101]⟩, ⟨#[110, 111, 116]⟩, ⟨#[97, 110, 100]⟩, ⟨#[111, 114]⟩, ⟨#[120, 111, 114]⟩, ⟨#[61, 62]⟩, ⟨#[105, 116, 101]⟩, ⟨#[61]⟩, ⟨#[100, 105, 115, 116, 105, 110, 99, 116]⟩, ⟨#[43]⟩, ⟨#[45]⟩, ⟨#[42]⟩, ⟨#[60, 61]⟩, ⟨#[60]⟩, ⟨#[62, 61]⟩, ⟨#[62]⟩]
def OkF (x y : Nm) (nm : ByteArray) (res : Int) (l : List Int) : Prop := mayB nm words17 = true ∧ l.length ≤ 20 ∧ thereB x res = true ∧ (∀ z ∈ l, thereB x z = true) ∧ addE y.D nm y.fs.length = 0
def DeclF (B : Nat) (w : World) (b : Nat) (x y : Nm) (f : Fd) (l : List Int) (e : Ending) (w' : World) : Prop :=
 (∃ (v er : Int), (er ≠ 0 ∧ ¬ OkF x y f.nm f.res l) ∧ e = .returned (.tuple #[.int .i64 v, .int .i64 er]) ∧ STab B w' b x y ∧ Below B w w' ∧ Chg b x y w w') ∨
 (∃ A' ar', e = .returned (.tuple #[.int .i64 y.fs.length, .int .i64 0]) ∧ l.length ≤ 20 ∧ (Maps.has y.D (kS f.nm) = false ∧ OkF x y f.nm f.res l) ∧ w'.ownsRow B 43 1 ar' l.length (l.map (Value.int .i64)) ∧ STab B w' b x (y.add ⟨f.nm, ar', f.res, f.df⟩ A') ∧ Below B w w' ∧ Chg b x y w w')
def StF (w : World) (b : Nat) (f : Fd) (w' : World) : Prop := Below w.heap.size w w' ∧ RowB w' w.heap.size 30 [.pointer (some ⟨b, 0, none⟩)] ∧ RowB w' (w.heap.size + 1) 72 f.cells
theorem StF.below {w w' w'' : World} {b : Nat} {f : Fd} (h : StF w b f w') (hb : Below w'.heap.size w' w'') : StF w b f w'' :=
 ⟨h.1.trans (hb.mono h.1.size), h.2.1.kept (S := fun _ => False) (Ch.ofBelow hb) (fun e => e), h.2.2.kept (S := fun _ => False) (Ch.ofBelow hb) (fun e => e)⟩
theorem StF.cells {w w' : World} {b : Nat} {f : Fd} (h : StF w b f w') : w'.cell? ⟨w.heap.size, 0, none⟩ = some (.pointer (some ⟨b, 0, none⟩)) ∧ w'.cell? ⟨w.heap.size + 1, 0, none⟩ = some (.string f.nm) ∧ w'.cell? ⟨w.heap.size + 1, 1, none⟩ = some f.ar ∧
 w'.cell? ⟨w.heap.size + 1, 2, none⟩ = some (.int .i64 f.res) ∧ w'.cell? ⟨w.heap.size + 1, 3, none⟩ = some (.bool f.df) ∧ w'.frozen? ⟨w.heap.size + 1, 1, none⟩ = false ∧ w.heap.size + 1 < w'.heap.size :=
 ⟨h.2.1.cell 0, h.2.2.cell 0, h.2.2.cell 1, h.2.2.cell 2, h.2.2.cell 3, h.2.2.free 1, h.2.2.lt⟩
def PostF (B b : Nat) (x y : Nm) (f' : Fd) (l : List Int) (w' : World) : Prop :=
 (addE y.D f'.nm y.fs.length ≠ 0 ∧ STab B w' b x y) ∨
 (addE y.D f'.nm y.fs.length = 0 ∧ Maps.has y.D (kS f'.nm) = false ∧ ∃ A', STab B w' b x (y.add f' A') ∧ w'.ownsRow B 43 1 f'.ar l.length (l.map (Value.int .i64)))
structure CF (B : Nat) (w0 : World) (b : Nat) (x y : Nm) (f' : Fd) (l : List Int) (s : Array Bool) (w' : World) : Prop where
 tb : RowB w' w0.heap.size 30 [.pointer (some ⟨b, 0, none⟩)]
 fb : RowB w' (w0.heap.size + 1) 72 f'.cells
 low : Below B w0 w'
 chg : Chg b x y w0 w'
 pre : s.getD 4 true = false → STab B w' b x y ∧ w'.ownsRow B 43 1 f'.ar l.length (l.map (Value.int .i64))
 post : s.getD 4 true = true → PostF B b x y f' l w'
theorem getD_set_true' {s : Array Bool} {i : Nat} (_ : s.getD i true = false) : (s.setIfInBounds i true).getD i true = true := by
 by_cases h : i < s.size <;> simp [h]
theorem CF.set {B : Nat} {w0 : World} {b : Nat} {x y : Nm} {f' : Fd} {l : List Int} {s : Array Bool} {w' : World} (h : CF B w0 b x y f' l s w') {i : Nat} (hi : i ≠ 4) : CF B w0 b x y f' l (s.setIfInBounds i true) w' :=
 ⟨h.tb, h.fb, h.low, h.chg, fun e => h.pre (by rwa [getD_set_ne true hi] at e), fun e => h.post (by rwa [getD_set_ne true hi] at e)⟩
def addR (e : Int) (n : Nat) : Int := if e = 0 then n else 0
def ZF (b : Nat) (f' : Fd) (e : Int) (n : Nat) : Nat → Value → Prop
 | 2, v => v = .pointer (some ⟨b, 3, none⟩)
 | 3, v => v = .agg f'.cells.toArray
 | 4, v => v = .tuple #[.int .i64 (addR e n), .int .i64 e]
 | 5, v => v = .int .i64 (addR e n)
 | 6, v => v = .int .i64 e
 | _, v => v = .pointer (some ⟨b, 0, none⟩)
set_option maxRecDepth 100000 in
set_option maxHeartbeats 1000000 in
theorem declareFun_any {B B0 : Nat} {w : World} {b : Nat} {x y : Nm} (h : STab B w b x y) (f : Fd) (hs : f.nm.size ≤ maxLen) (hres : I64 f.res) (l : List Int) (hl : l.length ≤ 500) (hI : ∀ z ∈ l, I64 z)
 (hv : w.ownsRow B0 43 1 f.ar l.length (l.map (Value.int .i64))) :
 Calls Tryz.prog 25 #[.pointer (some ⟨b, 0, none⟩), .agg f.cells.toArray] w (DeclF B w b x y f l) := by
 have HN := Lib.hid (show ∀ w', Below w.heap.size w w' → Calls Tryz.prog 60 #[.pointer (some ⟨b, 0, none⟩)] w' fun e w'' => e = .returned (.bool false) ∧ w'' = w' from fun w' hb => none_tab (h.below hb).toSTab0)
 have HT := Lib.hid h
 have HV := Lib.hid (show ∀ w', Below w.heap.size w w' → w'.ownsRow B0 43 1 f.ar l.length (l.map (Value.int .i64)) from fun w' hb => ownsRow_ch (S := fun _ => False) hv (Ch.ofBelow hb) (fun _ _ e => e))
 have HI := Lib.hid hI
 have HST := Lib.hid (show StF w b f ((w.alloc (.cells #[.pointer (some ⟨b, 0, none⟩)] 30)).alloc (.cells f.cells.toArray 72)) from
  ⟨((Below.refl _ w).alloc (Nat.le_refl _) _).alloc (by simp) _, RowB.kept (S := fun _ => False) (RowB.new w [.pointer (some ⟨b, 0, none⟩)] 30) ((Ch.refl _ _).alloc _) (fun e => e), by
   have := RowB.new (w.alloc (.cells #[.pointer (some ⟨b, 0, none⟩)] 30)) f.cells 72
   simpa using this⟩)
 obtain ⟨ao, cap, hao, _⟩ := own_slice hv
 clear h hv hI
 go_enter Tryz.func25, Tryz.ntmps25
 go_wp2_with fail
 refine (HN.out _ HST.out.1).mono ?_; rintro e w1 ⟨rfl, rfl⟩
 clear HN
 obtain ⟨t0, k0, k1, k2, k3, u1, sz⟩ := HST.out.cells
 rw [hao] at k1
 generalize hW : (w.alloc (.cells #[.pointer (some ⟨b, 0, none⟩)] 30)).alloc (.cells f.cells.toArray 72) = w1 at *
 clear hW
 go_wp2_with fail
 refine (may_any f.nm words17 _ w1.heap.size _ (by simp) (World.ownsRow_lit w1 _ 17 (Nat.le_refl _) (by decide) rfl) (by decide)).mono ?_; rintro e w2 ⟨rfl, hb2⟩
 replace HST := Lib.hid (HST.out.below (show Below w1.heap.size w1 w2 by (repeat (first | (with_reducible exact Below.refl _ _) | ((with_reducible refine Below.alloc ?_ ?_ _); rotate_left; focus (first | (simp; done) | (simp; omega) | (have q0 := hb2.size; (try simp at q0); (try simp); omega))) | ((with_reducible refine Below.setCell ?_ ?_ _); rotate_left; focus (first | (simp; done) | (simp; omega) | (have q0 := hb2.size; (try simp at q0); (try simp); omega))) | (with_reducible refine Below.drew ?_) | (with_reducible refine Below.drewN' ?_ _) | (with_reducible refine Below.trans ?_ (hb2.mono ?_); rotate_left; focus (first | (simp; done) | (simp; omega) | (have q0 := hb2.size; (try simp at q0); (try simp); omega)))))))
 clear hb2 t0 k0 k1 k2 k3 u1 sz
 obtain ⟨t0, k0, k1, k2, k3, u1, sz⟩ := HST.out.cells
 rw [hao] at k1
 have hBw : B ≤ w.heap.size := HT.out.B_le
 have fin : ∀ w', StF w b f w' → STab B w' b x y ∧ Below B w w' ∧ Chg b x y w w' := fun w' h => ⟨HT.out.below h.1, h.1.mono hBw, Chg.ofB h.1⟩
 have FIN := Lib.hid fin
 clear fin
 cases hm : mayB f.nm words17
 case false =>
  have HM := Lib.hid (show ¬ OkF x y f.nm f.res l from fun q => by rw [OkF, hm] at q; cases q.1)
  clear hm
  go_wp2_with fail
  go_ret2
  exact Or.inl ⟨_, 50, ⟨by decide, HM.out⟩, rfl, FIN.out _ HST.out⟩
 case true =>
  have HM := Lib.hid hm
  by_cases hl20 : l.length ≤ 20
  case neg =>
   have hl' : (20 : Int) < l.length := by omega
   have HM3 := Lib.hid (show ¬ OkF x y f.nm f.res l from fun q => hl20 q.2.1)
   clear hm
   go_wp2_with fail
   go_ret2
   exact Or.inl ⟨_, 3, ⟨by decide, HM3.out⟩, rfl, FIN.out _ HST.out⟩
  case pos =>
  have hl' : ¬ (20 : Int) < l.length := by omega
  clear hm
  go_wp2_with fail
  refine (there_any (HT.out.below HST.out.1) f.res hres).mono ?_; rintro e w3 ⟨rfl, hb3⟩
  replace HST := Lib.hid (HST.out.below hb3)
  clear hb3 t0 k0 k1 k2 k3 u1 sz
  obtain ⟨t0, k0, k1, k2, k3, u1, sz⟩ := HST.out.cells
  rw [hao] at k1
  have HL20 := Lib.hid hl20
  cases hbb : thereB x f.res
  case false =>
   have HM3 := Lib.hid (show ¬ OkF x y f.nm f.res l from fun q => by rw [OkF, hbb] at q; cases q.2.2.1)
   clear hbb
   go_wp2_with fail
   go_ret2
   exact Or.inl ⟨_, 7, ⟨by decide, HM3.out⟩, rfl, FIN.out _ HST.out⟩
  case true =>
  have HBB := Lib.hid hbb
  clear hbb
  go_wp2_with fail
  have hvv := HV.out _ HST.out.1
  rw [hao] at hvv
  refine (containsFunc_any (HT.out.below HST.out.1) w.heap.size t0 (by omega) _ l hvv hl HI.out).mono ?_; rintro e w4 ⟨rfl, hb4⟩
  clear hvv
  replace HST := Lib.hid (HST.out.below hb4)
  clear hb4 t0 k0 k1 k2 k3 u1 sz
  obtain ⟨t0, k0, k1, k2, k3, u1, sz⟩ := HST.out.cells
  rw [hao] at k1
  cases hcc : decide (0 ≤ noneI x l 0)
  case true =>
   have HM3 := Lib.hid (show ¬ OkF x y f.nm f.res l from fun q => (noneI_neg x l 0 (Int.le_refl 0)).1 (of_decide_eq_true hcc) q.2.2.2.1)
   clear hcc
   go_wp2_with fail
   go_ret2
   exact Or.inl ⟨_, 7, ⟨by decide, HM3.out⟩, rfl, FIN.out _ HST.out⟩
  case false =>
  have HCC := Lib.hid (show ∀ z ∈ l, thereB x z = true from Classical.byContradiction fun q => of_decide_eq_false hcc ((noneI_neg x l 0 (Int.le_refl 0)).2 q))
  clear hcc
  go_wp2_with fail
  have hvv := HV.out _ HST.out.1
  rw [hao] at hvv
  refine (clone_any _ l hvv hl).mono ?_; rintro e w5 ⟨⟨ar', rfl, hown⟩, hb5⟩
  clear hvv
  have hsz4 := HST.out.2.2.lt
  have hown' := own_lower hown (show B ≤ _ by omega)
  replace HST := Lib.hid (HST.out.below hb5)
  clear hb5 t0 k0 k1 k2 k3 u1 sz
  obtain ⟨t0, k0, k1, k2, k3, u1, sz⟩ := HST.out.cells
  obtain ⟨ao', cap', rfl, _⟩ := own_slice hown
  have HOW := Lib.hid (And.intro hown hown')
  clear hown hown'
  go_wp2_with fail
  have hb6 : Below w.heap.size w (w5.setCell ⟨w.heap.size + 1, 1, none⟩ (.slice ao' l.length cap')) := HST.out.1.setCell (p := ⟨w.heap.size + 1, 1, none⟩) (by simp) _
  have hT6 := HT.out.below hb6
  have htb : RowB (w5.setCell ⟨w.heap.size + 1, 1, none⟩ (.slice ao' l.length cap')) w.heap.size 30 [.pointer (some ⟨b, 0, none⟩)] :=
   HST.out.2.1.kept ((Ch.refl (fun k => k = w.heap.size + 1) w5).setC (w.heap.size + 1) 1 rfl _) (fun (e : w.heap.size = w.heap.size + 1) => by omega)
  have hfb : RowB (w5.setCell ⟨w.heap.size + 1, 1, none⟩ (.slice ao' l.length cap')) (w.heap.size + 1) 72 (Fd.cells ⟨f.nm, .slice ao' l.length cap', f.res, f.df⟩) := HST.out.2.2.set 1 (.slice ao' l.length cap')
  have hO6 := ownsRow_setCell_other HOW.out.2 (a := ⟨w.heap.size + 1, 1, none⟩) (fun e => by have := (HOW.out.1.lt _ e).1; simp at this; omega) (.slice ao' l.length cap')
  have HC0 := Lib.hid (show CF B w b x y ⟨f.nm, .slice ao' l.length cap', f.res, f.df⟩ l (Array.replicate 9 false) { w5.setCell ⟨w.heap.size + 1, 1, none⟩ (.slice ao' l.length cap') with drawn := (w5.setCell ⟨w.heap.size + 1, 1, none⟩ (.slice ao' l.length cap')).drawn + 1 } from
   ⟨htb, hfb, ⟨hb6.os, hb6.tape, hb6.output, hb6.size, fun k hk => hb6.block k (by omega)⟩, Ch.drawn (Chg.ofB hb6), fun _ => ⟨hT6.below ⟨rfl, rfl, rfl, Nat.le_refl _, fun _ _ => rfl⟩, hO6⟩, fun e => by simp at e⟩)
  clear hb6 hT6 htb hfb hO6 t0 k0 k1 k2 k3 u1 sz HV HI
  generalize w5.setCell ⟨w.heap.size + 1, 1, none⟩ (.slice ao' l.length cap') = w6 at *
  generalize hf' : (⟨f.nm, .slice ao' l.length cap', f.res, f.df⟩ : Fd) = f' at *
  have hnm' : f'.nm.size ≤ maxLen := by rw [← hf']; exact hs
  refine wp_region_flow4 7 (by kernel_rfl) (by kernel_rfl) ?_ (fun j _ v => ZF b f' (addE y.D f'.nm y.fs.length) y.fs.length j v) (CF B w b x y f' l) HC0.out ?_ ?_
  · intro i o' d hi ho hd
    have : i = 0 ∨ i = 1 ∨ i = 2 ∨ i = 3 ∨ i = 4 ∨ i = 5 ∨ i = 6 := by omega
    rcases this with rfl | rfl | rfl | rfl | rfl | rfl | rfl <;> (simp at ho; subst ho; simp at hd; subst hd; simp)
  · intro i o' hi ho
    have : i = 0 ∨ i = 1 ∨ i = 2 ∨ i = 3 ∨ i = 4 ∨ i = 5 ∨ i = 6 := by omega
    rcases this with rfl | rfl | rfl | rfl | rfl | rfl | rfl <;> (simp at ho; subst ho; intro s a w' hun hC hd hr; rw [if_pos (by rfl)])
    · have e2 : a.tmps.getD 2 undef = .pointer (some ⟨w.heap.size, 0, none⟩) := hr 2 (free_of (by rfl))
      have e2' : a.tmps[2]?.getD undef = .pointer (some ⟨w.heap.size, 0, none⟩) := by simpa using e2
      have c0 : w'.cell? ⟨w.heap.size, 0, none⟩ = some (.pointer (some ⟨b, 0, none⟩)) := hC.tb.cell 0
      exact flow_val (v := .pointer (some ⟨b, 0, none⟩)) (by go_simp) ⟨rfl, hC.set (by decide), fun _ _ _ h => h⟩
    · have e36 : a.tmps.getD 36 undef = .pointer (some ⟨b, 0, none⟩) := hd ⟨0, .data⟩ (by simp) rfl _ _ rfl rfl
      have e36' : a.tmps[36]?.getD undef = .pointer (some ⟨b, 0, none⟩) := by simpa using e36
      exact flow_val (v := .pointer (some ⟨b, 0, none⟩)) (by go_simp) ⟨rfl, hC.set (by decide), fun _ _ _ h => h⟩
    · have e37 : a.tmps.getD 37 undef = .pointer (some ⟨b, 0, none⟩) := hd ⟨1, .data⟩ (by simp) rfl _ _ rfl rfl
      have e37' : a.tmps[37]?.getD undef = .pointer (some ⟨b, 0, none⟩) := by simpa using e37
      exact flow_val (v := .pointer (some ⟨b, 3, none⟩)) (by go_simp) ⟨rfl, hC.set (by decide), fun _ _ _ h => h⟩
    · have e3 : a.tmps.getD 3 undef = .pointer (some ⟨w.heap.size + 1, 0, none⟩) := hr 3 (free_of (by rfl))
      exact flow_val (run_load_cells 72 (.tmp 3) rfl (w.heap.size + 1) 0 e3 f'.cells _ Tryz.underlying72 rfl (by kernel_rfl) hC.fb.at) ⟨rfl, hC.set (by decide), fun _ _ _ h => h⟩
    · have e38 : a.tmps.getD 38 undef = .pointer (some ⟨b, 3, none⟩) := hd ⟨2, .data⟩ (by simp) rfl _ _ rfl rfl
      have e38' : a.tmps[38]?.getD undef = .pointer (some ⟨b, 3, none⟩) := by simpa using e38
      have e39 : a.tmps.getD 39 undef = .agg f'.cells.toArray := hd ⟨3, .data⟩ (by simp) rfl _ _ rfl rfl
      have e39' : a.tmps[39]?.getD undef = .agg f'.cells.toArray := by simpa using e39
      obtain ⟨p1, p2⟩ := hC.pre hun
      refine flow_call (f := 62) (args := #[.pointer (some ⟨b, 3, none⟩), .agg f'.cells.toArray]) (by go_simp) ?_
      refine (addy_any p1 f' hnm' l hl20 p2).mono fun e w'' hw => ?_
      have keep : Ch (fun k => k = b ∨ y.A.ownBlock = some k ∨ k = y.m) w' w'' → RowB w'' w.heap.size 30 [.pointer (some ⟨b, 0, none⟩)] ∧ RowB w'' (w.heap.size + 1) 72 f'.cells := fun hch =>
       ⟨hC.tb.kept hch (fun q => by
        rcases q with q | q | q
        · have := HT.out.lt; omega
        · have := (HT.out.oky.oA.lt _ q).2; omega
        · have := HT.out.oky.oD.lt; omega), hC.fb.kept hch (fun q => by
        rcases q with q | q | q
        · have := HT.out.lt; omega
        · have := (HT.out.oky.oA.lt _ q).2; omega
        · have := HT.out.oky.oD.lt; omega)⟩
      rcases hw with ⟨h1, rfl, h3, h4, h5⟩ | ⟨A', h1, rfl, h3, h4, h5, h6, h7⟩
      · refine ⟨_, rfl, ?_, ⟨(keep h5).1, (keep h5).2, hC.low.trans h4, Ch.trans hC.chg (Chg.ofy (own3 h5)), fun e => ?_, fun _ => Or.inl ⟨h1, h3⟩⟩, fun _ _ _ h => h⟩
        · show _ = _
          unfold addR; rw [if_neg h1]
        · rw [getD_set_true' hun] at e; cases e
      · refine ⟨_, rfl, ?_, ⟨(keep h7).1, (keep h7).2, hC.low.trans h5, Ch.trans hC.chg (Chg.ofy (own3 h7)), fun e => ?_, fun _ => Or.inr ⟨h1, h3, A', h4, h6⟩⟩, fun _ _ _ h => h⟩
        · show _ = _
          unfold addR; rw [if_pos h1, h1]
        · rw [getD_set_true' hun] at e; cases e
    · have e40 : a.tmps.getD 40 undef = .tuple #[.int .i64 (addR (addE y.D f'.nm y.fs.length) y.fs.length), .int .i64 (addE y.D f'.nm y.fs.length)] := hd ⟨4, .data⟩ (by simp) rfl _ _ rfl rfl
      have e40' : a.tmps[40]?.getD undef = .tuple #[.int .i64 (addR (addE y.D f'.nm y.fs.length) y.fs.length), .int .i64 (addE y.D f'.nm y.fs.length)] := by simpa using e40
      exact flow_val (v := .int .i64 (addR (addE y.D f'.nm y.fs.length) y.fs.length)) (by go_simp) ⟨rfl, hC.set (by decide), fun _ _ _ h => h⟩
    · have e40 : a.tmps.getD 40 undef = .tuple #[.int .i64 (addR (addE y.D f'.nm y.fs.length) y.fs.length), .int .i64 (addE y.D f'.nm y.fs.length)] := hd ⟨4, .data⟩ (by simp) rfl _ _ rfl rfl
      have e40' : a.tmps[40]?.getD undef = .tuple #[.int .i64 (addR (addE y.D f'.nm y.fs.length) y.fs.length), .int .i64 (addE y.D f'.nm y.fs.length)] := by simpa using e40
      exact flow_val (v := .int .i64 (addE y.D f'.nm y.fs.length)) (by go_simp) ⟨rfl, hC.set (by decide), fun _ _ _ h => h⟩
  · intro vs' w7 hC7 hZ
    have v5 : vs' 5 = .int .i64 (addR (addE y.D f'.nm y.fs.length) y.fs.length) := hZ 5 _ _ (by omega) rfl rfl
    have v6 : vs' 6 = .int .i64 (addE y.D f'.nm y.fs.length) := hZ 6 _ _ (by omega) rfl rfl
    have HP := Lib.hid (And.intro (hC7.post (by simp [doneS])) (And.intro hC7.low hC7.chg))
    clear hZ hC7 HC0
    simp only [List.drop_succ_cons, List.drop_zero, List.take_succ_cons, List.take_zero, putAll, v5, v6]
    clear v5 v6
    go_wp2
    go_ret2
    subst hf'
    rcases HP.out with ⟨⟨h1, h2⟩ | ⟨h1, h2, A', h3, h4⟩, hlow⟩
    · exact Or.inl ⟨_, _, ⟨h1, fun q => h1 q.2.2.2.2⟩, rfl, h2, hlow⟩
    · refine Or.inr ⟨A', .slice ao' l.length cap', ?_, HL20.out, ⟨h2, HM.out, HL20.out, HBB.out, HCC.out, h1⟩, h4, h3, hlow⟩
      show Ending.returned (.tuple #[.int .i64 (addR (addE y.D f.nm y.fs.length) y.fs.length), .int .i64 (addE y.D f.nm y.fs.length)]) = _
      have h1' : addE y.D f.nm y.fs.length = 0 := h1
      unfold addR; rw [if_pos h1', h1']
end Go.Proofs.YtendekbckfpmgaaGreat
