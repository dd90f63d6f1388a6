/- An abstract run of Go code, sound (3); the tables of this program. -/
import Derived.Test.YtendekbckfpmgaaGreatEb
import Derived.Orders
import Derived.Laws.Externs
import Derived.Test.YtendekbckfpmgaaGreatChecked
import Derived.KernelRfl
namespace Go.Proofs.YtendekbckfpmgaaGreat
open Go Go.RowKit
def rdOp : Op → Bool
 | .move _ => true
 | .assign _ => true
 | .pick .. => true
 | .build .. => true
 | .load .. => true
 | .nilCheck _ => true
 | .binOp .. => true
 | .unOp .. => true
 | .convert .. => true
 | .makeFunc .. => true
 | .slice .. => true
 | .fieldAddr .. => true
 | .field .. => true
 | .indexAddr .. => true
 | .index .. => true
 | .lookup .. => true
 | .extract .. => true
 | .call c => match c.callee with
  | .builtin .len => true
  | .builtin .max => true
  | .builtin .min => true
  | _ => false
 | _ => false
def mkOp : Op → Bool
 | .alloc _ => true
 | .box .. => true
 | .buildSlice .. => true
 | .makeSlice .. => true
 | .makeMap .. => true
 | _ => false
def MadeR (P : Program) (o : Oper) (a : Act) (w : World) (σ : Sg) (X : Nat) (v : EV) (blk : EO) : Prop :=
 ∃ v' w' loc ob, (execOp a.eval o).run P w = .ok (.value v') w' ∧ w'.heap = w.heap.push ob ∧ w'.os = w.os ∧ w'.tape = w.tape ∧ w'.output = w.output ∧ loc.blk = w.heap.size ∧ VR (upd σ X loc) v v' ∧ OR (upd σ X loc) loc blk ob
section
variable {P : Program} {tab : Tab} {β : Type} {fail : β} {G : β → Prop} (hf : ¬ G fail)
include hf
theorem newCells_made {h : Tr EO} {nx : Nat} {l : EVs} {k : Tr EO → Nat → β} {σ : Sg} (hg : G (newCells fail h nx l 0 k)) (hn : σ nx = none) {vs : List Value} (hl : VRs σ l vs) :
 ∃ h' o, (∀ j, h'.get j = if j = nx then some o else h.get j) ∧ G (k h' (Nat.succ nx)) ∧ ∀ (b : Nat) (t : TypeId), OR (upd σ nx ⟨b, vs.length, 0⟩) ⟨b, vs.length, 0⟩ o (.cells vs.toArray t) := by
 unfold newCells newB at hg
 obtain ⟨c, hc, hg⟩ := writeCells_spec hf _ _ _ _ hg
 obtain ⟨h', hh, hg⟩ := Tr.put_spec hf _ _ _ _ hg
 refine ⟨h', _, hh, hg, fun b t => ?_⟩
 have hlen := (VRs.iff.1 hl).1
 have hle : Le σ (upd σ nx ⟨b, vs.length, 0⟩) := Le.upd hn _
 refine ⟨vs.toArray, t, rfl, by simp, by rw [EVs.len_toL, hlen]; exact Nat.le_refl _, fun _ => by rw [EVs.len_toL, hlen], fun h => absurd h (by omega), fun i e he => ?_⟩
 rw [hc] at he
 split at he
 · rename_i hi
   simp only [Nat.sub_zero] at he
   obtain ⟨v, hv, hr⟩ := hl.get he
   exact ⟨v, by simpa using hv, hr.mono hle⟩
 · simp [Tr.get_nil] at he
theorem mkE_spec (hT : TabOk P tab) {self : CodeFn} {join : β → β → β} {fl : Nat} {o : Oper} {T : Fr} {h : Tr EO} {X : Nat} {k : EV → Tr EO → Nat → β} {σ : Sg} {a : Act} {w : World} (hm : mkOp o.op = true)
 (hg : G (evOp tab self fail join fl o T h X k)) (hops : ∀ x ∈ o.op.operands.toList, OpRel σ T a x) (hgl : GlOk tab σ) (hn : σ X = none) :
 ∃ v blk h', (∀ j, h'.get j = if j = X then some blk else h.get j) ∧ G (k v h' (Nat.succ X)) ∧ MadeR P o a w σ X v blk := by
 unfold evOp at hg
 cases hop : o.op with
 | alloc e =>
  simp only [hop] at hg hops
  unfold allocE at hg
  cases hi : tab.ty.get e with
  | none => simp only [hi] at hg; exact absurd hg hf
  | some i =>
   simp only [hi] at hg
   have hty := hT.ty e i hi
   obtain ⟨z, z1, z2, z3, z4⟩ := hty.run_zero w
   obtain ⟨h', blk, hh, hg, ho⟩ := newCells_made hf hg hn (z4 σ)
   refine ⟨_, blk, h', hh, hg, .pointer (some ⟨w.heap.size, 0, none⟩), w.alloc (.cells z.cells e), _, _, ?_, rfl, rfl, rfl, rfl, rfl, ?_, ho w.heap.size e⟩
   · simp only [execOp, hop, Sem.run_bind, Instr.alloc, z1, Result.andThen_ok, newVar, run_newRow, Sem.run_pure]
   · simp only [VR]; exact ⟨_, upd_same _ _ _, rfl⟩
 | box e x =>
  simp only [hop] at hg hops
  obtain ⟨vx, hg, hx⟩ := evx_spec hf hg (hops x (by simp [Op.operands])) hgl
  unfold boxE at hg
  obtain ⟨h', blk, hh, hg, ho⟩ := newCells_made hf hg hn hx.cells
  refine ⟨_, blk, h', hh, hg, .pointer (some ⟨w.heap.size, 0, none⟩), w.alloc (.cells (a.eval x).cells e), _, _, ?_, rfl, rfl, rfl, rfl, rfl, ?_, ho w.heap.size e⟩
  · simp only [execOp, hop, Sem.run_bind, Instr.box, Result.andThen_ok, newVar, run_newRow, Sem.run_pure]
  · simp only [VR]; exact ⟨_, upd_same _ _ _, rfl⟩
 | buildSlice t len ps =>
  simp only [hop] at hg hops
  obtain ⟨ps', hg, hps⟩ := evParts_spec (a := a) (σ := σ) hf hgl hg (fun x hx => hops x.2 (by simp [Op.operands]; exact ⟨x.1, by simpa using hx⟩))
  have hps : PartsR σ ps' (ps.map fun (i, x) => (i, a.eval x)).toList := by simpa using hps
  unfold buildSliceE at hg
  obtain ⟨e, ei, hu, _, hty, hg⟩ := elemE_spec hf hT hg
  cases hb : Nat.ble (Nat.mul len ei.size) 16777216 with
  | false => simp only [hb] at hg; exact absurd hg hf
  | true =>
   simp only [hb, cond_true] at hg
   have hle : len * ei.size ≤ 16777216 := Nat.le_of_ble_eq_true hb
   obtain ⟨z, z1, z2, z3, z4⟩ := hty.run_zero w
   obtain ⟨c', cells', c1, c2, hg⟩ := fillE_spec (place := fun i => some (i * ei.size, ei.size)) (σ := σ) hf (fun j x hx => hx) hg hps (rep_cells (n := len) (z4 σ) z2)
   obtain ⟨h', blk, hh, hg, ho⟩ := newCells_made hf hg hn c2
   refine ⟨_, blk, h', hh, hg, .slice (some ⟨w.heap.size, 0, none⟩) len len, w.alloc (.cells cells' e), _, _, ?_, rfl, rfl, rfl, rfl, rfl, ?_, ho w.heap.size e⟩
   · have hrun : (Instr.buildSlice t len (ps.map fun (i, x) => (i, a.eval x))).run P w = .ok (.slice (some ⟨w.heap.size, 0, none⟩) len len) (w.alloc (.cells cells' e)) := by
      simp only [Instr.buildSlice, Sem.run_bind, run_underlying hu, Result.andThen_ok, hty.run_size]
      rw [if_neg (by omega)]
      by_cases h0 : len * ei.size = 0
      · have hz0 : (Array.range (len * ei.size)).map (z.cells[· % z.cells.size]!) = (Array.range (len * ei.size)).map ((#[] : Array Value)[· % (#[] : Array Value).size]!) := by rw [h0]; simp
        rw [hz0] at c1
        simp only [h0] at c1 ⊢
        simp only [if_true, c1, Sem.run_bind, run_newRow, Result.andThen_ok, Sem.run_pure]
      · simp only [h0, if_false, Sem.run_bind, z1, Result.andThen_ok, Sem.run_pure, c1, run_newRow]
     simp only [execOp, hop, Sem.run_bind, hrun, Result.andThen_ok, Sem.run_pure]
   · simp only [VR, Option.getD_some]; exact ⟨_, upd_same _ _ _, rfl, Nat.le_refl _⟩
 | makeMap t r =>
  simp only [hop] at hg hops
  cases r with
  | some _ => exact absurd hg hf
  | none =>
   simp only [newB] at hg
   obtain ⟨h', hp, hg⟩ := Tr.put_spec hf _ _ _ _ hg
   refine ⟨_, _, h', hp, hg, .map (some w.heap.size), w.alloc (.map #[] 0), ⟨w.heap.size, 0, 0⟩, _, ?_, rfl, rfl, rfl, rfl, rfl, ?_, ⟨#[], rfl, by simp [ER]⟩⟩
   · simp [execOp, hop, Instr.makeMap, newObj, Sem.run]
   · simp only [VR]; exact ⟨_, upd_same _ _ _, rfl⟩
 | makeSlice t l c =>
  simp only [hop] at hg hops
  obtain ⟨vl, hg, hl⟩ := evx_spec hf hg (hops l (by simp [Op.operands])) hgl
  obtain ⟨vc, hg, hc⟩ := evx_spec hf hg (hops c (by simp [Op.operands])) hgl
  unfold makeSliceE at hg
  split at hg
  · rename_i k1 n k2 m hg'
    clear hg'
    simp only [VR] at hl hc
    obtain ⟨e, ei, hu, _, hty, hg⟩ := elemE_spec hf hT hg
    cases hb : (Nat.ble n m && Nat.ble (Nat.mul ei.bytes m) 281474976710656 && Nat.ble m 4611686018427387904) with
    | false => simp only [hb] at hg; exact absurd hg hf
    | true =>
     simp only [hb, cond_true] at hg
     rw [Bool.and_eq_true, Bool.and_eq_true] at hb
     have b1 : n ≤ m := Nat.le_of_ble_eq_true hb.1.1
     have b2 : ei.bytes * m ≤ 281474976710656 := Nat.le_of_ble_eq_true hb.1.2
     have b3 : m ≤ 4611686018427387904 := Nat.le_of_ble_eq_true hb.2
     obtain ⟨i, z, i1, i2, i3, i4, i5, i6, i7⟩ := hty.info
     obtain ⟨h', blk, hh, hg, ho⟩ := newCells_made hf hg hn (rep_cells (n := m) (i7 σ) i5)
     refine ⟨_, blk, h', hh, hg, .slice (some ⟨w.heap.size, 0, none⟩) n m, w.alloc (.cells ((Array.range (m * ei.size)).map (z.cells[· % z.cells.size]!)) e), _, _, ?_, rfl, rfl, rfl, rfl, rfl, ?_, ho w.heap.size e⟩
     · have wr : ∀ x : Nat, x ≤ 4611686018427387904 → IntKind.i64.wrap (Int.ofNat x) = (x : Int) := fun x hx => IntWalk.i64_in (x : Int) (by constructor <;> omega)
       have t1 : (typeInfo e).run P w = .ok i w := by simp [typeInfo, i1]
       have n1 : ¬ ((m : Int) < 0) := by omega
       have n2 : ¬ ((n : Int) < 0) := by omega
       have n3 : ¬ ((n : Int) > (m : Int)) := by omega
       have n4 : ¬ ((i.bytes : Int) * (m : Int) > 2 ^ 48) := by
        rw [i3, ← Int.natCast_mul]
        generalize ei.bytes * m = q at b2
        omega
       have zv : (zeroValue e).run P w = .ok z w := by simp [zeroValue, typeInfo, i1, i4]
       have hrun : (Instr.makeSlice t (a.eval l) (a.eval c)).run P w = .ok (.slice (some ⟨w.heap.size, 0, none⟩) n m) (w.alloc (.cells ((Array.range (m * ei.size)).map (z.cells[· % z.cells.size]!)) e)) := by
        simp only [hl, hc, Instr.makeSlice, Sem.run_bind, run_underlying hu, Result.andThen_ok, asInt, asIntOf, Sem.run_pure, t1, wr n (by omega), wr m b3]
        simp only [n1, n2, n3, n4, decide_false, Bool.or_false, Bool.or_self, Bool.false_eq_true, if_false, Int.toNat_natCast]
        simp only [Sem.run_bind]
        rw [run_askRoom]
        simp only [Result.andThen_ok, hty.run_size]
        by_cases h0 : m * ei.size = 0
        · have hz0 : (Array.range (m * ei.size)).map (z.cells[· % z.cells.size]!) = (Array.range (m * ei.size)).map ((#[] : Array Value)[· % (#[] : Array Value).size]!) := by rw [h0]; simp
          rw [hz0]
          simp only [h0, if_true, Sem.run_pure, Result.andThen_ok, Sem.run_bind, run_newRow]
        · simp only [h0, if_false, Sem.run_bind, zv, Result.andThen_ok, Sem.run_pure, run_newRow]
       simp only [execOp, hop, Sem.run_bind, hrun, Result.andThen_ok, Sem.run_pure]
     · simp only [VR, Option.getD_some]; exact ⟨_, upd_same _ _ _, rfl, b1⟩
  · exact absurd hg hf
 | _ => rw [hop] at hm; cases hm
theorem rdE_spec (hT : TabOk P tab) {self : CodeFn} {join : β → β → β} {fl : Nat} {o : Oper} {T : Fr} {h : Tr EO} {nx : Nat} {k : EV → Tr EO → Nat → β} {σ : Sg} {a : Act} {w : World} (hm : rdOp o.op = true) (hcv : cvB tab o.op = false)
 (hg : G (evOp tab self fail join fl o T h nx k)) (hops : ∀ x ∈ o.op.operands.toList, OpRel σ T a x) (hgl : GlOk tab σ) (H : Holds σ h w) :
 ∃ e e', (execOp a.eval o).run P w = .ok (.value e') w ∧ VR σ e e' ∧ G (k e h nx) := by
 unfold evOp at hg
 cases hop : o.op with
 | move x =>
  simp only [hop] at hg hops
  obtain ⟨v, hg, hv⟩ := evx_spec hf hg (hops x (by simp [Op.operands])) hgl
  exact ⟨v, _, by simp only [execOp, hop, Sem.run_pure], hv, hg⟩
 | assign x =>
  simp only [hop] at hg hops
  obtain ⟨v, hg, hv⟩ := evx_spec hf hg (hops x (by simp [Op.operands])) hgl
  exact ⟨v, _, by simp only [execOp, hop, Sem.run_pure], hv, hg⟩
 | pick c x y =>
  simp only [hop] at hg hops
  obtain ⟨vc, hg, hc⟩ := evx_spec hf hg (hops c (by simp [Op.operands])) hgl
  split at hg
  · rename_i b
    obtain ⟨vx, hg, hx⟩ := evx_spec hf hg (hops x (by simp [Op.operands])) hgl
    obtain ⟨vy, hg, hy⟩ := evx_spec hf hg (hops y (by simp [Op.operands])) hgl
    simp only [VR] at hc
    refine ⟨_, if b then a.eval x else a.eval y, ?_, ?_, hg⟩
    · simp only [execOp, hop, hc, asBool, Sem.run_bind, Sem.run_pure, Result.andThen_ok]
    · cases b
      · exact hy
      · exact hx
  · exact absurd hg hf
 | build t ps =>
  simp only [hop] at hg hops
  obtain ⟨ps', hg, hps⟩ := evParts_spec (a := a) (σ := σ) hf hgl hg (fun x hx => hops x.2 (by simp [Op.operands]; exact ⟨x.1, by simpa using hx⟩))
  obtain ⟨e, e', h1, h2, h3⟩ := buildE_spec (w := w) (ps' := ps.map fun (i, x) => (i, a.eval x)) hf hT hg (by simpa using hps)
  exact ⟨e, e', by simp only [execOp, hop, Sem.run_bind, h1, Result.andThen_ok, Sem.run_pure], h2, h3⟩
 | load t x =>
  simp only [hop] at hg hops
  obtain ⟨vx, hg, hx⟩ := evx_spec hf hg (hops x (by simp [Op.operands])) hgl
  obtain ⟨e, ad, e', h1, h2, h3, h4⟩ := loadE_spec hf hT hg hx H
  exact ⟨e, e', by simp only [execOp, hop, Instr.loadAt, h1, Instr.sureAddr, Sem.run_bind, Sem.run_pure, h2, Result.andThen_ok], h3, h4⟩
 | nilCheck x =>
  simp only [hop] at hg hops
  obtain ⟨vx, hg, hx⟩ := evx_spec hf hg (hops x (by simp [Op.operands])) hgl
  exact nilCheckE_spec (P := P) (w := w) hf hop hg hx
 | binOp op t x y yt =>
  simp only [hop] at hg hops
  obtain ⟨vx, hg, hx⟩ := evx_spec hf hg (hops x (by simp [Op.operands])) hgl
  obtain ⟨vy, hg, hy⟩ := evx_spec hf hg (hops y (by simp [Op.operands])) hgl
  obtain ⟨e, e', h1, h2, h3⟩ := binO_spec (P := P) (xo := x) (yo := y) (w := w) hf hT hg hx hy
  refine ⟨e, e', ?_, h2, h3⟩
  simp only [execOp, hop]
  rw [Sem.run_bind, h1]
  rfl
 | unOp op t x =>
  simp only [hop] at hg hops
  obtain ⟨vx, hg, hx⟩ := evx_spec hf hg (hops x (by simp [Op.operands])) hgl
  obtain ⟨e, e', h1, h2, h3⟩ := unE_spec (P := P) (w := w) hf hg hx
  exact ⟨e, e', by simp only [execOp, hop, Sem.run_bind, h1, Result.andThen_ok, Sem.run_pure], h2, h3⟩
 | convert src dst x =>
  simp only [hop] at hg hops
  obtain ⟨vx, hg, hx⟩ := evx_spec hf hg (hops x (by simp [Op.operands])) hgl
  rw [hop] at hcv
  rw [hcv] at hg
  simp only [cond_false] at hg
  split at hg
  · obtain ⟨e, e', h1, h2, h3⟩ := toStrE_spec (P := P) hf hT hg hx H
    exact ⟨e, e', by simp only [execOp, hop, Sem.run_bind, h1, Result.andThen_ok, Sem.run_pure], h2, h3⟩
  · obtain ⟨e, e', h1, h2, h3⟩ := toStrE_spec (P := P) hf hT hg hx H
    exact ⟨e, e', by simp only [execOp, hop, Sem.run_bind, h1, Result.andThen_ok, Sem.run_pure], h2, h3⟩
  · obtain ⟨e, e', h1, h2, h3⟩ := convE_spec (P := P) (w := w) hf hT hg hx
    exact ⟨e, e', by simp only [execOp, hop, Sem.run_bind, h1, Result.andThen_ok, Sem.run_pure], h2, h3⟩
 | makeFunc fn first cap =>
  simp only [hop] at hg hops
  cases fn with
  | func f =>
   simp only at hg
   obtain ⟨v1, hg, q1⟩ := evxs_spec (a := a) (σ := σ) hf hgl hg (fun x hx => hops x (by simp [Op.operands]; exact .inl (by simpa using hx)))
   obtain ⟨v2, hg, q2⟩ := evxs_spec (a := a) (σ := σ) hf hgl hg (fun x hx => hops x (by simp [Op.operands]; exact .inr (by simpa using hx)))
   refine ⟨_, .func (.func f) (first.map a.eval) (cap.map a.eval), ?_, ?_, hg⟩
   · simp only [execOp, hop, Instr.makeFunc, Sem.run_bind, Sem.run_pure, Result.andThen_ok]
   · simp only [VR]; exact ⟨_, _, rfl, by simpa using q1, by simpa using q2⟩
  | _ => exact absurd hg hf
 | slice t x lo hi mx =>
  simp only [hop] at hg hops
  obtain ⟨vx, hg, hx⟩ := evx_spec hf hg (hops x (by simp [Op.operands])) hgl
  obtain ⟨v1, hg, q1⟩ := evOpt_spec (a := a) (σ := σ) hf hg (fun y hy => hops y (by subst hy; simp [Op.operands])) hgl
  obtain ⟨v2, hg, q2⟩ := evOpt_spec (a := a) (σ := σ) hf hg (fun y hy => hops y (by subst hy; simp [Op.operands])) hgl
  obtain ⟨v3, hg, q3⟩ := evOpt_spec (a := a) (σ := σ) hf hg (fun y hy => hops y (by subst hy; simp [Op.operands])) hgl
  obtain ⟨e, e', h1, h2, h3⟩ := sliceE_spec hf hT hg hx q1 q2 q3 H
  exact ⟨e, e', by simp only [execOp, hop, Sem.run_bind, h1, Result.andThen_ok, Sem.run_pure], h2, h3⟩
 | fieldAddr s x f =>
  simp only [hop] at hg hops
  obtain ⟨vx, hg, hx⟩ := evx_spec hf hg (hops x (by simp [Op.operands])) hgl
  obtain ⟨e, e', h1, h2, h3⟩ := fieldAddrE_spec (w := w) hf hT hg hx
  exact ⟨e, e', by simp only [execOp, hop, Sem.run_bind, h1, Result.andThen_ok, Sem.run_pure], h2, h3⟩
 | field s x f =>
  simp only [hop] at hg hops
  obtain ⟨vx, hg, hx⟩ := evx_spec hf hg (hops x (by simp [Op.operands])) hgl
  obtain ⟨e, e', h1, h2, h3⟩ := fieldE_spec (w := w) hf hT hg hx
  exact ⟨e, e', by simp only [execOp, hop, Sem.run_bind, h1, Result.andThen_ok, Sem.run_pure], h2, h3⟩
 | indexAddr t x i =>
  simp only [hop] at hg hops
  obtain ⟨vx, hg, hx⟩ := evx_spec hf hg (hops x (by simp [Op.operands])) hgl
  obtain ⟨vi, hg, hi⟩ := evx_spec hf hg (hops i (by simp [Op.operands])) hgl
  obtain ⟨e, e', h1, h2, h3⟩ := indexAddrE_spec (w := w) hf hT hg hx hi
  exact ⟨e, e', by simp only [execOp, hop, Sem.run_bind, h1, Result.andThen_ok, Sem.run_pure], h2, h3⟩
 | index t x i =>
  simp only [hop] at hg hops
  obtain ⟨vx, hg, hx⟩ := evx_spec hf hg (hops x (by simp [Op.operands])) hgl
  obtain ⟨vi, hg, hi⟩ := evx_spec hf hg (hops i (by simp [Op.operands])) hgl
  obtain ⟨e, e', h1, h2, h3⟩ := indexE_spec (w := w) hf hT hg hx hi
  exact ⟨e, e', by simp only [execOp, hop, Sem.run_bind, h1, Result.andThen_ok, Sem.run_pure], h2, h3⟩
 | lookup t x i ok =>
  simp only [hop] at hg hops
  obtain ⟨vx, hg, hx⟩ := evx_spec hf hg (hops x (by simp [Op.operands])) hgl
  obtain ⟨vi, hg, hi⟩ := evx_spec hf hg (hops i (by simp [Op.operands])) hgl
  obtain ⟨e, e', h1, h2, h3⟩ := lookupE_spec hf hT hg hx hi H
  exact ⟨e, e', by simp only [execOp, hop, Sem.run_bind, h1, Result.andThen_ok, Sem.run_pure], h2, h3⟩
 | extract x i =>
  simp only [hop] at hg hops
  obtain ⟨vx, hg, hx⟩ := evx_spec hf hg (hops x (by simp [Op.operands])) hgl
  obtain ⟨e, e', h1, h2, h3⟩ := extractE_spec (P := P) (w := w) hf hg hx
  exact ⟨e, e', by simp only [execOp, hop, Sem.run_bind, h1, Result.andThen_ok, Sem.run_pure], h2, h3⟩
 | call c =>
  simp only [hop] at hg hops hm
  cases hc : c.callee with
  | builtin b =>
   simp only [hc] at hg
   obtain ⟨va, hg, q2⟩ := evxs_spec (a := a) (σ := σ) hf hgl hg (fun x hx => hops x (by simp [Op.operands, Call.operands, hc]; simpa using hx))
   obtain ⟨cs, hrun⟩ : ∃ cs, (execOp a.eval o).run P w = (builtin b c.argTypes o.type cs (c.args.map a.eval)).run P w := by
    simp only [execOp, hop, resolve, hc, Sem.run_bind, Sem.run_pure, Result.andThen_ok, invoke]
    exact ⟨_, rfl⟩
   unfold builtinE at hg
   cases hts : c.argTypes.toList with
   | nil => simp only [hts] at hg; exact absurd hg hf
   | cons t ts =>
    simp only [hts] at hg
    have hat : c.argTypes = (t :: ts).toArray := by rw [← hts]
    cases b <;> simp only at hg <;> first | exact absurd hg hf | skip
    case clear => rw [rdOp.eq_def] at hm; simp only [hc] at hm; cases hm
    case copy => rw [rdOp.eq_def] at hm; simp only [hc] at hm; cases hm
    case append => rw [rdOp.eq_def] at hm; simp only [hc] at hm; cases hm
    case delete => rw [rdOp.eq_def] at hm; simp only [hc] at hm; cases hm
    case max =>
     split at hg
     · rename_i ki x kj y
       cases hk : ikEq ki kj with
       | false => rw [hk] at hg; exact absurd hg hf
       | true =>
        rw [hk] at hg
        have := ikEq_eq hk
        subst this
        simp only [VRs, VR] at q2
        obtain ⟨_, m1, h1, rfl, _, m2, rfl, rfl, rfl⟩ := q2
        have harg : c.args.map a.eval = #[.int ki x, .int ki y] := by
         apply Array.ext'; simpa using h1
        refine ⟨_, .int ki (bif ltInt x y then y else x), ?_, by simp only [VR], hg⟩
        rw [hrun, harg]
        simp only [builtin]
        rw [run_max2]
     · exact absurd hg hf
    case min =>
     split at hg
     · rename_i ki x kj y
       cases hk : ikEq ki kj with
       | false => rw [hk] at hg; exact absurd hg hf
       | true =>
        rw [hk] at hg
        have := ikEq_eq hk
        subst this
        simp only [VRs, VR] at q2
        obtain ⟨_, m1, h1, rfl, _, m2, rfl, rfl, rfl⟩ := q2
        have harg : c.args.map a.eval = #[.int ki x, .int ki y] := by
         apply Array.ext'; simpa using h1
        refine ⟨_, .int ki (bif ltInt y x then y else x), ?_, by simp only [VR], hg⟩
        rw [hrun, harg]
        simp only [builtin]
        rw [run_min2]
     · exact absurd hg hf
    case cap =>
     split at hg
     · rename_i v
       simp only [VRs] at q2
       obtain ⟨v', m1, h1, q3, h3⟩ := q2
       subst h3
       have harg : c.args.map a.eval = #[v'] := by
        apply Array.ext'; simpa using h1
       cases hti : tab.ty.get t with
       | none => simp only [hti] at hg; exact absurd hg hf
       | some i =>
        simp only [hti] at hg
        obtain ⟨e, e', h1, h2, h3⟩ := capE_spec (P := P) (w := w) (ty := o.type) hf (hT.ty t i hti).und hg q3
        refine ⟨e, e', ?_, h2, h3⟩
        rw [hrun, harg]
        have hl : (Builtin.cap_ c.argTypes o.type #[v']) = Builtin.cap_ #[t] o.type #[v'] := by rw [hat]; rfl
        simp only [builtin, hl, Sem.run_bind, h1, Result.andThen_ok, Sem.run_pure]
     · exact absurd hg hf
    case len =>
     split at hg
     · rename_i v
       simp only [VRs] at q2
       obtain ⟨v', m1, h1, q3, h3⟩ := q2
       subst h3
       have harg : c.args.map a.eval = #[v'] := by
        apply Array.ext'; simpa using h1
       cases hti : tab.ty.get t with
       | none => simp only [hti] at hg; exact absurd hg hf
       | some i =>
        simp only [hti] at hg
        obtain ⟨e, e', h1, h2, h3⟩ := lenE_spec (P := P) (ty := o.type) hf (hT.ty t i hti).und hg q3 H
        refine ⟨e, e', ?_, h2, h3⟩
        rw [hrun, harg]
        have hl : (Builtin.len_ c.argTypes o.type #[v']) = Builtin.len_ #[t] o.type #[v'] := by rw [hat]; rfl
        simp only [builtin, hl, Sem.run_bind, h1, Result.andThen_ok, Sem.run_pure]
     · exact absurd hg hf
  | _ => simp only [rdOp, hc] at hm; cases hm
 | _ => rw [hop] at hm; cases hm
end
end Go.Proofs.YtendekbckfpmgaaGreat
namespace Go.Proofs.YtendekbckfpmgaaGreat
open Go Go.RowKit
abbrev Item := Nat × Oper × Nat
def hasBit (m i : Nat) : Bool := Nat.testBit m i
def maskL (acc : List Nat) : List Edge → Nat
 | [] => 0
 | e :: l => bif Region.binds .any e then Nat.lor (Nat.lor (Nat.pow 2 e.on) (acc.getD e.on 0)) (maskL acc l) else maskL acc l
def mkItems : List Oper → Nat → List Nat → List Item
 | [], _, _ => []
 | o :: l, i, acc => (i, o, maskL acc o.after.toList) :: mkItems l (Nat.succ i) (acc ++ [maskL acc o.after.toList])
def dstIsN : Option Nat → Nat → Bool
 | some d, x => Nat.beq d x
 | none, _ => false
def dstApart : Option Nat → Option Nat → Bool
 | some d, some e => not (Nat.beq d e)
 | _, _ => true
def dstLt (nt : Nat) : Option Nat → Bool
 | some d => Nat.blt d nt
 | none => true
def statOk (ops : Array Oper) (nt : Nat) (items : List Item) : Bool :=
 items.all fun x => (x.2.1.looksAt ops).all (fun t => items.all fun y => not (dstIsN y.2.1.dst t) || hasBit x.2.2 y.1) &&
  items.all (fun y => Nat.beq y.1 x.1 || dstApart x.2.1.dst y.2.1.dst) && x.2.1.after.toList.all (fun e => not (Region.binds .any e) || Nat.blt e.on x.1) && dstLt nt x.2.1.dst
def isCh (tab : Tab) (o : Op) : Bool := cvB tab o || not (rdOp o || mkOp o)
def freeB (rem : List Item) (m : Nat) : Bool := rem.all fun r => not (hasBit m r.1)
def aOf (A : List (Nat × Nat × EO)) (i : Nat) : List (Nat × Nat × EO) := A.filter fun q => Nat.beq q.1 i
section
variable (tab : Tab) (self : CodeFn)
def rdV (o : Oper) (T : Fr) (h : Tr EO) : Option EV := evOp tab self none (fun _ _ => none) 0 o T h 0 fun v _ _ => some v
def mkV (o : Oper) (T : Fr) (X : Nat) : Option (EV × EO) := evOp tab self none (fun _ _ => none) 0 o T .nil X fun v h _ => match h.get X with
 | some b => some (v, b)
 | none => none
section
variable {β : Type} (fail : β) (join : β → β → β) (nt fl : Nat) (ops : Array Oper) (items : List Item)
def prepE (rem : List Item) (dW : Nat) (h : Tr EO) : List Item → Fr → List (Nat × Nat × EO) → Nat → Nat → (Fr → List (Nat × Nat × EO) → Nat → Nat → β) → β
 | [], T, A, nx, E, k => k T A nx E
 | x :: l, T, A, nx, E, k =>
  bif isCh tab x.2.1.op || hasBit E x.1 || not (freeB rem x.2.2) then prepE rem dW h l T A nx E k else
  match wantedE ops T x.2.1 with
  | none => fail
  | some false => putD fail nt x.2.1.dst undefE T fun T => prepE rem dW h l T A nx (Nat.lor E (Nat.pow 2 x.1)) k
  | some true => bif mkOp x.2.1.op then match mkV tab self x.2.1 T nx with
   | some p => putD fail nt x.2.1.dst p.1 T fun T => prepE rem dW h l T ((x.1, nx, p.2) :: A) (Nat.succ nx) (Nat.lor E (Nat.pow 2 x.1)) k
   | none => fail
   else match rdV tab self x.2.1 T h with
    | some v => putD fail nt x.2.1.dst v T fun T => prepE rem dW h l T A nx (Nat.lor E (Nat.pow 2 x.1)) k
    | none => fail
def dstIs (T : Fr) (d : Option Nat) (v : EV) : Bool :=
 match d with
 | some d => match T.get d with
  | some u => sameE u v
  | none => false
 | none => true
def okAt (rem : List Item) (dW : Nat) (T : Fr) (h : Tr EO) (A : List (Nat × Nat × EO)) (E : Nat) (x : Item) : Bool :=
 isCh tab x.2.1.op || not (freeB rem x.2.2) || hasBit dW x.1 || (hasBit E x.1 && match wantedE ops T x.2.1 with
  | none => false
  | some false => dstIs T x.2.1.dst undefE && (match aOf A x.1 with | [] => true | _ => false)
  | some true => bif mkOp x.2.1.op then (match aOf A x.1 with
   | [q] => match mkV tab self x.2.1 T q.2.1 with
    | some p => dstIs T x.2.1.dst p.1 && sameO p.2 q.2.2
    | none => false
   | _ => false)
   else match rdV tab self x.2.1 T h with
    | some v => dstIs T x.2.1.dst v && (match aOf A x.1 with | [] => true | _ => false)
    | none => false)
def mergeE (p : Nat → Bool) : List (Nat × Nat × EO) → Tr EO → (Tr EO → β) → β
 | [], h, k => k h
 | q :: A, h, k => bif p q.1 then Tr.put fail (some q.2.2) 64 h q.2.1 fun h => mergeE p A h k else mergeE p A h k
def stopE (rem : List Item) (dW : Nat) (T : Fr) (h : Tr EO) (A : List (Nat × Nat × EO)) (nx E : Nat) (k : Fr → List (Nat × Nat × EO) → Nat → Nat → β) : β :=
 prepE tab self fail nt ops rem dW h items T A nx E fun T A nx E => bif items.all (okAt tab self ops rem dW T h A E) then k T A nx E else fail
def goE : List Item → Nat → Fr → Tr EO → List (Nat × Nat × EO) → Nat → Nat → (Fr → Tr EO → Nat → β) → β
 | [], _, T, h, A, nx, _, k => mergeE fail (fun _ => true) A h fun h => k T h nx
 | r :: rest, _, T, h, A, nx, E, k => bif rest.all (fun q => hasBit q.2.2 r.1) then
  mergeE fail (hasBit r.2.2) A h fun h => match wantedE ops T r.2.1 with
   | none => fail
   | some false => putD fail nt r.2.1.dst undefE T fun T => stopE tab self fail nt ops items rest (Nat.lor r.2.2 (Nat.pow 2 r.1)) T h (A.filter fun q => not (hasBit r.2.2 q.1)) nx E fun T A nx E =>
    goE rest (Nat.lor r.2.2 (Nat.pow 2 r.1)) T h A nx E k
   | some true => evOp tab self fail join fl r.2.1 T h nx fun v h nx => putD fail nt r.2.1.dst v T fun T => stopE tab self fail nt ops items rest (Nat.lor r.2.2 (Nat.pow 2 r.1)) T h (A.filter fun q => not (hasBit r.2.2 q.1)) nx E fun T A nx E =>
    goE rest (Nat.lor r.2.2 (Nat.pow 2 r.1)) T h A nx E k
  else fail
end
def evDraw {β : Type} (fail : β) (join : β → β → β) (nt fl : Nat) (ops : Array Oper) (T : Fr) (h : Tr EO) (nx : Nat) (k : Fr → Tr EO → Nat → β) : β :=
 bif statOk ops nt (mkItems ops.toList 0 []) then
  stopE tab self fail nt ops (mkItems ops.toList 0 []) ((mkItems ops.toList 0 []).filter fun x => isCh tab x.2.1.op) 0 T h [] nx 0 fun T A nx E =>
   goE tab self fail join nt fl ops (mkItems ops.toList 0 []) ((mkItems ops.toList 0 []).filter fun x => isCh tab x.2.1.op) 0 T h A nx E k
 else fail
end
end Go.Proofs.YtendekbckfpmgaaGreat
namespace Go.Proofs.YtendekbckfpmgaaGreat
open Go Go.RowKit
theorem Tr.put_ex {α : Type} (v : Option α) : ∀ (n : Nat) (t : Tr α), ∃ t' : Tr α, ∀ j, t'.get j = if j = n then v else t.get j := by
 intro n
 induction n using Nat.strongRecOn with
 | _ n ih =>
  have key : ∀ (l r : Tr α) (x : Option α), ∃ t' : Tr α, ∀ j, t'.get j = if j = n then v else (Tr.node l x r).get j := by
   intro l r x
   by_cases h0 : n = 0
   · refine ⟨.node l v r, fun j => ?_⟩
     subst h0
     rw [Tr.get_node, Tr.get_node]; split <;> rfl
   · by_cases h1 : n % 2 = 1
     · obtain ⟨t', ht⟩ := ih (n / 2) (by omega) l
       refine ⟨.node t' x r, fun j => ?_⟩
       rw [Tr.get_node, Tr.get_node, ht]
       by_cases hj : j = n
       · subst hj; rw [if_neg h0, if_pos h1, if_pos rfl, if_pos rfl]
       · rw [if_neg hj]
         split
         · rfl
         · split
           · rw [if_neg (by omega)]
           · rfl
     · obtain ⟨t', ht⟩ := ih (n / 2 - 1) (by omega) r
       refine ⟨.node l x t', fun j => ?_⟩
       rw [Tr.get_node, Tr.get_node, ht]
       by_cases hj : j = n
       · subst hj; rw [if_neg h0, if_neg h1, if_pos rfl, if_pos rfl]
       · rw [if_neg hj]
         split
         · rfl
         · split
           · rfl
           · rw [if_neg (by omega)]
  intro t
  cases t with
  | node l x r => exact key l r x
  | nil =>
   obtain ⟨t', ht⟩ := key .nil .nil none
   refine ⟨t', fun j => ?_⟩
   rw [ht]
   split
   · rfl
   · rw [Tr.get_node]
     simp only [Tr.get_nil]
     split
     · rfl
     · split <;> rfl
abbrev Aside := List (Nat × Nat × EO)
def AP (A : Aside) : Prop := A.Pairwise fun x y => x.2.1 ≠ y.2.1
theorem AP.uniq {A : Aside} (h : AP A) {q r : Nat × Nat × EO} (hq : q ∈ A) (hr : r ∈ A) (e : q.2.1 = r.2.1) : q = r := by
 induction A with
 | nil => cases hq
 | cons x A ih =>
  have h' := List.pairwise_cons.1 h
  cases hq with
  | head => cases hr with
   | head => rfl
   | tail _ hr => exact absurd e (h'.1 _ hr)
  | tail _ hq => cases hr with
   | head => exact absurd e.symm (h'.1 _ hq)
   | tail _ hr => exact ih h'.2 hq hr
theorem lay_ex : ∀ (A : Aside) (h : Tr EO), AP A → (∀ q ∈ A, h.get q.2.1 = none) → ∃ hs : Tr EO, ∀ id b, hs.get id = some b ↔ (h.get id = some b ∨ ∃ i, (i, id, b) ∈ A)
 | [], h, _, _ => ⟨h, fun id b => by simp⟩
 | q :: A, h, hp, hn => by
  have hp' := List.pairwise_cons.1 hp
  obtain ⟨h1, e1⟩ := Tr.put_ex (some q.2.2) q.2.1 h
  obtain ⟨hs, es⟩ := lay_ex A h1 hp'.2 (fun r hr => by rw [e1, if_neg (fun e => hp'.1 r hr e.symm)]; exact hn r (by simp [hr]))
  refine ⟨hs, fun id b => ?_⟩
  rw [es, e1]
  constructor
  · rintro (h | ⟨i, hi⟩)
    · split at h
      · rename_i e
        subst e
        cases h
        exact .inr ⟨q.1, List.mem_cons_self ..⟩
      · exact .inl h
    · exact .inr ⟨i, List.mem_cons_of_mem _ hi⟩
  · rintro (h | ⟨i, hi⟩)
    · left
      rw [if_neg (fun e => by rw [e, hn q (by simp)] at h; cases h)]
      exact h
    · cases hi with
      | head => left; rw [if_pos rfl]
      | tail _ hi => exact .inr ⟨i, hi⟩
section
variable {β : Type} {fail : β} {G : β → Prop} (hf : ¬ G fail)
include hf
theorem mergeE_spec {p : Nat → Bool} : ∀ {A : Aside} {h : Tr EO} {k : Tr EO → β}, G (mergeE fail p A h k) → AP A → (∀ q ∈ A, h.get q.2.1 = none) →
 ∃ hs : Tr EO, G (k hs) ∧ ∀ id b, hs.get id = some b ↔ (h.get id = some b ∨ ∃ i, (i, id, b) ∈ A ∧ p i = true)
 | [], h, k, hg, _, _ => ⟨h, hg, fun id b => by simp⟩
 | q :: A, h, k, hg, hp, hn => by
  have hp' := List.pairwise_cons.1 hp
  simp only [mergeE] at hg
  cases hb : p q.1 with
  | false =>
   rw [hb] at hg
   obtain ⟨hs, hg, es⟩ := mergeE_spec (p := p) (A := A) hg hp'.2 (fun r hr => hn r (by simp [hr]))
   refine ⟨hs, hg, fun id b => ?_⟩
   rw [es]
   constructor
   · rintro (h | ⟨i, hi, hq⟩)
     · exact .inl h
     · exact .inr ⟨i, List.mem_cons_of_mem _ hi, hq⟩
   · rintro (h | ⟨i, hi, hq⟩)
     · exact .inl h
     · cases hi with
       | head => rw [hb] at hq; cases hq
       | tail _ hi => exact .inr ⟨i, hi, hq⟩
  | true =>
   rw [hb] at hg
   obtain ⟨h1, e1, hg⟩ := Tr.put_spec hf _ _ _ _ hg
   obtain ⟨hs, hg, es⟩ := mergeE_spec (p := p) (A := A) hg hp'.2 (fun r hr => by rw [e1, if_neg (fun e => hp'.1 r hr e.symm)]; exact hn r (by simp [hr]))
   refine ⟨hs, hg, fun id b => ?_⟩
   rw [es, e1]
   constructor
   · rintro (h | ⟨i, hi, hq⟩)
     · split at h
       · rename_i e
         subst e
         cases h
         exact .inr ⟨q.1, List.mem_cons_self .., hb⟩
       · exact .inl h
     · exact .inr ⟨i, List.mem_cons_of_mem _ hi, hq⟩
   · rintro (h | ⟨i, hi, hq⟩)
     · left
       rw [if_neg (fun e => by rw [e, hn q (by simp)] at h; cases h)]
       exact h
     · cases hi with
       | head => left; rw [if_pos rfl]
       | tail _ hi => exact .inr ⟨i, hi, hq⟩
end
theorem isSome_of {α : Type} {o : Option α} {b : α} (h : o = some b) : o.isSome := by rw [h]; rfl
theorem Holds.sub {σ : Sg} {h hs : Tr EO} {w : World} (H : Holds σ hs w) (hle : ∀ id b, h.get id = some b → hs.get id = some b) : Holds σ h w where
 there := fun id o ho => H.there id o (hle id o ho)
 inj := fun i j li lj hi hj e1 e2 e => by
  obtain ⟨bi, ei⟩ := Option.isSome_iff_exists.1 hi
  obtain ⟨bj, ej⟩ := Option.isSome_iff_exists.1 hj
  exact H.inj i j li lj (isSome_of (hle i bi ei)) (isSome_of (hle j bj ej)) e1 e2 e
theorem Holds.congr {σ : Sg} {h : Tr EO} {w w' : World} (H : Holds σ h w) (e : w'.heap = w.heap) : Holds σ h w' where
 there := fun id o ho => by rw [e]; exact H.there id o ho
 inj := H.inj
theorem Holds.dom {σ : Sg} {h : Tr EO} {w : World} (H : Holds σ h w) {id : Nat} (hs : σ id = Option.none) : h.get id = Option.none := by
 cases hg : h.get id with
 | none => rfl
 | some o =>
  obtain ⟨l, ob, e, _⟩ := H.there id o hg
  rw [hs] at e; cases e
theorem Post.more {fl : Nat} {σ σ' : Sg} {h h' : Tr EO} {nx nx' nx2 : Nat} {w w' : World} (p : Post fl σ h nx w σ' h' nx' w') (hn : nx' ≤ nx2) : Post fl σ h nx w σ' h' nx2 w' where
 le := p.le
 new := p.new
 nxle := Nat.le_trans p.nxle hn
 fresh := fun id hi => p.fresh id (Nat.le_trans hn hi)
 dom := fun id hi => (p.dom id hi).imp (fun h => h) fun ⟨a, b⟩ => ⟨a, Nat.lt_of_lt_of_le b hn⟩
 holds := p.holds
 floor := p.floor
 size := p.size
 frame := p.frame
 own := p.own
 os := p.os
 tape := p.tape
 output := p.output
theorem Post.congr {fl : Nat} {σ σ' : Sg} {h h' h2 : Tr EO} {nx nx' : Nat} {w w' : World} (p : Post fl σ h nx w σ' h' nx' w') (he : ∀ id, h2.get id = h'.get id) : Post fl σ h nx w σ' h2 nx' w' where
 le := p.le
 new := p.new
 nxle := p.nxle
 fresh := p.fresh
 dom := fun id hi => p.dom id (by rw [← he]; exact hi)
 holds := p.holds.sub fun id b hb => by rw [← he]; exact hb
 floor := fun id hi => by rw [he]; exact p.floor id hi
 size := p.size
 frame := p.frame
 own := fun id l hi => p.own id l (by rw [← he]; exact hi)
 os := p.os
 tape := p.tape
 output := p.output
theorem get_eq_of_iff {h h2 : Tr EO} (he : ∀ id b, h2.get id = some b ↔ h.get id = some b) (id : Nat) : h2.get id = h.get id := by
 cases h1 : h.get id with
 | some b => exact (he id b).2 h1
 | none =>
  cases h2' : h2.get id with
  | none => rfl
  | some b => rw [(he id b).1 h2'] at h1; cases h1
theorem Post.framed {fl : Nat} {σ σ' : Sg} {hW h' hs : Tr EO} {nx nx' : Nat} {w w' : World} {F : Aside} (p : Post fl σ hW nx w σ' h' nx' w') (H : Holds σ hs w) (hF : AP F)
 (he : ∀ id b, hs.get id = some b ↔ (hW.get id = some b ∨ ∃ i, (i, id, b) ∈ F)) (hn : ∀ q ∈ F, hW.get q.2.1 = none ∧ q.2.1 < nx) :
 ∃ hs' : Tr EO, (∀ id b, hs'.get id = some b ↔ (h'.get id = some b ∨ ∃ i, (i, id, b) ∈ F)) ∧ Post fl σ hs nx w σ' hs' nx' w' := by
 have hn' : ∀ q ∈ F, h'.get q.2.1 = none := by
  intro q hq
  cases hg : h'.get q.2.1 with
  | none => rfl
  | some b =>
   rcases p.dom q.2.1 (isSome_of hg) with h1 | ⟨h1, _⟩
   · rw [(hn q hq).1] at h1; cases h1
   · have := (hn q hq).2; omega
 obtain ⟨hs', es⟩ := lay_ex F h' hF hn'
 have hle : ∀ id b, hW.get id = some b → hs.get id = some b := fun id b h => (he id b).2 (.inl h)
 have hleS : ∀ id, (hW.get id).isSome → (hs.get id).isSome := fun id h => by
  obtain ⟨b, hb⟩ := Option.isSome_iff_exists.1 h
  exact isSome_of (hle id b hb)
 have hFs : ∀ i id b, (i, id, b) ∈ F → hs.get id = some b := fun i id b h => (he id b).2 (.inr ⟨i, h⟩)
 -- a block of F is none of the step's
 have away : ∀ i id b l, (i, id, b) ∈ F → σ id = some l → ∀ j lj, (hW.get j).isSome → σ j = some lj → lj.blk ≠ l.blk := by
  intro i id b l hm e j lj hj ej heq
  have := H.inj j id lj l (hleS j hj) (isSome_of (hFs i id b hm)) ej e heq
  subst this
  rw [(hn _ hm).1] at hj; cases hj
 have lt : ∀ i id b l, (i, id, b) ∈ F → σ id = some l → l.blk < w.heap.size := fun i id b l hm e => H.lt (isSome_of (hFs i id b hm)) e
 refine ⟨hs', es, ?_⟩
 exact {
  le := p.le
  new := p.new
  nxle := p.nxle
  fresh := p.fresh
  dom := fun id hi => by
   obtain ⟨b, hb⟩ := Option.isSome_iff_exists.1 hi
   rcases (es id b).1 hb with h1 | ⟨i, h1⟩
   · rcases p.dom id (isSome_of h1) with h2 | h2
     · exact .inl (hleS id h2)
     · exact .inr h2
   · exact .inl (isSome_of (hFs i id b h1))
  holds := {
   there := fun id o ho => by
    rcases (es id o).1 ho with h1 | ⟨i, h1⟩
    · exact p.holds.there id o h1
    · obtain ⟨l, ob, e1, e2, e3⟩ := H.there id o (hFs i id o h1)
      refine ⟨l, ob, p.le id l e1, ?_, e3.mono p.le⟩
      rw [p.frame l.blk (lt i id o l h1 e1) (fun j lj hj ej => away i id o l h1 e1 j lj hj ej)]
      exact e2
   inj := fun i j li lj hi hj ei ej heq => by
    obtain ⟨bi, hbi⟩ := Option.isSome_iff_exists.1 hi
    obtain ⟨bj, hbj⟩ := Option.isSome_iff_exists.1 hj
    have mixed : ∀ i j li lj bi bj q, h'.get i = some bi → (q, j, bj) ∈ F → σ' i = some li → σ' j = some lj → li.blk = lj.blk → i = j := by
     intro i j li lj bi bj q h1 h2 ei ej heq
     obtain ⟨l, ob, e1, _⟩ := H.there j bj (hFs q j bj h2)
     have : lj = l := by rw [p.le j l e1] at ej; exact (Option.some.inj ej).symm
     subst this
     rcases p.own i li (isSome_of h1) ei with h3 | ⟨k, lk, hk, ek, hq⟩
     · have := lt q j bj lj h2 e1; omega
     · exact absurd (hq.trans heq) (away q j bj lj h2 e1 k lk hk ek)
    rcases (es i bi).1 hbi with h1 | ⟨qi, h1⟩
    · rcases (es j bj).1 hbj with h2 | ⟨qj, h2⟩
      · exact p.holds.inj i j li lj (isSome_of h1) (isSome_of h2) ei ej heq
      · exact mixed i j li lj bi bj qj h1 h2 ei ej heq
    · rcases (es j bj).1 hbj with h2 | ⟨qj, h2⟩
      · exact (mixed j i lj li bj bi qi h2 h1 ej ei heq.symm).symm
      · obtain ⟨l, _, e1, _⟩ := H.there i bi (hFs qi i bi h1)
        obtain ⟨l2, _, e2, _⟩ := H.there j bj (hFs qj j bj h2)
        have a1 : li = l := by rw [p.le i l e1] at ei; exact (Option.some.inj ei).symm
        have a2 : lj = l2 := by rw [p.le j l2 e2] at ej; exact (Option.some.inj ej).symm
        subst a1; subst a2
        exact H.inj i j li lj (isSome_of (hFs qi i bi h1)) (isSome_of (hFs qj j bj h2)) e1 e2 heq }
  floor := fun id hi => by
   have hfl := p.floor id hi
   cases hg : hs.get id with
   | some b =>
    rcases (he id b).1 hg with h1 | h1
    · exact (es id b).2 (.inl (by rw [hfl]; exact h1))
    · exact (es id b).2 (.inr h1)
   | none =>
    cases hg' : hs'.get id with
    | none => rfl
    | some b =>
     rcases (es id b).1 hg' with h1 | h1
     · rw [(he id b).2 (.inl (by rw [← hfl]; exact h1))] at hg; cases hg
     · rw [(he id b).2 (.inr h1)] at hg; cases hg
  size := p.size
  frame := fun b hb hne => p.frame b hb fun id l hi e => hne id l (hleS id hi) e
  own := fun id l hi e => by
   obtain ⟨b, hb⟩ := Option.isSome_iff_exists.1 hi
   rcases (es id b).1 hb with h1 | ⟨i, h1⟩
   · rcases p.own id l (isSome_of h1) e with h2 | ⟨j, lj, hj, ej, hq⟩
     · exact .inl h2
     · exact .inr ⟨j, lj, hleS j hj, ej, hq⟩
   · obtain ⟨l', _, e1, _⟩ := H.there id b (hFs i id b h1)
     have : l = l' := by rw [p.le id l' e1] at e; exact (Option.some.inj e).symm
     subst this
     exact .inr ⟨id, l, isSome_of (hFs i id b h1), e1, rfl⟩
  os := p.os
  tape := p.tape
  output := p.output }
theorem Post.late {fl : Nat} {σ0 σ : Sg} {h0 hs : Tr EO} {nx0 nx X : Nat} {w0 w w' : World} {loc : Loc} {ob : Obj} {blk : EO} (p : Post fl σ0 h0 nx0 w0 σ hs nx w) (hfl : fl ≤ nx0) (h1 : nx0 ≤ X) (h2 : X < nx) (hn : σ X = none)
 (hheap : w'.heap = w.heap.push ob) (hos : w'.os = w.os) (htape : w'.tape = w.tape) (hout : w'.output = w.output) (hloc : loc.blk = w.heap.size) (hob : OR (upd σ X loc) loc blk ob) :
 ∃ hs' : Tr EO, (∀ id, hs'.get id = if id = X then some blk else hs.get id) ∧ Post fl σ0 h0 nx0 w0 (upd σ X loc) hs' nx w' := by
 obtain ⟨hs', es⟩ := Tr.put_ex (some blk) X hs
 have hle : Le σ (upd σ X loc) := Le.upd hn loc
 have hX : hs.get X = none := p.holds.dom hn
 have old : ∀ b, b < w.heap.size → w'.heap[b]? = w.heap[b]? := fun b hb => by rw [hheap, Array.getElem?_push, if_neg (by omega)]
 have hlt : ∀ id l, (hs.get id).isSome → σ id = some l → l.blk < w.heap.size := fun id l hi e => p.holds.lt hi e
 have back : ∀ id l, (hs'.get id).isSome → (upd σ X loc) id = some l → (id = X ∧ l = loc) ∨ (id ≠ X ∧ (hs.get id).isSome ∧ σ id = some l) := by
  intro id l hi e
  by_cases hx : id = X
  · subst hx; rw [upd_same] at e; exact .inl ⟨rfl, (Option.some.inj e).symm⟩
  · rw [upd_other σ loc hx] at e
    rw [es, if_neg hx] at hi
    exact .inr ⟨hx, hi, e⟩
 refine ⟨hs', es, ?_⟩
 exact {
  le := p.le.trans hle
  new := fun id hi => by rw [upd_other σ loc (by omega)]; exact p.new id hi
  nxle := p.nxle
  fresh := fun id hi => by rw [upd_other σ loc (by omega)]; exact p.fresh id hi
  dom := fun id hi => by
   by_cases hx : id = X
   · subst hx; exact .inr ⟨h1, h2⟩
   · rw [es, if_neg hx] at hi; exact p.dom id hi
  holds := {
   there := fun id o ho => by
    by_cases hx : id = X
    · subst hx
      rw [es, if_pos rfl] at ho
      cases ho
      exact ⟨loc, ob, upd_same _ _ _, by rw [hheap, hloc]; simp, hob⟩
    · rw [es, if_neg hx] at ho
      obtain ⟨l, ob', e1, e2, e3⟩ := p.holds.there id o ho
      exact ⟨l, ob', hle id l e1, by rw [old l.blk (hlt id l (isSome_of ho) e1)]; exact e2, e3.mono hle⟩
   inj := fun i j li lj hi hj ei ej heq => by
    rcases back i li hi ei with ⟨a1, a2⟩ | ⟨a1, a2, a3⟩
    · rcases back j lj hj ej with ⟨b1, b2⟩ | ⟨b1, b2, b3⟩
      · rw [a1, b1]
      · subst a2
        have := hlt j lj b2 b3; omega
    · rcases back j lj hj ej with ⟨b1, b2⟩ | ⟨b1, b2, b3⟩
      · subst b2
        have := hlt i li a2 a3; omega
      · exact p.holds.inj i j li lj a2 b2 a3 b3 heq }
  floor := fun id hi => by rw [es, if_neg (by omega)]; exact p.floor id hi
  size := by rw [hheap]; have := p.size; simp; omega
  frame := fun b hb hne => by rw [old b (by have := p.size; omega)]; exact p.frame b hb hne
  own := fun id l hi e => by
   rcases back id l hi e with ⟨a1, a2⟩ | ⟨a1, a2, a3⟩
   · subst a2; left; rw [hloc]; exact p.size
   · exact p.own id l a2 a3
  os := hos.trans p.os
  tape := htape.trans p.tape
  output := hout.trans p.output }
end Go.Proofs.YtendekbckfpmgaaGreat
namespace Go.Proofs.YtendekbckfpmgaaGreat
open Go Go.RowKit
theorem getDF {s : Array Bool} {i : Nat} (h : s.getD i true = false) : s.getD i false = false ∧ i < s.size := by
 rcases Nat.lt_or_ge i s.size with h' | h'
 · simp [h'] at h ⊢; exact h
 · simp [Array.getElem?_eq_none h'] at h
theorem getDB {s : Array Bool} {i : Nat} (hi : i < s.size) (h : s.getD i false = false) : s.getD i true = false := by
 simp [hi] at h ⊢; exact h
theorem getD_set_at {s : Array Bool} {i : Nat} (hi : i < s.size) : (s.setIfInBounds i true).getD i false = true := by simp [hi]
theorem getD_repl (m j : Nat) : (Array.replicate m false).getD j false = false := by
 rcases Nat.lt_or_ge j m with h | h
 · simp [h]
 · simp [h]
def unls (s : Array Bool) : Nat := s.toList.countP (fun b => !b)
theorem countPset : ∀ (l : List Bool) (i : Nat), l[i]? = some false → (l.set i true).countP (fun b => !b) + 1 = l.countP (fun b => !b)
 | [], i, h => by simp at h
 | b :: l, 0, h => by
  have : b = false := by simpa using h
  subst this; simp
 | b :: l, i + 1, h => by
  have := countPset l i (by simpa using h)
  simp only [List.set_cons_succ, List.countP_cons]
  omega
theorem unls_set {s : Array Bool} {i : Nat} (h : s.getD i true = false) : unls (s.setIfInBounds i true) + 1 = unls s := by
 have hi := (getDF h).2
 have hs : s.toList[i]? = some false := by
  have : s[i] = false := by simpa [hi] using h
  simp [hi, this]
 have := countPset s.toList i hs
 unfold unls
 simpa using this
theorem any_of_inv' {P : Program} {r : Option Nat} {ops : Array Oper} {md : Region.Mode} {Q : Exit → Act → World → Prop} (I : Array Bool → Act → World → Prop) (hstep : ∀ s a w i, I s a w → i ∈ Region.ready md ops s → wpOpIn (WF r) 0 P ops Q i (I (s.setIfInBounds i true)) a w)
 (hend : ∀ s a w, I s a w → Region.ready md ops s = [] → Q .normal a w) : ∀ (f : Nat) (s : Array Bool) (a : Act) (w : World), unls s ≤ f → I s a w → wpAnyIn (WF r) 0 P md ops Q f s a w := by
 intro f
 induction f with
 | zero =>
  intro s a w hf hI
  have h0 : Region.ready md ops s = [] := by
   rcases hr : Region.ready md ops s with _ | ⟨i, r⟩
   · rfl
   · have hi : i ∈ Region.ready md ops s := by rw [hr]; simp
     have := unls_set (mem_ready.1 hi).1
     omega
  exact ⟨h0, hend _ _ _ hI h0⟩
 | succ f ih =>
  intro s a w hf hI
  refine ⟨fun h0 => hend _ _ _ hI h0, fun i hi => ?_⟩
  have h1 := unls_set (mem_ready.1 hi).1
  exact wpOpIn_mono (fun a' w' hI' => ih _ _ _ (by omega) hI') (hstep s a w i hI hi)
theorem hasBit_lor (a b i : Nat) : hasBit (Nat.lor a b) i = (hasBit a i || hasBit b i) := Nat.testBit_or a b i
theorem hasBit_pow (n i : Nat) : hasBit (Nat.pow 2 n) i = decide (n = i) := Nat.testBit_two_pow
theorem hasBit_zero (i : Nat) : hasBit 0 i = false := Nat.zero_testBit i
def Clo (ops : Array Oper) (s : Array Bool) : Prop := ∀ j oj, ops[j]? = some oj → s.getD j false = true → ∀ e ∈ oj.after, Region.binds .any e = true → s.getD e.on false = true
theorem maskL_bit {acc : List Nat} {q : Nat} : ∀ {l : List Edge}, hasBit (maskL acc l) q = true → ∃ e ∈ l, Region.binds .any e = true ∧ (q = e.on ∨ hasBit (acc.getD e.on 0) q = true)
 | [], h => by rw [maskL, hasBit_zero] at h; cases h
 | e :: l, h => by
  simp only [maskL] at h
  cases hb : Region.binds .any e with
  | false =>
   rw [hb] at h
   obtain ⟨e', h1, h2⟩ := maskL_bit (l := l) h
   exact ⟨e', List.mem_cons_of_mem _ h1, h2⟩
  | true =>
   rw [hb] at h
   simp only [cond_true, hasBit_lor, Bool.or_eq_true, hasBit_pow, decide_eq_true_eq] at h
   rcases h with (h | h) | h
   · exact ⟨e, List.mem_cons_self .., hb, .inl h.symm⟩
   · exact ⟨e, List.mem_cons_self .., hb, .inr h⟩
   · obtain ⟨e', h1, h2⟩ := maskL_bit (l := l) h
     exact ⟨e', List.mem_cons_of_mem _ h1, h2⟩
theorem mkItems_spec {ops : Array Oper} {s : Array Bool} (hz : s.size = ops.size) (hc : Clo ops s) : ∀ {l : List Oper} {i : Nat} {acc : List Nat}, acc.length = i → (∀ k, l[k]? = ops[i + k]?) →
 (∀ j mj, acc[j]? = some mj → s.getD j false = true → ∀ q, hasBit mj q = true → s.getD q false = true) →
 (∀ x ∈ mkItems l i acc, ops[x.1]? = some x.2.1 ∧ ((∀ e ∈ x.2.1.after, Region.binds .any e = true → s.getD e.on false = true) → ∀ q, hasBit x.2.2 q = true → s.getD q false = true))
 | [], i, acc, _, _, _ => fun x hx => by simp [mkItems] at hx
 | o :: l, i, acc, ha, hl, hacc => by
  have h0 : ops[i]? = some o := by simpa using (hl 0).symm
  have hm : (∀ e ∈ o.after, Region.binds .any e = true → s.getD e.on false = true) → ∀ q, hasBit (maskL acc o.after.toList) q = true → s.getD q false = true := by
   intro hd q hq
   obtain ⟨e, he, hb, h⟩ := maskL_bit hq
   have hs := hd e (by simpa using he) hb
   rcases h with h | h
   · rw [h]; exact hs
   · cases hg : acc[e.on]? with
     | none => rw [List.getD_eq_getElem?_getD, hg] at h; simp only [Option.getD_none, hasBit_zero] at h; cases h
     | some mj =>
      rw [List.getD_eq_getElem?_getD, hg] at h
      exact hacc e.on mj hg hs q h
  intro x hx
  simp only [mkItems] at hx
  cases hx with
  | head => exact ⟨h0, hm⟩
  | tail _ hx =>
   refine mkItems_spec hz hc (l := l) (i := Nat.succ i) (acc := acc ++ [maskL acc o.after.toList]) (by simp [ha]) (fun k => ?_) (fun j mj hj hsj q hq => ?_) x hx
   · have := hl (k + 1)
     simp only [List.getElem?_cons_succ] at this
     rw [this]; congr 1; omega
   · rcases Nat.lt_or_ge j acc.length with h | h
     · rw [List.getElem?_append_left h] at hj
       exact hacc j mj hj hsj q hq
     · rw [List.getElem?_append_right h] at hj
       have hj0 : j = acc.length := by
        have := (List.getElem?_eq_some_iff.1 hj).1
        simp at this; omega
       subst hj0
       simp at hj
       subst hj
       exact hm (fun e he hb => hc acc.length o (by rw [ha]; exact h0) hsj e he hb) q hq
theorem mkItems_mem : ∀ {l : List Oper} {i j : Nat} {acc : List Nat} {o : Oper}, l[j]? = some o → ∃ m, (i + j, o, m) ∈ mkItems l i acc
 | [], i, j, acc, o, h => by simp at h
 | p :: l, i, 0, acc, o, h => by
  have : p = o := by simpa using h
  subst this
  exact ⟨_, by simp only [mkItems, Nat.add_zero]; exact List.mem_cons_self ..⟩
 | p :: l, i, j + 1, acc, o, h => by
  obtain ⟨m, hm⟩ := mkItems_mem (l := l) (i := Nat.succ i) (j := j) (acc := acc ++ [maskL acc p.after.toList]) (o := o) (by simpa using h)
  refine ⟨m, ?_⟩
  simp only [mkItems]
  rw [show i + (j + 1) = Nat.succ i + j by omega]
  exact List.mem_cons_of_mem _ hm
theorem mkItems_ge : ∀ {l : List Oper} {i : Nat} {acc : List Nat}, ∀ x ∈ mkItems l i acc, i ≤ x.1
 | [], i, acc, x, h => by simp [mkItems] at h
 | o :: l, i, acc, x, h => by
  simp only [mkItems] at h
  cases h with
  | head => exact Nat.le_refl _
  | tail _ h => exact Nat.le_of_succ_le (mkItems_ge x h)
theorem mkItems_pw : ∀ (l : List Oper) (i : Nat) (acc : List Nat), (mkItems l i acc).Pairwise fun x y => x.1 ≠ y.1
 | [], i, acc => by simp [mkItems]
 | o :: l, i, acc => by
  simp only [mkItems]
  refine List.pairwise_cons.2 ⟨fun y hy => ?_, mkItems_pw l _ _⟩
  have := mkItems_ge y hy
  simp only; omega
section
variable {P : Program} {tab : Tab} {β : Type} {fail : β} {G : β → Prop} (hf : ¬ G fail) {self : CodeFn} {join : β → β → β} {nt fl : Nat} {ops : Array Oper} {items : List Item}
include hf
theorem prepE_spec {rem : List Item} {dW : Nat} {h : Tr EO} : ∀ {l : List Item} {T : Fr} {A : Aside} {nx E : Nat} {k : Fr → Aside → Nat → Nat → β}, G (prepE tab self fail nt ops rem dW h l T A nx E k) → (∀ x ∈ l, x ∈ items) →
 (∀ q ∈ A, q.2.1 < nx) → AP A →
 ∃ T' A' nx' E', G (k T' A' nx' E') ∧ nx ≤ nx' ∧ (∀ i, hasBit E i = true → hasBit E' i = true) ∧ (∀ d, (∀ x ∈ items, isCh tab x.2.1.op = false → hasBit E x.1 = false → x.2.1.dst ≠ some d) → T'.get d = T.get d) ∧
  (∀ q ∈ A', q ∈ A ∨ (nx ≤ q.2.1 ∧ q.2.1 < nx' ∧ hasBit E q.1 = false ∧ hasBit E' q.1 = true ∧ ∃ x ∈ items, x.1 = q.1 ∧ isCh tab x.2.1.op = false)) ∧ (∀ q ∈ A, q ∈ A') ∧ AP A' ∧ T'.D = T.D ∧ T'.ro = T.ro
 | [], T, A, nx, E, k, hg, _, _, hp => ⟨T, A, nx, E, hg, Nat.le_refl _, fun _ h => h, fun _ _ => rfl, fun q h => .inl h, fun _ h => h, hp, rfl, rfl⟩
 | x :: l, T, A, nx, E, k, hg, hl, hA, hp => by
  simp only [prepE] at hg
  have hl' : ∀ y ∈ l, y ∈ items := fun y hy => hl y (List.mem_cons_of_mem _ hy)
  cases hskip : (isCh tab x.2.1.op || hasBit E x.1 || not (freeB rem x.2.2)) with
  | true =>
   rw [hskip] at hg
   exact prepE_spec hg hl' hA hp
  | false =>
   rw [hskip] at hg
   simp only [Bool.or_eq_false_iff] at hskip
   obtain ⟨⟨hch, hE⟩, _⟩ := hskip
   have hx : x ∈ items := hl x (List.mem_cons_self ..)
   -- behind a step
   have next : ∀ {T1 : Fr} {A1 : Aside} {nx1 : Nat} {v : EV}, G (prepE tab self fail nt ops rem dW h l T1 A1 nx1 (Nat.lor E (Nat.pow 2 x.1)) k) → (∀ d, T1.get d = if x.2.1.dst = some d then some v else T.get d) → nx ≤ nx1 →
    (∀ q ∈ A1, q.2.1 < nx1) → AP A1 → (∀ q ∈ A1, q ∈ A ∨ (nx ≤ q.2.1 ∧ q.1 = x.1)) → (∀ q ∈ A, q ∈ A1) → T1.D = T.D → T1.ro = T.ro →
    ∃ T' A' nx' E', G (k T' A' nx' E') ∧ nx ≤ nx' ∧ (∀ i, hasBit E i = true → hasBit E' i = true) ∧ (∀ d, (∀ x ∈ items, isCh tab x.2.1.op = false → hasBit E x.1 = false → x.2.1.dst ≠ some d) → T'.get d = T.get d) ∧
     (∀ q ∈ A', q ∈ A ∨ (nx ≤ q.2.1 ∧ q.2.1 < nx' ∧ hasBit E q.1 = false ∧ hasBit E' q.1 = true ∧ ∃ x ∈ items, x.1 = q.1 ∧ isCh tab x.2.1.op = false)) ∧ (∀ q ∈ A, q ∈ A') ∧ AP A' ∧ T'.D = T.D ∧ T'.ro = T.ro := by
    intro T1 A1 nx1 v hg hT hnx hA1 hp1 hA1' hsub hD1 hR1
    obtain ⟨T', A', nx', E', g1, g2, g3, g4, g5, g6, g7, g8, g9⟩ := prepE_spec hg hl' hA1 hp1
    have hEb : hasBit (Nat.lor E (Nat.pow 2 x.1)) x.1 = true := by rw [hasBit_lor, hasBit_pow]; simp
    refine ⟨T', A', nx', E', g1, Nat.le_trans hnx g2, fun i hi => g3 i (by rw [hasBit_lor, hi]; rfl), fun d hd => ?_, fun q hq => ?_, fun q hq => g6 q (hsub q hq), g7, g8.trans hD1, g9.trans hR1⟩
    · rw [g4 d (fun y hy h1 h2 => hd y hy h1 (by rw [hasBit_lor] at h2; exact (Bool.or_eq_false_iff.1 h2).1)), hT d, if_neg (hd x hx hch hE)]
    · rcases g5 q hq with h1 | ⟨h1, h2, h3, h4, h5⟩
      · rcases hA1' q h1 with h2 | ⟨h2, h3⟩
        · exact .inl h2
        · exact .inr ⟨h2, Nat.lt_of_lt_of_le (hA1 q h1) g2, by rw [h3]; exact hE, g3 _ (by rw [h3]; exact hEb), x, hx, h3.symm, hch⟩
      · exact .inr ⟨Nat.le_trans hnx h1, h2, by rw [hasBit_lor] at h3; exact (Bool.or_eq_false_iff.1 h3).1, h4, h5⟩
   simp only [cond_false] at hg
   split at hg
   · exact absurd hg hf
   · obtain ⟨T1, hg, h1, _, hD1, hR1⟩ := putD_spec hf hg
     exact next hg h1 (Nat.le_refl _) hA hp (fun q hq => .inl hq) (fun q hq => hq) hD1 hR1
   · cases hm : mkOp x.2.1.op with
     | true =>
      rw [hm] at hg
      simp only [cond_true] at hg
      split at hg
      · obtain ⟨T1, hg, h1, _, hD1, hR1⟩ := putD_spec hf hg
        refine next hg h1 (Nat.le_succ _) (fun q hq => ?_) (List.pairwise_cons.2 ⟨fun q hq => ?_, hp⟩) (fun q hq => ?_) (fun q hq => List.mem_cons_of_mem _ hq) hD1 hR1
        · cases hq with
          | head => exact Nat.lt_succ_self _
          | tail _ hq => exact Nat.lt_succ_of_lt (hA q hq)
        · have := hA q hq; simp only; omega
        · cases hq with
          | head => exact .inr ⟨Nat.le_refl _, rfl⟩
          | tail _ hq => exact .inl hq
      · exact absurd hg hf
     | false =>
      rw [hm] at hg
      simp only [cond_false] at hg
      split at hg
      · obtain ⟨T1, hg, h1, _, hD1, hR1⟩ := putD_spec hf hg
        exact next hg h1 (Nat.le_refl _) hA hp (fun q hq => .inl hq) (fun q hq => hq) hD1 hR1
      · exact absurd hg hf
end
structure DInv (tab : Tab) (ro0 : Option Nat) (nt fl : Nat) (ops : Array Oper) (items : List Item) (σ0 : Sg) (h0 : Tr EO) (nx0 : Nat) (w0 : World) (rem : List Item) (dW : Nat) (T : Fr) (h : Tr EO) (A : Aside) (nx E : Nat)
 (s : Array Bool) (a : Act) (w : World) (σ : Sg) (hs : Tr EO) : Prop where
 size : s.size = ops.size
 clo : Clo ops s
 remIn : ∀ r ∈ rem, r ∈ items ∧ isCh tab r.2.1.op = true ∧ s.getD r.1 false = false
 chIn : ∀ x ∈ items, isCh tab x.2.1.op = true → x ∈ rem ∨ s.getD x.1 false = true
 dw : ∀ j, hasBit dW j = true → s.getD j false = true
 ev : ∀ x ∈ items, isCh tab x.2.1.op = false → s.getD x.1 false = true → hasBit E x.1 = true
 post : Post fl σ0 h0 nx0 w0 σ hs nx w
 hsG : ∀ id b, hs.get id = some b ↔ (h.get id = some b ∨ ∃ i, (i, id, b) ∈ A ∧ s.getD i false = true)
 aX : ∀ q ∈ A, nx0 ≤ q.2.1 ∧ q.2.1 < nx ∧ h.get q.2.1 = none ∧ (s.getD q.1 false = false → σ q.2.1 = none)
 aP : AP A
 aN : ∀ q ∈ A, ∃ x ∈ items, x.1 = q.1 ∧ isCh tab x.2.1.op = false
 remP : rem.Pairwise fun x y => x.1 ≠ y.1
 defers : DR σ T.D a.defers
 ro : T.ro = ro0
 tsz : a.tmps.size = nt
 tr : ∀ d, (∀ x ∈ items, s.getD x.1 false = false → x.2.1.dst ≠ some d) → VR σ ((T.get d).getD undefE) (a.tmps.getD d undef)
section
variable {P : Program} {tab : Tab} {β : Type} {fail : β} {G : β → Prop} {self : CodeFn} {join : β → β → β} {ro0 : Option Nat} {nt fl : Nat} {ops : Array Oper} {items : List Item}
 {σ0 : Sg} {h0 : Tr EO} {nx0 : Nat} {w0 : World} {rem : List Item} {dW : Nat} {T : Fr} {h : Tr EO} {A : Aside} {nx E : Nat} {s : Array Bool} {a : Act} {w : World} {σ : Sg} {hs : Tr EO}
theorem stopE_spec (hf : ¬ G fail) {k : Fr → Aside → Nat → Nat → β} (D : DInv tab ro0 nt fl ops items σ0 h0 nx0 w0 rem dW T h A nx E s a w σ hs) (hg : G (stopE tab self fail nt ops items rem dW T h A nx E k)) :
 ∃ T' A' nx' E', G (k T' A' nx' E') ∧ DInv tab ro0 nt fl ops items σ0 h0 nx0 w0 rem dW T' h A' nx' E' s a w σ hs ∧ ∀ x ∈ items, okAt tab self ops rem dW T' h A' E' x = true := by
 unfold stopE at hg
 obtain ⟨T', A', nx', E', g1, g2, g3, g4, g5, g6, g7, g8, g9⟩ := prepE_spec (items := items) hf hg (fun x hx => hx) (fun q hq => (D.aX q hq).2.1) D.aP
 cases hok : items.all (okAt tab self ops rem dW T' h A' E') with
 | false => rw [hok] at g1; exact absurd g1 hf
 | true =>
  rw [hok] at g1
  refine ⟨T', A', nx', E', g1, ?_, List.all_eq_true.1 hok⟩
  have new : ∀ q ∈ A', q ∉ A → s.getD q.1 false = false ∧ nx ≤ q.2.1 ∧ q.2.1 < nx' := by
   intro q hq hn
   rcases g5 q hq with h1 | ⟨h1, h2, h3, _, x, hx, h4, h5⟩
   · exact absurd h1 hn
   · refine ⟨?_, h1, h2⟩
     cases hd : s.getD q.1 false with
     | false => rfl
     | true =>
      have := D.ev x hx h5 (by rw [h4]; exact hd)
      rw [h4, h3] at this; cases this
  exact {
   size := D.size
   clo := D.clo
   remIn := D.remIn
   chIn := D.chIn
   dw := D.dw
   ev := fun x hx h1 h2 => g3 _ (D.ev x hx h1 h2)
   post := D.post.more g2
   hsG := fun id b => by
    rw [D.hsG]
    constructor
    · rintro (h | ⟨i, hi, hd⟩)
      · exact .inl h
      · exact .inr ⟨i, g6 _ hi, hd⟩
    · rintro (h | ⟨i, hi, hd⟩)
      · exact .inl h
      · by_cases hA : (i, id, b) ∈ A
        · exact .inr ⟨i, hA, hd⟩
        · have := (new _ hi hA).1
          rw [hd] at this; cases this
   aX := fun q hq => by
    by_cases hA : q ∈ A
    · obtain ⟨a1, a2, a3, a4⟩ := D.aX q hA
      exact ⟨a1, Nat.lt_of_lt_of_le a2 g2, a3, a4⟩
    · obtain ⟨b1, b2, b3⟩ := new q hq hA
      have hσ : σ q.2.1 = none := D.post.fresh _ b2
      refine ⟨Nat.le_trans D.post.nxle b2, b3, ?_, fun _ => hσ⟩
      have := D.post.holds.dom hσ
      cases hg : h.get q.2.1 with
      | none => rfl
      | some b => rw [(D.hsG _ _).2 (.inl hg)] at this; cases this
   aP := g7
   aN := fun q hq => by
    rcases g5 q hq with h1 | ⟨_, _, _, _, h5⟩
    · exact D.aN q h1
    · exact h5
   remP := D.remP
   defers := by rw [g8]; exact D.defers
   ro := g9.trans D.ro
   tsz := D.tsz
   tr := fun d hd => by
    rw [g4 d (fun x hx h1 h2 => hd x hx (by
     cases hdn : s.getD x.1 false with
     | false => rfl
     | true => rw [D.ev x hx h1 hdn] at h2; cases h2))]
    exact D.tr d hd }
theorem DInv.move {i : Nat} {o : Oper} {m : Nat} {σ' : Sg} {hs' : Tr EO} {w' : World} {v' : Value} (D : DInv tab ro0 nt fl ops items σ0 h0 nx0 w0 rem dW T h A nx E s a w σ hs) (hit : ∀ x ∈ items, ops[x.1]? = some x.2.1) (hx : (i, o, m) ∈ items)
 (hch : isCh tab o.op = false) (hi : i ∈ Region.ready .any ops s) (hE : hasBit E i = true) (hd : ∀ d, o.dst = some d → d < nt) (hle : Le σ σ') (hp : Post fl σ0 h0 nx0 w0 σ' hs' nx w')
 (hG : ∀ id b, hs'.get id = some b ↔ (h.get id = some b ∨ ∃ j, (j, id, b) ∈ A ∧ (s.setIfInBounds i true).getD j false = true)) (hX : ∀ q ∈ A, (s.setIfInBounds i true).getD q.1 false = false → σ' q.2.1 = none)
 (hv : ∀ d, o.dst = some d → VR σ' ((T.get d).getD undefE) v') : DInv tab ro0 nt fl ops items σ0 h0 nx0 w0 rem dW T h A nx E (s.setIfInBounds i true) (a.put o.dst v') w' σ' hs' := by
 obtain ⟨hun, oi, hoi, hall⟩ := mem_ready.1 hi
 have hio : oi = o := Option.some.inj (hoi.symm.trans (hit _ hx))
 subst hio
 have hun' := getDF hun
 have keep : ∀ j, s.getD j false = true → (s.setIfInBounds i true).getD j false = true := fun j hj => getD_set_true hj
 exact {
  size := by rw [Array.size_setIfInBounds]; exact D.size
  clo := fun j oj hj hl e he hb => by
   by_cases hij : i = j
   · subst hij
     have : oj = oi := Option.some.inj (hj.symm.trans hoi)
     subst this
     exact keep _ (hall e he hb)
   · rw [getD_set_ne false hij] at hl
     exact keep _ (D.clo j oj hj hl e he hb)
  remIn := fun r hr => by
   obtain ⟨r1, r2, r3⟩ := D.remIn r hr
   have : i ≠ r.1 := fun e => by
    subst e
    have h1 := hit r r1
    have h2 := hit _ hx
    simp only at h2
    rw [h1] at h2
    rw [Option.some.inj h2, hch] at r2; cases r2
   exact ⟨r1, r2, by rw [getD_set_ne false this]; exact r3⟩
  chIn := fun x hx hc => (D.chIn x hx hc).imp (fun h => h) (keep _)
  dw := fun j hj => keep _ (D.dw j hj)
  ev := fun x hx hc hl => by
   by_cases hij : i = x.1
   · rw [← hij]; exact hE
   · rw [getD_set_ne false hij] at hl
     exact D.ev x hx hc hl
  post := hp
  hsG := hG
  aX := fun q hq => by
   obtain ⟨a1, a2, a3, _⟩ := D.aX q hq
   exact ⟨a1, a2, a3, hX q hq⟩
  aP := D.aP
  aN := D.aN
  remP := D.remP
  defers := by cases oi.dst <;> exact D.defers.mono hle
  ro := D.ro
  tsz := by cases oi.dst <;> simp [Act.put, D.tsz]
  tr := fun d hdn => by
   by_cases hdd : oi.dst = some d
   · rw [hdd]
     have hlt : d < a.tmps.size := by rw [D.tsz]; exact hd d hdd
     have : (a.put (some d) v').tmps.getD d undef = v' := by simp [Act.put, hlt]
     rw [this]
     exact hv d hdd
   · have e1 : (a.put oi.dst v').tmps.getD d undef = a.tmps.getD d undef := by
      cases ho : oi.dst with
      | none => rfl
      | some d' =>
       have : d' ≠ d := fun h => hdd (by rw [ho, h])
       simp only [Act.put, Array.getD_eq_getD_getElem?, Array.getElem?_setIfInBounds]
       rw [if_neg this]
     rw [e1]
     refine (D.tr d fun x hx hun2 => ?_).mono hle
     by_cases hij : i = x.1
     · have : x.2.1 = oi := by
        have h1 := hit x hx
        rw [← hij, hoi] at h1
        exact (Option.some.inj h1).symm
       rw [this]; exact hdd
     · exact hdn x hx (by rw [getD_set_ne false hij]; exact hun2) }
end
end Go.Proofs.YtendekbckfpmgaaGreat
namespace Go.Proofs.YtendekbckfpmgaaGreat
open Go Go.RowKit
theorem statOk_spec {ops : Array Oper} {nt : Nat} {items : List Item} (h : statOk ops nt items = true) {x : Item} (hx : x ∈ items) :
 (∀ t ∈ x.2.1.looksAt ops, ∀ y ∈ items, y.2.1.dst = some t → hasBit x.2.2 y.1 = true) ∧ (∀ y ∈ items, y.1 ≠ x.1 → ∀ d, x.2.1.dst = some d → y.2.1.dst ≠ some d) ∧
  (∀ e ∈ x.2.1.after, Region.binds .any e = true → e.on < x.1) ∧ (∀ d, x.2.1.dst = some d → d < nt) := by
 have := List.all_eq_true.1 h x hx
 simp only [Bool.and_eq_true] at this
 obtain ⟨⟨⟨h1, h2⟩, h3⟩, h4⟩ := this
 refine ⟨fun t ht y hy hd => ?_, fun y hy hne d hd hd' => ?_, fun e he hb => ?_, fun d hd => ?_⟩
 · have := List.all_eq_true.1 (List.all_eq_true.1 h1 t ht) y hy
   simpa [dstIsN, hd] using this
 · have := List.all_eq_true.1 h2 y hy
   simp only [Bool.or_eq_true] at this
   rcases this with h | h
   · exact hne (Nat.eq_of_beq_eq_true h)
   · rw [hd, hd'] at h
     simp [dstApart] at h
 · have := List.all_eq_true.1 h3 e (by simpa using he)
   simp only [hb, Bool.not_true, Bool.false_or] at this
   simpa [Nat.blt, Nat.succ_le_iff] using this
 · rw [hd] at h4
   simpa [dstLt, Nat.blt, Nat.succ_le_iff] using h4
theorem aOf_nil {A : Aside} {i : Nat} (h : (match aOf A i with | [] => true | _ => false) = true) : ∀ q ∈ A, q.1 ≠ i := by
 intro q hq e
 have : q ∈ aOf A i := List.mem_filter.2 ⟨hq, by rw [e]; simp⟩
 split at h
 · rename_i h0; rw [h0] at this; cases this
 · cases h
theorem aOf_one {A : Aside} {i : Nat} {q : Nat × Nat × EO} (h : aOf A i = [q]) : q ∈ A ∧ q.1 = i ∧ ∀ r ∈ A, r.1 = i → r = q := by
 have h1 : q ∈ aOf A i := by rw [h]; simp
 have h2 := List.mem_filter.1 h1
 refine ⟨h2.1, Nat.eq_of_beq_eq_true h2.2, fun r hr e => ?_⟩
 have : r ∈ aOf A i := List.mem_filter.2 ⟨hr, by rw [e]; simp⟩
 rw [h] at this
 simpa using this
theorem dstIs_spec {T : Fr} {d : Option Nat} {v : EV} (h : dstIs T d v = true) : ∀ x, d = some x → (T.get x).getD undefE = v := by
 intro x hx
 subst hx
 simp only [dstIs] at h
 cases hT : T.get x with
 | none => rw [hT] at h; cases h
 | some u => rw [hT] at h; rw [Option.getD_some]; exact sameE_eq _ _ h
section
variable {P : Program} {tab : Tab} {β : Type} {fail : β} {G : β → Prop} (hf : ¬ G fail) (hT : TabOk P tab) {self : CodeFn} (hS : SoundC P tab self) {join : β → β → β} (hj : ∀ x y, G (join x y) → G x ∧ G y)
 {ro0 : Option Nat} {nt fl : Nat} {ops : Array Oper} {items : List Item} {σ0 : Sg} {h0 : Tr EO} {nx0 : Nat} {w0 : World} {k : Fr → Tr EO → Nat → β}
def Inv (ro0 : Option Nat) (G : β → Prop) (tab : Tab) (self : CodeFn) (fail : β) (join : β → β → β) (nt fl : Nat) (ops : Array Oper) (items : List Item) (σ0 : Sg) (h0 : Tr EO) (nx0 : Nat) (w0 : World) (k : Fr → Tr EO → Nat → β) (s : Array Bool) (a : Act) (w : World) : Prop :=
 ∃ rem dW T h A nx E σ hs, G (goE tab self fail join nt fl ops items rem dW T h A nx E k) ∧ DInv tab ro0 nt fl ops items σ0 h0 nx0 w0 rem dW T h A nx E s a w σ hs ∧ ∀ x ∈ items, okAt tab self ops rem dW T h A E x = true
include hf hT hS hj in
theorem inv_step {r : Option Nat} {Q : Exit → Act → World → Prop} (hst : statOk ops nt items = true) (hit : ∀ s : Array Bool, s.size = ops.size → Clo ops s → ∀ x ∈ items, ops[x.1]? = some x.2.1 ∧ ((∀ e ∈ x.2.1.after, Region.binds .any e = true → s.getD e.on false = true) → ∀ q, hasBit x.2.2 q = true → s.getD q false = true))
 (hmem : ∀ i o, ops[i]? = some o → ∃ m, (i, o, m) ∈ items) (hgl : GlOk tab σ0) (hfl : fl ≤ nx0) (s : Array Bool) (a : Act) (w : World) (i : Nat) (I : Inv ro0 G tab self fail join nt fl ops items σ0 h0 nx0 w0 k s a w) (hi : i ∈ Region.ready .any ops s) :
 wpOpIn (WF r) 0 P ops Q i (Inv ro0 G tab self fail join nt fl ops items σ0 h0 nx0 w0 k (s.setIfInBounds i true)) a w := by
 obtain ⟨rem, dW, T, h, A, nx, E, σ, hs, hg, D, hok⟩ := I
 obtain ⟨hun, o, ho, hall⟩ := mem_ready.1 hi
 obtain ⟨hunF, hilt⟩ := getDF hun
 obtain ⟨m, hx⟩ := hmem i o ho
 have hit' : ∀ x ∈ items, ops[x.1]? = some x.2.1 := fun x hx => (hit s D.size D.clo x hx).1
 have hbits : ∀ q, hasBit m q = true → s.getD q false = true := (hit s D.size D.clo _ hx).2 hall
 obtain ⟨st1, st2, st3, st4⟩ := statOk_spec hst hx
 simp only at st1 st2 st3 st4
 have hgl' : GlOk tab σ := hgl.mono D.post.le
 -- what is looked at is there
 have look : ∀ t ∈ o.looksAt ops, VR σ ((T.get t).getD undefE) (a.tmps.getD t undef) := fun t ht => D.tr t fun y hy hy2 hd => by
  have := hbits _ (st1 t ht y hy hd)
  rw [hy2] at this; cases this
 have hops : ∀ x ∈ o.op.operands.toList, OpRel σ T a x := by
  intro x hx
  cases x with
  | tmp t => exact look t (by unfold Oper.looksAt; exact List.mem_append_left _ (List.mem_filterMap.2 ⟨.tmp t, hx, rfl⟩))
  | _ => trivial
 have hguard : ∀ j want p d, o.guard = some (j, want) → ops[j]? = some p → p.dst = some d → VR σ ((T.get d).getD undefE) (a.tmps.getD d undef) := fun j want p d h1 h2 h3 =>
  look d (by unfold Oper.looksAt; refine List.mem_append_right _ ?_; rw [h1]; simp [h2, h3])
 unfold wpOpIn
 simp only [ho]
 cases hch : isCh tab o.op with
 | false =>
  have hfree : freeB rem m = true := List.all_eq_true.2 fun r hr => by
   cases hb : hasBit m r.1 with
   | false => rfl
   | true =>
    have h1 := hbits _ hb
    rw [(D.remIn r hr).2.2] at h1; cases h1
  have hdW : hasBit dW i = false := by
   cases hb : hasBit dW i with
   | false => rfl
   | true =>
    have h1 := D.dw _ hb
    rw [hunF] at h1; cases h1
  have hokx := hok _ hx
  unfold okAt at hokx
  simp only [hch, hfree, hdW, Bool.not_true, Bool.or_self, Bool.false_or, Bool.and_eq_true] at hokx
  obtain ⟨hE, hokx⟩ := hokx
  have setOther : ∀ q ∈ A, q.1 ≠ i → (s.setIfInBounds i true).getD q.1 false = s.getD q.1 false := fun q _ hne => getD_set_ne false (Ne.symm hne)
  -- a step that leaves the heap
  have stay : ∀ (e : EV) (e' : Value), VR σ e e' → dstIs T o.dst e = true → (∀ q ∈ A, q.1 ≠ i) → Inv ro0 G tab self fail join nt fl ops items σ0 h0 nx0 w0 k (s.setIfInBounds i true) (a.put o.dst e') w := by
   intro e e' hv hd hA
   refine ⟨rem, dW, T, h, A, nx, E, σ, hs, hg, D.move hit' hx hch hi hE st4 (Le.refl _) D.post (fun id b => ?_) (fun q hq hq2 => ?_) (fun d hdd => ?_), hok⟩
   · rw [D.hsG]
     constructor
     · rintro (h | ⟨j, hj, hd⟩)
       · exact .inl h
       · exact .inr ⟨j, hj, getD_set_true hd⟩
     · rintro (h | ⟨j, hj, hd⟩)
       · exact .inl h
       · exact .inr ⟨j, hj, by rw [← setOther _ hj (hA _ hj)]; exact hd⟩
   · exact (D.aX q hq).2.2.2 (by rw [← setOther q hq (hA q hq)]; exact hq2)
   · rw [dstIs_spec hd d hdd]; exact hv
  cases hw : wantedE ops T o with
  | none => rw [hw] at hokx; cases hokx
  | some b =>
   rw [hw] at hokx
   have hwn := wantedE_spec (a := a) (σ := σ) hw hguard
   cases b with
   | false =>
    simp only [Bool.and_eq_true] at hokx
    rw [if_neg (by rw [hwn]; simp)]
    exact ⟨fun _ _ => trivial, stay undefE undef (undefE_spec σ) hokx.1 (aOf_nil hokx.2)⟩
   | true =>
    rw [if_pos hwn]
    have hnd : ∀ c, o.op ≠ .defer c := fun c hc => by rw [hc] at hch; cases hch
    cases hm : mkOp o.op with
    | false =>
     simp only [hm, cond_false] at hokx
     obtain ⟨hcv, hrd⟩ : cvB tab o.op = false ∧ rdOp o.op = true := by
      unfold isCh at hch
      rw [hm] at hch
      simpa using hch
     cases hr : rdV tab self o T h with
     | none => rw [hr] at hokx; cases hokx
     | some v =>
      rw [hr] at hokx
      simp only [Bool.and_eq_true] at hokx
      have Hh : Holds σ h w := D.post.holds.sub fun id b hb => (D.hsG id b).2 (.inl hb)
      obtain ⟨e, e', h1, h2, h3⟩ := rdE_spec (G := fun r : Option EV => r = some v) (w := w) (a := a) (fun h => by cases h) hT hrd hcv hr hops hgl' Hh
      have : e = v := Option.some.inj h3
      subst this
      exact Oper.wp_of_flow hnd (flow_value (R := fun v' w' => v' = e' ∧ w' = w) h1 ⟨rfl, rfl⟩) fun v' w' ⟨e1, e2⟩ => by
       subst e1; subst e2
       exact stay e v' h2 hokx.1 (aOf_nil hokx.2)
    | true =>
     simp only [hm, cond_true] at hokx
     split at hokx
     · rename_i q hq
       obtain ⟨q1, q2, q3⟩ := aOf_one hq
       obtain ⟨a1, a2, a3, a4⟩ := D.aX q q1
       have hσ : σ q.2.1 = none := a4 (by rw [q2]; exact hunF)
       cases hr : mkV tab self o T q.2.1 with
       | none => rw [hr] at hokx; cases hokx
       | some p =>
        rw [hr] at hokx
        simp only [Bool.and_eq_true] at hokx
        obtain ⟨v, blk, h', e1, e2, v', w', loc, ob, m1, m2, m3, m4, m5, m6, m7, m8⟩ := mkE_spec (G := fun r : Option (EV × EO) => r = some p) (w := w) (a := a) (fun h => by cases h) hT hm hr hops hgl' hσ
        have hget : h'.get q.2.1 = some blk := by rw [e1, if_pos rfl]
        simp only [hget] at e2
        have ep : (v, blk) = p := Option.some.inj e2
        subst ep
        have eb := sameO_eq hokx.2
        simp only at eb
        obtain ⟨hs', es, hp⟩ := D.post.late hfl a1 a2 hσ m2 m3 m4 m5 m6 m8
        refine Oper.wp_of_flow hnd (flow_value (R := fun u w2 => u = v' ∧ w2 = w') m1 ⟨rfl, rfl⟩) fun u w2 ⟨x1, x2⟩ => ?_
        subst x1; subst x2
        refine ⟨rem, dW, T, h, A, nx, E, _, hs', hg, D.move hit' hx hch hi hE st4 (Le.upd hσ loc) hp (fun id b => ?_) (fun r hr hr2 => ?_) (fun d hdd => ?_), hok⟩
        · rw [es]
          by_cases hid : id = q.2.1
          · rw [if_pos hid]
            constructor
            · intro hb
              right
              refine ⟨q.1, ?_, by rw [q2]; exact getD_set_at hilt⟩
              have : q = (q.1, id, b) := by
               obtain ⟨x, y, z⟩ := q
               simp only at hid eb hb ⊢
               rw [hid, ← eb, Option.some.inj hb]
              rw [← this]; exact q1
            · rintro (hb | ⟨j, hj, _⟩)
              · rw [hid, a3] at hb; cases hb
              · have := D.aP.uniq hj q1 hid
                rw [← this] at eb
                rw [eb]
          · rw [if_neg hid, D.hsG]
            constructor
            · rintro (hb | ⟨j, hj, hd⟩)
              · exact .inl hb
              · exact .inr ⟨j, hj, getD_set_true hd⟩
            · rintro (hb | ⟨j, hj, hd⟩)
              · exact .inl hb
              · right
                have hne : j ≠ i := fun e => by
                 have := q3 _ hj (by rw [e])
                 rw [← this] at hid
                 exact hid rfl
                exact ⟨j, hj, by rw [← getD_set_ne false (Ne.symm hne)]; exact hd⟩
        · have hne : r.1 ≠ i := fun e => by
           rw [e, getD_set_at hilt] at hr2; cases hr2
          have hrX : r.2.1 ≠ q.2.1 := fun e => by
           have := D.aP.uniq hr q1 e
           rw [this] at hne; exact hne q2
          rw [upd_other σ loc hrX]
          exact (D.aX r hr).2.2.2 (by rw [← getD_set_ne false (Ne.symm hne)]; exact hr2)
        · rw [dstIs_spec hokx.1 d hdd]; exact m7
     · cases hokx
 | true =>
  -- an operation that writes is the first of those that are left
  rcases D.chIn _ hx hch with hr | hd
  case inr => rw [hunF] at hd; cases hd
  cases rem with
  | nil => cases hr
  | cons r rest =>
   simp only [goE] at hg
   cases hc : rest.all (fun q => hasBit q.2.2 r.1) with
   | false => rw [hc] at hg; exact absurd hg hf
   | true =>
    rw [hc] at hg
    simp only [cond_true] at hg
    have hrx : (i, o, m) = r := by
     cases hr with
     | head => rfl
     | tail _ hr =>
      have h1 := List.all_eq_true.1 hc _ hr
      have h2 := hbits _ h1
      rw [(D.remIn r (List.mem_cons_self ..)).2.2] at h2; cases h2
    subst hrx
    simp only at hg
    obtain ⟨hW, hg, eW⟩ := mergeE_spec hf hg D.aP (fun q hq => (D.aX q hq).2.2.1)
    -- the blocks that still float
    have hF0 : ∀ q ∈ A.filter (fun q => not (hasBit m q.1)), q ∈ A ∧ hasBit m q.1 = false := fun q hq => by
     have := List.mem_filter.1 hq
     exact ⟨this.1, by simpa using this.2⟩
    have hWle : ∀ id b, hW.get id = some b → hs.get id = some b := fun id b hb => by
     rcases (eW id b).1 hb with h1 | ⟨j, h1, h2⟩
     · exact (D.hsG id b).2 (.inl h1)
     · exact (D.hsG id b).2 (.inr ⟨j, h1, hbits _ h2⟩)
    have hWnone : ∀ q ∈ A.filter (fun q => not (hasBit m q.1)), hW.get q.2.1 = none := fun q hq => by
     obtain ⟨h1, h2⟩ := hF0 q hq
     cases hb : hW.get q.2.1 with
     | none => rfl
     | some b =>
      rcases (eW _ b).1 hb with h3 | ⟨j, h3, h4⟩
      · rw [(D.aX q h1).2.2.1] at h3; cases h3
      · have := D.aP.uniq h3 h1 rfl
        rw [← this] at h2
        simp only at h2
        rw [h4] at h2; cases h2
    have hpF : AP (A.filter fun q => not (hasBit m q.1)) := List.Pairwise.filter _ D.aP
    have hgWs : ∀ id b, hs.get id = some b ↔ (hW.get id = some b ∨ ∃ j, (j, id, b) ∈ (A.filter fun q => not (hasBit m q.1)) ∧ s.getD j false = true) := by
     intro id b
     rw [D.hsG, eW]
     constructor
     · rintro (hb | ⟨j, hj, hd⟩)
       · exact .inl (.inl hb)
       · cases hm : hasBit m j with
         | true => exact .inl (.inr ⟨j, hj, hm⟩)
         | false => exact .inr ⟨j, List.mem_filter.2 ⟨hj, by simp [hm]⟩, hd⟩
     · rintro ((hb | ⟨j, hj, hm⟩) | ⟨j, hj, hd⟩)
       · exact .inl hb
       · exact .inr ⟨j, hj, hbits _ hm⟩
       · exact .inr ⟨j, (hF0 _ hj).1, hd⟩
    have hsame : ∀ x ∈ items, x.1 = i → x.2.1 = o := fun x hx e => by
     have h1 := hit' x hx
     rw [e, ho] at h1
     exact (Option.some.inj h1).symm
    have hnoti : ∀ q ∈ A, q.1 ≠ i := fun q hq e => by
     obtain ⟨x, h1, h2, h3⟩ := D.aN q hq
     rw [hsame x h1 (h2.trans e), hch] at h3; cases h3
    have hrest : ∀ r ∈ rest, r.1 ≠ i := fun r hr e => (List.pairwise_cons.1 D.remP).1 r hr e.symm
    -- the next state, from what the operation leaves
    have next : ∀ (v : EV) (v' : Value) (T1 : Fr) (h1 : Tr EO) (nx1 : Nat) (σ1 : Sg) (w1 : World), Post fl σ hW nx w σ1 h1 nx1 w1 → VR σ1 v v' → (∀ d, T1.get d = if o.dst = some d then some v else T.get d) → T1.D = T.D → T1.ro = T.ro →
     G (stopE tab self fail nt ops items rest (Nat.lor m (Nat.pow 2 i)) T1 h1 (A.filter fun q => not (hasBit m q.1)) nx1 E fun T A nx E => goE tab self fail join nt fl ops items rest (Nat.lor m (Nat.pow 2 i)) T h1 A nx E k) →
     Inv ro0 G tab self fail join nt fl ops items σ0 h0 nx0 w0 k (s.setIfInBounds i true) (a.put o.dst v') w1 := by
     intro v v' T1 h1 nx1 σ1 w1 hp hv hT1 hD1 hR1 hg1
     obtain ⟨hs', es', hp'⟩ := hp.framed (hs := hs) (F := (A.filter fun q => not (hasBit m q.1)).filter fun q => s.getD q.1 false) D.post.holds (by unfold AP at hpF ⊢; exact hpF.filter _) (fun id b => by
      rw [hgWs]
      constructor
      · rintro (hb | ⟨j, hj, hd⟩)
        · exact .inl hb
        · exact .inr ⟨j, List.mem_filter.2 ⟨hj, hd⟩⟩
      · rintro (hb | ⟨j, hj⟩)
        · exact .inl hb
        · have := List.mem_filter.1 hj
          exact .inr ⟨j, this.1, this.2⟩) (fun q hq => by
      have h2 := (List.mem_filter.1 hq).1
      exact ⟨hWnone q h2, (D.aX q (hF0 q h2).1).2.1⟩)
     have keep : ∀ j, s.getD j false = true → (s.setIfInBounds i true).getD j false = true := fun j hj => getD_set_true hj
     have D1 : DInv tab ro0 nt fl ops items σ0 h0 nx0 w0 rest (Nat.lor m (Nat.pow 2 i)) T1 h1 (A.filter fun q => not (hasBit m q.1)) nx1 E (s.setIfInBounds i true) (a.put o.dst v') w1 σ1 hs' := {
      size := by rw [Array.size_setIfInBounds]; exact D.size
      clo := fun j oj hj hl e he hb => by
       by_cases hij : i = j
       · subst hij
         have : oj = o := Option.some.inj (hj.symm.trans ho)
         subst this
         exact keep _ (hall e he hb)
       · rw [getD_set_ne false hij] at hl
         exact keep _ (D.clo j oj hj hl e he hb)
      remIn := fun r hr => by
       obtain ⟨r1, r2, r3⟩ := D.remIn r (List.mem_cons_of_mem _ hr)
       exact ⟨r1, r2, by rw [getD_set_ne false (Ne.symm (hrest r hr))]; exact r3⟩
      chIn := fun x hx hc => by
       rcases D.chIn x hx hc with h2 | h2
       · cases h2 with
         | head => exact .inr (getD_set_at hilt)
         | tail _ h2 => exact .inl h2
       · exact .inr (keep _ h2)
      dw := fun j hj => by
       rw [hasBit_lor, hasBit_pow, Bool.or_eq_true, decide_eq_true_eq] at hj
       rcases hj with h2 | h2
       · exact keep _ (hbits j h2)
       · rw [← h2]; exact getD_set_at hilt
      ev := fun x hx hc hl => by
       have hne : i ≠ x.1 := fun e => by rw [hsame x hx e.symm, hch] at hc; cases hc
       rw [getD_set_ne false hne] at hl
       exact D.ev x hx hc hl
      post := D.post.trans hp'
      hsG := fun id b => by
       rw [es']
       constructor
       · rintro (hb | ⟨j, hj⟩)
         · exact .inl hb
         · have := List.mem_filter.1 hj
           exact .inr ⟨j, this.1, keep _ this.2⟩
       · rintro (hb | ⟨j, hj, hd⟩)
         · exact .inl hb
         · rw [getD_set_ne false (Ne.symm (hnoti _ (hF0 _ hj).1))] at hd
           exact .inr ⟨j, List.mem_filter.2 ⟨hj, hd⟩⟩
      aX := fun q hq => by
       obtain ⟨b1, b2, b3, b4⟩ := D.aX q (hF0 q hq).1
       refine ⟨b1, Nat.lt_of_lt_of_le b2 hp.nxle, ?_, fun hq2 => ?_⟩
       · cases hg : h1.get q.2.1 with
         | none => rfl
         | some b =>
          rcases hp.dom q.2.1 (isSome_of hg) with h2 | ⟨h2, _⟩
          · rw [hWnone q hq] at h2; cases h2
          · omega
       · rw [getD_set_ne false (Ne.symm (hnoti _ (hF0 q hq).1))] at hq2
         rw [hp.new _ b2]; exact b4 hq2
      aP := hpF
      aN := fun q hq => D.aN q (hF0 q hq).1
      remP := (List.pairwise_cons.1 D.remP).2
      defers := by rw [hD1]; cases o.dst <;> exact D.defers.mono hp.le
      ro := hR1.trans D.ro
      tsz := by cases o.dst <;> simp [Act.put, D.tsz]
      tr := fun d hdn => by
       by_cases hdd : o.dst = some d
       · rw [hT1, if_pos hdd, hdd]
         have hlt : d < a.tmps.size := by rw [D.tsz]; exact st4 d hdd
         have : (a.put (some d) v').tmps.getD d undef = v' := by simp [Act.put, hlt]
         rw [this, Option.getD_some]
         exact hv
       · have e1 : (a.put o.dst v').tmps.getD d undef = a.tmps.getD d undef := by
          cases ho : o.dst with
          | none => rfl
          | some d' =>
           have : d' ≠ d := fun h => hdd (by rw [ho, h])
           simp only [Act.put, Array.getD_eq_getD_getElem?, Array.getElem?_setIfInBounds]
           rw [if_neg this]
         rw [e1, hT1, if_neg hdd]
         refine (D.tr d fun x hx hun2 => ?_).mono hp.le
         by_cases hij : i = x.1
         · rw [hsame x hx hij.symm]; exact hdd
         · exact hdn x hx (by rw [getD_set_ne false hij]; exact hun2) }
     obtain ⟨T', A', nx', E', g1, g2, g3⟩ := stopE_spec hf D1 hg1
     exact ⟨rest, _, T', h1, A', nx', E', σ1, hs', g1, g2, g3⟩
    have HW : Holds σ hW w := D.post.holds.sub hWle
    have FW : Fresh σ nx := D.post.fresh
    cases hw : wantedE ops T o with
    | none => rw [hw] at hg; exact absurd hg hf
    | some b =>
     rw [hw] at hg
     have hwn := wantedE_spec (a := a) (σ := σ) hw hguard
     cases b with
     | false =>
      simp only at hg
      rw [if_neg (by rw [hwn]; simp)]
      obtain ⟨T1, hg, q1, _, hD1, hR1⟩ := putD_spec hf hg
      exact ⟨fun _ _ => trivial, next undefE undef T1 hW nx σ w (Post.refl HW FW) (undefE_spec σ) q1 hD1 hR1 hg⟩
     | true =>
      simp only at hg
      rw [if_pos hwn]
      have hfl2 := evOp_flow (a := a) (w := w) (σ := σ) hf hT hS hj hg hops hgl' HW FW (Nat.le_trans hfl D.post.nxle)
      refine Oper.wp_of_flow (evOp_nodefer hf hg) hfl2 fun v' w' ⟨v, h1, nx1, σ1, hv, hp, hg⟩ => ?_
      obtain ⟨T1, hg, q1, _, hD1, hR1⟩ := putD_spec hf hg
      exact next v v' T1 h1 nx1 σ1 w' hp hv q1 hD1 hR1 hg
include hf hT hS hj in
theorem evDraw_spec {r : Option Nat} {Q : Exit → Act → World → Prop} {id : Nat} {T : Fr} {h : Tr EO} {nx : Nat} {σ : Sg} {a : Act} {w : World} (hg : G (evDraw tab self fail join nt fl ops T h nx k)) (hTR : TRel σ T nt a) (hgl : GlOk tab σ) (H : Holds σ h w) (F : Fresh σ nx) (hfl : fl ≤ nx)
 (hQ : ∀ T' h' nx' σ' a' w', G (k T' h' nx') → TRel σ' T' nt a' → T'.ro = T.ro → Post fl σ h nx w σ' h' nx' w' → Q .normal a' w') : (Code.region id ops true).wpIn (WF r) 0 P Q a w := by
 unfold evDraw at hg
 cases hst : statOk ops nt (mkItems ops.toList 0 []) with
 | false => rw [hst] at hg; exact absurd hg hf
 | true =>
  rw [hst] at hg
  simp only [cond_true] at hg
  have hit : ∀ s : Array Bool, s.size = ops.size → Clo ops s → ∀ x ∈ mkItems ops.toList 0 [], ops[x.1]? = some x.2.1 ∧ ((∀ e ∈ x.2.1.after, Region.binds .any e = true → s.getD e.on false = true) → ∀ q, hasBit x.2.2 q = true → s.getD q false = true) :=
   fun s hz hc => mkItems_spec hz hc rfl (fun k => by simp) (fun j mj hj => by simp at hj)
  have hmem : ∀ i o, ops[i]? = some o → ∃ m, (i, o, m) ∈ mkItems ops.toList 0 [] := fun i o ho => by
   have := mkItems_mem (l := ops.toList) (i := 0) (j := i) (acc := []) (o := o) (by simpa using ho)
   simpa using this
  have D0 : DInv tab T.ro nt fl ops (mkItems ops.toList 0 []) σ h nx w ((mkItems ops.toList 0 []).filter fun x => isCh tab x.2.1.op) 0 T h [] nx 0 (Array.replicate ops.size false) a { w with drawn := w.drawn + 1 } σ h := {
   size := by simp
   clo := fun j oj _ hl => by rw [getD_repl] at hl; cases hl
   remIn := fun r hr => by
    have := List.mem_filter.1 hr
    exact ⟨this.1, this.2, getD_repl _ _⟩
   chIn := fun x hx hc => .inl (List.mem_filter.2 ⟨hx, hc⟩)
   dw := fun j hj => by rw [hasBit_zero] at hj; cases hj
   ev := fun x _ _ hl => by rw [getD_repl] at hl; cases hl
   post := { Post.refl (fl := fl) H F with holds := H.congr rfl, size := Nat.le_refl _, frame := fun _ _ _ => rfl, os := rfl, tape := rfl, output := rfl }
   hsG := fun id b => by simp
   aX := fun q hq => by cases hq
   aP := List.Pairwise.nil
   aN := fun q hq => by cases hq
   remP := (mkItems_pw _ _ _).filter _
   defers := hTR.defers
   ro := rfl
   tsz := hTR.size
   tr := fun d _ => hTR.at_ d }
  obtain ⟨T', A', nx', E', g1, g2, g3⟩ := stopE_spec hf D0 hg
  refine wpIn_region_any hT.mixed (any_of_inv' (Inv T.ro G tab self fail join nt fl ops (mkItems ops.toList 0 []) σ h nx w k) (fun s a w i I hi => inv_step hf hT hS hj hst hit hmem hgl hfl s a w i I hi) ?_ _ _ _ _
   (by unfold unls; exact Nat.le_trans List.countP_le_length (by simp)) ⟨_, _, T', h, A', nx', E', σ, h, g1, g2, g3⟩)
  -- the end
  intro s a w2 ⟨rem, dW, T2, h2, A, nx2, E, σ2, hs, hg, D, hok⟩ hnil
  have hdone : ∀ n i, i < n → i < ops.size → s.getD i false = true := by
   intro n
   induction n with
   | zero => intro i h; omega
   | succ n ih =>
    intro i hi hsz
    cases hd : s.getD i false with
    | true => rfl
    | false =>
     have ho : ops[i]? = some ops[i] := by simp [hsz]
     obtain ⟨m, hx⟩ := hmem i _ ho
     have hr : i ∈ Region.ready .any ops s := mem_ready.2 ⟨getDB (by rw [D.size]; exact hsz) hd, _, ho, fun e he hb => by
      have h1 := (statOk_spec hst hx).2.2.1 e he hb
      simp only at h1
      exact ih e.on (by omega) (by omega)⟩
     rw [hnil] at hr; cases hr
  have hall : ∀ x ∈ mkItems ops.toList 0 [], s.getD x.1 false = true := fun x hx => by
   have h1 := (hit s D.size D.clo x hx).1
   have h2 := (Array.getElem?_eq_some_iff.1 h1).1
   exact hdone (x.1 + 1) x.1 (by omega) h2
  cases rem with
  | cons r rest =>
   have := D.remIn r (List.mem_cons_self ..)
   rw [hall r this.1] at this; cases this.2.2
  | nil =>
   simp only [goE] at hg
   obtain ⟨hF, hg, eF⟩ := mergeE_spec hf hg D.aP (fun q hq => (D.aX q hq).2.2.1)
   have he : ∀ id, hF.get id = hs.get id := get_eq_of_iff fun id b => by
    rw [eF, D.hsG]
    constructor
    · rintro (hb | ⟨j, hj, _⟩)
      · exact .inl hb
      · refine .inr ⟨j, hj, ?_⟩
        obtain ⟨x, h1, h2, _⟩ := D.aN _ hj
        have h3 := hall x h1
        rw [h2] at h3
        exact h3
    · rintro (hb | ⟨j, hj, _⟩)
      · exact .inl hb
      · exact .inr ⟨j, hj, rfl⟩
   exact hQ T2 hF nx2 σ2 a w2 hg ⟨D.defers, D.tsz, fun d => D.tr d fun x hx hun => by rw [hall x hx] at hun; cases hun⟩ D.ro (D.post.congr he)
end
end Go.Proofs.YtendekbckfpmgaaGreat
namespace Go.Proofs.YtendekbckfpmgaaGreat
open Go Go.RowKit
section
variable (tab : Tab) (self : CodeFn) {β : Type} (fail : β) (join : β → β → β)
def codeStep (nt fl : Nat) (c : Code) (T : Fr) (h : Tr EO) (nx : Nat) (k : Ex → Fr → Tr EO → Nat → β) : β :=
 match c with
 | .skip => k .normal T h nx
 | .region _ ops d => bif d then evDraw tab self fail join nt fl ops T h nx (k .normal) else evOps tab self fail join nt fl ops ops.toList T h nx (k .normal)
 | .seq a b => self β fail join nt fl a T h nx fun e T h nx => match e with
  | .normal => self β fail join nt fl b T h nx k
  | .exit i => k (.exit i) T h nx
  | .ret => k .ret T h nx
 | .cond c a b => evx tab fail T c fun v => match v with
  | .bool t => bif t then self β fail join nt fl a T h nx k else self β fail join nt fl b T h nx k
  | .unkB => join (self β fail join nt fl a T h nx k) (self β fail join nt fl b T h nx k)
  | _ => fail
 | .block id b => self β fail join nt fl b T h nx fun e T h nx => match e with
  | .exit j => bif Nat.beq j id then k .normal T h nx else k (.exit j) T h nx
  | .normal => k .normal T h nx
  | .ret => k .ret T h nx
 | .loop b => self β fail join nt fl b T h nx fun e T h nx => match e with
  | .normal => self β fail join nt fl (.loop b) T h nx k
  | .exit i => k (.exit i) T h nx
  | .ret => k .ret T h nx
 | .rangeFunc g ps a b => rangeE tab self fail join nt fl g ps a b T h nx k
 | .exit id => k (.exit id) T h nx
 | .ret => k .ret T h nx
 | _ => fail
end
def run (tab : Tab) (n : Nat) : CodeFn :=
 Nat.rec (motive := fun _ => CodeFn) (fun _ fail _ _ _ _ _ _ _ _ => fail) (fun _ ih _ fail join nt fl c T h nx k => codeStep tab ih fail join nt fl c T h nx k) n
def Res {β : Type} (ro0 : Option Nat) (G : β → Prop) (nt fl : Nat) (k : Ex → Fr → Tr EO → Nat → β) (σ : Sg) (h : Tr EO) (nx : Nat) (w : World) : Exit → Act → World → Prop := fun e a' w' =>
 ∃ ex T' h' nx' σ', ExR ex e ∧ G (k ex T' h' nx') ∧ TRel σ' T' nt a' ∧ T'.ro = ro0 ∧ Post fl σ h nx w σ' h' nx' w'
theorem Res.trans {β : Type} {ro0 : Option Nat} {G : β → Prop} {nt fl : Nat} {k : Ex → Fr → Tr EO → Nat → β} {σ σ1 : Sg} {h h1 : Tr EO} {nx nx1 : Nat} {w w1 : World} (p : Post fl σ h nx w σ1 h1 nx1 w1) {e : Exit} {a : Act} {w' : World} (r : Res ro0 G nt fl k σ1 h1 nx1 w1 e a w') :
 Res ro0 G nt fl k σ h nx w e a w' := by
 obtain ⟨ex, T', h', nx', σ', q1, q2, q3, q0, q4⟩ := r
 exact ⟨ex, T', h', nx', σ', q1, q2, q3, q0, p.trans q4⟩
theorem rounds_mono {P : Program} {F : Fence} {c : Code} {Q Q' : Exit → Act → World → Prop} (hq : ∀ e a w, Q e a w → Q' e a w) : ∀ (n : Nat) (a : Act) (w : World), Code.roundsIn F 0 P c Q n a w → Code.roundsIn F 0 P c Q' n a w
 | 0, _, _, h => h
 | n + 1, a, w, h => by
  refine Code.wpIn_mono (fun e a w h => ?_) h
  cases e with
  | normal => exact rounds_mono hq n a w h
  | _ => exact hq _ _ _ h
def SoundL (P : Program) (tab : Tab) (n : Nat) : Prop :=
 ∀ (β : Type) (fail : β) (join : β → β → β) (G : β → Prop), ¬ G fail → (∀ x y, G (join x y) → G x ∧ G y) → ∀ (nt fl : Nat) (c : Code) (T : Fr) (h : Tr EO) (nx : Nat) (k : Ex → Fr → Tr EO → Nat → β) (σ : Sg) (a : Act) (w : World) (r : Option Nat),
  G (run tab n β fail join nt fl (.loop c) T h nx k) → TRel σ T nt a → (T.ro = none → r = none) → GlOk tab σ → Holds σ h w → Fresh σ nx → fl ≤ nx → Code.roundsIn (WF r) 0 P c (Res T.ro G nt fl k σ h nx w) n a w
theorem run_sound {P : Program} {tab : Tab} (hT : TabOk P tab) : ∀ n : Nat, SoundC P tab (run tab n) ∧ SoundL P tab n
 | 0 => ⟨fun β fail join G hf hj nt fl c T h nx k σ a w r hg => absurd hg hf, fun β fail join G hf hj nt fl c T h nx k σ a w r hg => absurd hg hf⟩
 | n + 1 => by
  obtain ⟨hS, hL⟩ := run_sound hT n
  have loop : SoundL P tab (n + 1) := by
   intro β fail join G hf hj nt fl c T h nx k σ a w r hg HT hro hgl H F hfl
   change G (run tab n β fail join nt fl c T h nx fun e T h nx => match e with
    | .normal => run tab n β fail join nt fl (.loop c) T h nx k
    | .exit i => k (.exit i) T h nx
    | .ret => k .ret T h nx) at hg
   refine Code.wpIn_mono (fun e a' w' hr => ?_) (hS β fail join G hf hj nt fl c T h nx _ σ a w r hg HT hro hgl H F hfl)
   obtain ⟨ex, T', h', nx', σ', q1, q2, q3, q0, q4⟩ := hr
   cases ex with
   | normal =>
    cases e <;> try exact q1.elim
    exact rounds_mono (fun e a w h => h.trans q4) n a' w' (q0 ▸ hL β fail join G hf hj nt fl c T' h' nx' k σ' a' w' r q2 q3 (fun e => hro (q0.symm.trans e)) (hgl.mono q4.le) q4.holds q4.fresh (Nat.le_trans hfl q4.nxle))
   | exit i =>
    cases e <;> try exact q1.elim
    exact ⟨.exit i, T', h', nx', σ', q1, q2, q3, q0, q4⟩
   | ret =>
    cases e <;> try exact q1.elim
    exact ⟨.ret, T', h', nx', σ', q1, q2, q3, q0, q4⟩
  refine ⟨?_, loop⟩
  intro β fail join G hf hj nt fl c T h nx k σ a w r hg HT hro hgl H F hfl
  change c.wpIn (WF r) 0 P (Res T.ro G nt fl k σ h nx w) a w
  change G (codeStep tab (run tab n) fail join nt fl c T h nx k) at hg
  have again : ∀ (c : Code) (T' : Fr) (h' : Tr EO) (nx' : Nat) (k' : Ex → Fr → Tr EO → Nat → β) (σ' : Sg) (a' : Act) (w' : World), G (run tab n β fail join nt fl c T' h' nx' k') → TRel σ' T' nt a' → T'.ro = T.ro → Post fl σ h nx w σ' h' nx' w' → c.wpIn (WF r) 0 P (Res T.ro G nt fl k' σ h nx w) a' w' :=
   fun c T' h' nx' k' σ' a' w' q1 q2 q0 q3 => Code.wpIn_mono (fun e a w h => Res.trans q3 (by obtain ⟨ex, T2, h2, n2, s2, p1, p2, p3, p0, p4⟩ := h; exact ⟨ex, T2, h2, n2, s2, p1, p2, p3, p0.trans q0, p4⟩)) (hS β fail join G hf hj nt fl c T' h' nx' k' σ' a' w' r q1 q2 (fun e => hro (q0.symm.trans e)) (hgl.mono q3.le) q3.holds q3.fresh (Nat.le_trans hfl q3.nxle))
  have now : ∀ (ex : Ex) (e : Exit), ExR ex e → G (k ex T h nx) → Res T.ro G nt fl k σ h nx w e a w := fun ex e q1 q2 => ⟨ex, T, h, nx, σ, q1, q2, HT, rfl, Post.refl H F⟩
  cases c with
  | skip => exact wpIn_skip (now .normal .normal trivial hg)
  | region id ops d =>
   simp only [codeStep] at hg
   cases d with
   | true =>
    exact evDraw_spec hf hT hS hj hg HT hgl H F hfl fun T' h' nx' σ' a' w' q1 q2 q0 q3 => ⟨.normal, T', h', nx', σ', trivial, q1, q2, q0, q3⟩
   | false =>
    exact wpIn_region_list (evOps_spec hf hT hS hj hg HT hgl H F hfl fun T' h' nx' σ' a' w' q1 q2 q0 q3 => ⟨.normal, T', h', nx', σ', trivial, q1, q2, q0, q3⟩)
  | seq x y =>
   simp only [codeStep] at hg
   refine wpIn_seq (Code.wpIn_mono (fun e a' w' hr => ?_) (hS β fail join G hf hj nt fl x T h nx _ σ a w r hg HT hro hgl H F hfl))
   obtain ⟨ex, T', h', nx', σ', q1, q2, q3, q0, q4⟩ := hr
   cases ex with
   | normal =>
    cases e <;> try exact q1.elim
    exact again y T' h' nx' k σ' a' w' q2 q3 q0 q4
   | exit i =>
    cases e <;> try exact q1.elim
    exact ⟨.exit i, T', h', nx', σ', q1, q2, q3, q0, q4⟩
   | ret =>
    cases e <;> try exact q1.elim
    exact ⟨.ret, T', h', nx', σ', q1, q2, q3, q0, q4⟩
  | cond x y z =>
   simp only [codeStep] at hg
   obtain ⟨v, hg, hv⟩ := evx_spec (a := a) hf hg (HT.op x) hgl
   cases v with
   | bool t =>
    simp only [VR] at hv
    refine wpIn_cond hv ?_
    cases t with
    | true => exact again y T h nx k σ a w hg HT rfl (Post.refl H F)
    | false => exact again z T h nx k σ a w hg HT rfl (Post.refl H F)
   | unkB =>
    simp only [VR] at hv
    obtain ⟨t, hv⟩ := hv
    obtain ⟨g1, g2⟩ := hj _ _ hg
    refine wpIn_cond hv ?_
    cases t with
    | true => exact again y T h nx k σ a w g1 HT rfl (Post.refl H F)
    | false => exact again z T h nx k σ a w g2 HT rfl (Post.refl H F)
   | _ => exact absurd hg hf
  | block id b =>
   simp only [codeStep] at hg
   refine wpIn_block (Code.wpIn_mono (fun e a' w' hr => ?_) (hS β fail join G hf hj nt fl b T h nx _ σ a w r hg HT hro hgl H F hfl))
   obtain ⟨ex, T', h', nx', σ', q1, q2, q3, q0, q4⟩ := hr
   cases ex with
   | normal =>
    cases e <;> try exact q1.elim
    exact ⟨.normal, T', h', nx', σ', trivial, q2, q3, q0, q4⟩
   | exit i =>
    cases e <;> try exact q1.elim
    rename_i j
    have : i = j := q1
    subst this
    simp only at q2
    simp only [Exit.inBlock]
    cases hb : Nat.beq i id with
    | true =>
     rw [hb] at q2
     rw [if_pos (Nat.eq_of_beq_eq_true hb)]
     exact ⟨.normal, T', h', nx', σ', trivial, q2, q3, q0, q4⟩
    | false =>
     rw [hb] at q2
     rw [if_neg (fun e => by rw [e, Nat.beq_refl] at hb; cases hb)]
     exact ⟨.exit i, T', h', nx', σ', rfl, q2, q3, q0, q4⟩
   | ret =>
    cases e <;> try exact q1.elim
    exact ⟨.ret, T', h', nx', σ', q1, q2, q3, q0, q4⟩
  | loop b => exact wpIn_loop_rounds (n + 1) (loop β fail join G hf hj nt fl b T h nx k σ a w r hg HT hro hgl H F hfl)
  | rangeFunc g ps x y => exact rangeE_spec hf hT hS hj hg HT hro hgl H F hfl
  | exit id => exact wpIn_exit (now (.exit id) (.exit id) rfl hg)
  | ret => exact wpIn_ret (now .ret .ret trivial hg)
  | _ => exact absurd hg hf
def isTrueE : EV → Bool
 | .bool b => b
 | _ => false
def isSomeB {α : Type} : Option α → Bool
 | some _ => true
 | none => false
def isNil {α : Type} : Tr α → Bool
 | .nil => true
 | _ => false
def lawE (tab : Tab) (n f : Nat) (args : EVs) : Bool := isNil tab.gl && isSomeB (tab.fn.get f) && callE tab (run tab n) false (fun a b => bif a then b else false) 0 f args .nil 0 fun v _ _ => isTrueE v
theorem calls_run {P : Program} {tab : Tab} (hT : TabOk P tab) {n f : Nat} {args : EVs} {args' : Array Value} {w : World} (h : lawE tab n f args = true) (ha : ∀ σ, VRs σ args args'.toList) :
 Calls P f args' w fun e w' => e = .returned (.bool true) ∧ Below w.heap.size w w' := by
 unfold lawE at h
 rw [Bool.and_eq_true, Bool.and_eq_true] at h
 obtain ⟨⟨hgl, hsome⟩, h⟩ := h
 have hgl' : GlOk tab (fun _ => none) := fun g id e => by
  cases hg : tab.gl with
  | nil => rw [hg, Tr.get_nil] at e; cases e
  | node l x r => rw [hg] at hgl; cases hgl
 have H : Holds (fun _ => none) .nil w := ⟨fun id o h => (by rw [Tr.get_nil] at h; cases h), fun i j li lj hi => (by rw [Tr.get_nil] at hi; cases hi)⟩
 cases hfn : tab.fn.get f with
 | none => rw [hfn] at hsome; cases hsome
 | some fn =>
  obtain ⟨_, hc⟩ := callE_enter (G := fun b : Bool => b = true) (args' := args') (w := w) (by simp) hT (run_sound hT n).1 (fun x y => by cases x <;> cases y <;> simp) hfn h (ha _) hgl' H (fun _ _ => rfl) (Nat.le_refl _)
  refine hc.mono fun e w' ⟨v', he, v, h', nx', σ', hv, hp, hb⟩ => ?_
  subst he
  cases v <;> simp only [isTrueE] at hb <;> try (cases hb; done)
  subst hb
  simp only [VR] at hv
  subst hv
  exact ⟨rfl, hp.os, hp.tape, hp.output, hp.size, fun k hk => hp.frame k hk fun id l hi => by rw [Tr.get_nil] at hi; cases hi⟩
end Go.Proofs.YtendekbckfpmgaaGreat
namespace Go.Proofs.YtendekbckfpmgaaGreat
open Go Go.RowKit
mutual
/-- a value of which all is known, and which leads nowhere -/
def backV : EV → Option Value
 | .bool b => some (.bool b)
 | .int k n => some (.int k n)
 | .str s => some (.string ⟨s.toArray⟩)
 | .ptr0 => some (.pointer none)
 | .slice0 => some (.slice none 0 0)
 | .map0 => some (.map none)
 | .func0 => some .nilFunc
 | .iface0 => some .nilIface
 | .agg l => match backVs l with
  | some x => some (.agg x.toArray)
  | none => none
 | _ => none
def backVs : EVs → Option (List Value)
 | .nil => some []
 | .cons v l => match backV v with
  | some x => match backVs l with
   | some y => some (x :: y)
   | none => none
  | none => none
end
mutual
theorem backV_spec (σ : Sg) : ∀ (e : EV) (v : Value), backV e = some v → VR σ e v
 | .bool _, v, h => by simp only [backV, Option.some.injEq] at h; simp only [VR]; exact h.symm
 | .int _ _, v, h => by simp only [backV, Option.some.injEq] at h; simp only [VR]; exact h.symm
 | .str _, v, h => by simp only [backV, Option.some.injEq] at h; simp only [VR]; exact h.symm
 | .ptr0, v, h => by simp only [backV, Option.some.injEq] at h; simp only [VR]; exact h.symm
 | .slice0, v, h => by simp only [backV, Option.some.injEq] at h; simp only [VR]; exact h.symm
 | .map0, v, h => by simp only [backV, Option.some.injEq] at h; simp only [VR]; exact h.symm
 | .func0, v, h => by simp only [backV, Option.some.injEq] at h; simp only [VR]; exact h.symm
 | .iface0, v, h => by simp only [backV, Option.some.injEq] at h; simp only [VR]; exact h.symm
 | .agg l, v, h => by
  simp only [backV] at h
  cases hl : backVs l with
  | none => rw [hl] at h; cases h
  | some x =>
   rw [hl] at h
   simp only [Option.some.injEq] at h
   simp only [VR]
   exact ⟨x.toArray, h.symm, by simpa using backVs_spec σ l x hl⟩
 | .ptr _ _, v, h | .slice _ _ _ _, v, h | .map _, v, h | .func _ _ _, v, h | .iface _ _, v, h | .tup _, v, h | .unkB, v, h | .unkI _, v, h | .unkS, v, h | .unkL, v, h | .unkV, v, h | .rng _ _ _, v, h | .yld _, v, h => by simp only [backV] at h; cases h
theorem backVs_spec (σ : Sg) : ∀ (l : EVs) (m : List Value), backVs l = some m → VRs σ l m
 | .nil, m, h => by simp only [backVs, Option.some.injEq] at h; simp only [VRs]; exact h.symm
 | .cons e l, m, h => by
  simp only [backVs] at h
  cases h1 : backV e with
  | none => rw [h1] at h; cases h
  | some x =>
   cases h2 : backVs l with
   | none => rw [h1, h2] at h; cases h
   | some y =>
    rw [h1, h2] at h
    simp only [Option.some.injEq] at h
    simp only [VRs]
    exact ⟨x, y, h.symm, backV_spec σ e x h1, backVs_spec σ l y h2⟩
end
def Tr.low {α : Type} (N : Nat) : Tr α → (Nat → Nat) → Bool
 | .nil, _ => true
 | .node l x r, f => (match x with | some _ => Nat.blt (f 0) N | none => true) && Tr.low N l (fun j => f (2 * j + 1)) && Tr.low N r (fun j => f (2 * j + 2))
theorem Tr.low_spec {α : Type} {N : Nat} : ∀ {t : Tr α} {f : Nat → Nat}, Tr.low N t f = true → ∀ n v, t.get n = some v → f n < N
 | .nil, f, _, n, v, h => by rw [Tr.get_nil] at h; cases h
 | .node l x r, f, hl, n, v, h => by
  simp only [Tr.low, Bool.and_eq_true] at hl
  rw [Tr.get_node] at h
  by_cases h0 : n = 0
  · rw [if_pos h0] at h
    subst h
    subst h0
    simpa [Nat.blt, Nat.succ_le_iff] using hl.1.1
  · rw [if_neg h0] at h
    by_cases h1 : n % 2 = 1
    · rw [if_pos h1] at h
      have := Tr.low_spec hl.1.2 _ v h
      rwa [show 2 * (n / 2) + 1 = n by omega] at this
    · rw [if_neg h1] at h
      have := Tr.low_spec hl.2 _ v h
      rwa [show 2 * (n / 2 - 1) + 2 = n by omega] at this
theorem callFunc_run {P : Program} {f : FuncId} {fn : Func} (h : P.funcs[f]? = some fn) (hb : fn.body.isNone = false) (hn : (fn.name == "runtime.NumGoroutine") = false) (args : Array Value) (w : World) : (callFunc f args).run P w = .ok (.enter f args) w := by
 unfold callFunc
 simp only [Sem.run_bind, program, Sem.run, Result.andThen_ok, h, hn, hb, Bool.false_eq_true, if_false]
 rfl
def ext0 : Array Value → Sem Value := (Extern.MathBitsCarry.rows.getD 0 ("", fun _ => pure .nilIface)).2
theorem extOk0 {P : Program} {f : FuncId} {fn : Func} (hf : P.funcs[f]? = some fn) (hname : (fn.name == "runtime.NumGoroutine") = false) (hb : fn.body.isNone = true) (hn : Extern.findNext fn = none) (he : Extern.find fn = some ext0) : ExtOk P f 0 := by
 intro x y c w hc
 refine ⟨fun _ => ?_, fun h => absurd h (by decide)⟩
 rw [run_callFunc_extern hf hname hb hn he]
 have : (ext0 #[.int .u64 (Int.ofNat x), .int .u64 (Int.ofNat y), .int .u64 (Int.ofNat c)]).run P w = .ok (.tuple #[.int .u64 (Int.ofNat ((x + y + c) % 18446744073709551616)), .int .u64 (Int.ofNat ((x + y + c) / 18446744073709551616))]) w := by
  obtain rfl | rfl : c = 0 ∨ c = 1 := by omega
  · rfl
  · rfl
 rw [this]
 rfl
def funB (tab : Tab) (n : Nat) : Bool := match tab.fn.get n with
 | some fn => not fn.body.isNone && not (fn.name == "runtime.NumGoroutine")
 | none => true
def fieldsB (P : Program) : List Field → Bool
 | [] => true
 | f :: r => (P.info? f.type).isSome && fieldsB P r
def blankB : List Field → Bool
 | [] => true
 | f :: r => not (f.name == "_") && blankB r
def aggB : TypeDesc → Bool
 | .struct _ => true
 | .array _ _ => true
 | _ => false
def fsOf : TypeDesc → List Field
 | .struct fs => fs.toList
 | _ => []
def tyB (P : Program) (tab : Tab) (t : Nat) : Bool := match tab.ty.get t with
 | none => true
 | some e => match P.info? t with
  | none => false
  | some i => Nat.beq i.size e.size && Nat.beq i.bytes e.bytes && (match i.zero with | some z => Nat.beq z.cells.size e.size | none => false) && (match e.agg, aggB e.desc with | true, true => true | false, false => true | _, _ => false) &&
   (e.eqg || not (P.eqGuardType P.depth t)) && (e.held || (not (P.stoodInHeld t) && blankB (fsOf e.desc))) && fieldsB P (fsOf e.desc)
structure TabChk (P : Program) (tab : Tab) (nT nF : Nat) (exs : List (Nat × Nat)) : Prop where
 tlow : Tr.low nT tab.ty id = true
 flow : Tr.low nF tab.fn id = true
 tys : (List.range nT).all (tyB P tab) = true
 fns : (List.range nF).all (funB tab) = true
 und : (List.range nT).map (fun t => (tab.ty.get t).map (·.desc)) = (List.range nT).map (fun t => bif (tab.ty.get t).isSome then P.underlying t else none)
 zer : (List.range nT).map (fun t => (tab.ty.get t).bind fun e => backV e.zv) = (List.range nT).map (fun t => bif (tab.ty.get t).isSome then (P.info? t).bind (·.zero) else none)
 zcs : (List.range nT).map (fun t => (tab.ty.get t).bind fun e => backVs e.zero) = (List.range nT).map (fun t => bif (tab.ty.get t).isSome then ((P.info? t).bind (·.zero)).map (·.cells.toList) else none)
 fnd : (List.range nF).map (fun f => tab.fn.get f) = (List.range nF).map (fun f => bif (tab.fn.get f).isSome then P.funcs[f]? else none)
 mixed : P.follows .mixedOrders = true
 exl : Tr.low nF tab.ex id = true
 exa : (List.range nF).all (fun f => match tab.ex.get f with | none => true | some n => exs.any fun p => Nat.beq p.1 f && Nat.beq p.2 n) = true
 exo : ∀ p ∈ exs, ExtOk P p.1 p.2
theorem map_at {α β : Type} {f g : α → β} : ∀ {l : List α}, l.map f = l.map g → ∀ x ∈ l, f x = g x
 | [], _, x, hx => by cases hx
 | y :: l, h, x, hx => by
  simp only [List.map_cons, List.cons.injEq] at h
  cases hx with
  | head => exact h.1
  | tail _ hx => exact map_at h.2 x hx
theorem blankB_spec : ∀ {l : List Field}, blankB l = true → ∀ f ∈ l, f.name ≠ "_"
 | [], _, f, h => by cases h
 | g :: l, hb, f, h => by
  simp only [blankB, Bool.and_eq_true] at hb
  cases h with
  | head => intro e; rw [e] at hb; simp at hb
  | tail _ h => exact blankB_spec hb.2 f h
theorem fieldsB_spec {P : Program} : ∀ {l : List Field}, fieldsB P l = true → ∀ f ∈ l, (P.info? f.type).isSome
 | [], _, f, h => by cases h
 | g :: l, hb, f, h => by
  simp only [fieldsB, Bool.and_eq_true] at hb
  cases h with
  | head => exact hb.1
  | tail _ h => exact fieldsB_spec hb.2 f h
theorem TabChk.ok {P : Program} {tab : Tab} {nT nF : Nat} {exs : List (Nat × Nat)} (c : TabChk P tab nT nF exs) : TabOk P tab where
 mixed := c.mixed
 ex := fun f n h => by
  have hlt : f < nF := Tr.low_spec c.exl f n h
  have h1 := List.all_eq_true.1 c.exa f (List.mem_range.2 hlt)
  simp only [h] at h1
  obtain ⟨p, hp, hq⟩ := List.any_eq_true.1 h1
  rw [Bool.and_eq_true] at hq
  have := c.exo p hp
  rw [Nat.eq_of_beq_eq_true hq.1, Nat.eq_of_beq_eq_true hq.2] at this
  exact this
 fn := fun f fn h => by
  have hlt : f < nF := Tr.low_spec c.flow f fn h
  have h1 := map_at c.fnd f (List.mem_range.2 hlt)
  simp only [h, Option.isSome_some, cond_true] at h1
  have h2 := List.all_eq_true.1 c.fns f (List.mem_range.2 hlt)
  unfold funB at h2
  simp only [h, Bool.and_eq_true, Bool.not_eq_true'] at h2
  exact ⟨h1.symm, fun args w => callFunc_run h1.symm h2.1 h2.2 args w⟩
 ty := fun t e h => by
  have hlt : t < nT := Tr.low_spec c.tlow t e h
  have hm := List.mem_range.2 hlt
  have h1 := map_at c.und t hm
  have h2 := map_at c.zer t hm
  have h3 := map_at c.zcs t hm
  have h4 := List.all_eq_true.1 c.tys t hm
  simp only [h, Option.isSome_some, cond_true, Option.map_some, Option.bind_some] at h1 h2 h3
  unfold tyB at h4
  simp only [h] at h4
  cases hi : P.info? t with
  | none => rw [hi] at h4; cases h4
  | some i =>
   rw [hi] at h2 h3 h4
   simp only [Bool.and_eq_true, Option.bind_some] at h4 h2 h3
   obtain ⟨⟨⟨⟨⟨⟨a1, a2⟩, a3⟩, a4⟩, a5⟩, a6⟩, a7⟩ := h4
   cases hz : i.zero with
   | none => rw [hz] at a3; cases a3
   | some z =>
    rw [hz] at a3 h2 h3
    have hfs : ∀ fs, e.desc = .struct fs → fsOf e.desc = fs.toList := fun fs hd => by rw [hd]; rfl
    exact {
     info := ⟨i, z, hi, Nat.eq_of_beq_eq_true a1, Nat.eq_of_beq_eq_true a2, hz, Nat.eq_of_beq_eq_true a3, fun σ => backV_spec σ _ _ h2, fun σ => backVs_spec σ _ _ h3⟩
     und := h1.symm
     agg := by
      have : (match e.desc with | .struct _ | .array _ _ => true | _ => false) = aggB e.desc := by cases e.desc <;> rfl
      refine Eq.trans ?_ this.symm
      cases hx : e.agg <;> cases hy : aggB e.desc <;> rw [hx, hy] at a4 <;> first | rfl | cases a4
     eqg := fun hq => by rw [hq] at a5; simpa using a5
     held := fun hq => by
      rw [hq] at a6
      simp only [Bool.false_or, Bool.and_eq_true, Bool.not_eq_true'] at a6
      exact ⟨a6.1, fun fs hd f hf => blankB_spec a6.2 f (by rw [hfs fs hd]; exact hf)⟩
     flds := fun fs hd f hf => fieldsB_spec a7 f (by rw [hfs fs hd]; exact hf) }
end Go.Proofs.YtendekbckfpmgaaGreat
namespace Go.Proofs.YtendekbckfpmgaaGreat
open Go Go.RowKit
def isPtrE : EV → Bool
 | .ptr _ _ => true
 | _ => false
def pointsE (tab : Tab) (n f : Nat) (args : EVs) : Bool := isNil tab.gl && isSomeB (tab.fn.get f) && callE tab (run tab n) false (fun a b => bif a then b else false) 0 f args .nil 0 fun v _ _ => isPtrE v
theorem calls_points {P : Program} {tab : Tab} (hT : TabOk P tab) {n f : Nat} {args : EVs} {args' : Array Value} {w : World} (h : pointsE tab n f args = true) (ha : ∀ σ, VRs σ args args'.toList) :
 Calls P f args' w fun e w' => (∃ a, e = .returned (.pointer (some a))) ∧ Below w.heap.size w w' := by
 unfold pointsE at h
 rw [Bool.and_eq_true, Bool.and_eq_true] at h
 obtain ⟨⟨hgl, hsome⟩, h⟩ := h
 have hgl' : GlOk tab (fun _ => none) := fun g id e => by
  cases hg : tab.gl with
  | nil => rw [hg, Tr.get_nil] at e; cases e
  | node l x r => rw [hg] at hgl; cases hgl
 have H : Holds (fun _ => none) .nil w := ⟨fun id o h => (by rw [Tr.get_nil] at h; cases h), fun i j li lj hi => (by rw [Tr.get_nil] at hi; cases hi)⟩
 cases hfn : tab.fn.get f with
 | none => rw [hfn] at hsome; cases hsome
 | some fn =>
  obtain ⟨_, hc⟩ := callE_enter (G := fun b : Bool => b = true) (args' := args') (w := w) (by simp) hT (run_sound hT n).1 (fun x y => by cases x <;> cases y <;> simp) hfn h (ha _) hgl' H (fun _ _ => rfl) (Nat.le_refl _)
  refine hc.mono fun e w' ⟨v', he, v, h', nx', σ', hv, hp, hb⟩ => ?_
  subst he
  cases v <;> simp only [isPtrE] at hb <;> try (cases hb; done)
  simp only [VR] at hv
  obtain ⟨l, _, rfl⟩ := hv
  exact ⟨⟨_, rfl⟩, hp.os, hp.tape, hp.output, hp.size, fun k hk => hp.frame k hk fun id l hi => by rw [Tr.get_nil] at hi; cases hi⟩
end Go.Proofs.YtendekbckfpmgaaGreat
namespace Go.Proofs.YtendekbckfpmgaaGreat
open Go
def ty1 : TyE := ⟨(.func #[] #[] false), 1, 8, false, false, true, (.cons .func0 .nil)⟩
def ty2 : TyE := ⟨(.int .i64), 1, 8, false, false, true, (.cons (.int .i64 0) .nil)⟩
def ty3 : TyE := ⟨(.int .i64), 1, 8, false, false, true, (.cons (.int .i64 0) .nil)⟩
def ty4 : TyE := ⟨.bool, 1, 1, false, false, true, (.cons (.bool false) .nil)⟩
def ty5 : TyE := ⟨(.int .u8), 1, 1, false, false, true, (.cons (.int .u8 0) .nil)⟩
def ty9 : TyE := ⟨.string, 1, 16, false, false, true, (.cons (.str []) .nil)⟩
def ty24 : TyE := ⟨(.slice 3), 1, 24, false, false, true, (.cons .slice0 .nil)⟩
def ty30 : TyE := ⟨(.pointer 142), 1, 8, false, false, true, (.cons .ptr0 .nil)⟩
def ty31 : TyE := ⟨(.pointer 88), 1, 8, false, false, true, (.cons .ptr0 .nil)⟩
def ty34 : TyE := ⟨(.slice 78), 1, 24, false, false, true, (.cons .slice0 .nil)⟩
def ty35 : TyE := ⟨(.slice 81), 1, 24, false, false, true, (.cons .slice0 .nil)⟩
def ty37 : TyE := ⟨(.struct #[⟨"Sizes", 34, 0, false, "", "", 0⟩, ⟨"Funs", 35, 1, false, "", "", 24⟩]), 2, 48, true, false, false, (.cons .slice0 (.cons .slice0 .nil))⟩
def ty38 : TyE := ⟨(.int .i64), 1, 8, false, false, true, (.cons (.int .i64 0) .nil)⟩
def ty43 : TyE := ⟨(.int .i64), 1, 8, false, false, true, (.cons (.int .i64 0) .nil)⟩
def ty45 : TyE := ⟨(.struct #[⟨"High", 2, 0, false, "", "", 0⟩, ⟨"Low", 2, 1, false, "", "", 8⟩]), 2, 16, true, false, false, (.cons (.int .i64 0) (.cons (.int .i64 0) .nil))⟩
def ty47 : TyE := ⟨(.struct #[⟨"Sort", 43, 0, false, "", "", 0⟩, ⟨"B", 4, 1, false, "", "", 8⟩, ⟨"I", 45, 2, false, "", "", 16⟩, ⟨"E", 2, 4, false, "", "", 32⟩]), 5, 40, true, false, false, (.cons (.int .i64 0) (.cons (.bool false) (.cons (.int .i64 0) (.cons (.int .i64 0) (.cons (.int .i64 0) .nil)))))⟩
def ty52 : TyE := ⟨(.slice 119), 1, 24, false, false, true, (.cons .slice0 .nil)⟩
def ty54 : TyE := ⟨(.pointer 63), 1, 8, false, false, true, (.cons .ptr0 .nil)⟩
def ty55 : TyE := ⟨(.pointer 68), 1, 8, false, false, true, (.cons .ptr0 .nil)⟩
def ty60 : TyE := ⟨(.pointer 192), 1, 8, false, false, true, (.cons .ptr0 .nil)⟩
def ty61 : TyE := ⟨(.map 3 296), 1, 8, false, false, true, (.cons .map0 .nil)⟩
def ty63 : TyE := ⟨(.struct #[⟨"Names", 30, 0, false, "", "", 0⟩, ⟨"Store", 60, 1, false, "", "", 8⟩, ⟨"Macros", 61, 2, false, "", "", 16⟩]), 3, 24, true, false, false, (.cons .ptr0 (.cons .ptr0 (.cons .map0 .nil)))⟩
def ty65 : TyE := ⟨(.pointer 194), 1, 8, false, false, true, (.cons .ptr0 .nil)⟩
def ty66 : TyE := ⟨(.slice 298), 1, 24, false, false, true, (.cons .slice0 .nil)⟩
def ty68 : TyE := ⟨(.struct #[⟨"Names", 31, 0, false, "", "", 0⟩, ⟨"Store", 65, 1, false, "", "", 8⟩, ⟨"Macros", 66, 2, false, "", "", 16⟩]), 3, 40, true, false, false, (.cons .ptr0 (.cons .ptr0 (.cons .slice0 .nil)))⟩
def ty70 : TyE := ⟨(.slice 43), 1, 24, false, false, true, (.cons .slice0 .nil)⟩
def ty72 : TyE := ⟨(.struct #[⟨"Name", 9, 0, false, "", "", 0⟩, ⟨"Args", 70, 1, false, "", "", 16⟩, ⟨"Result", 43, 2, false, "", "", 40⟩, ⟨"Defined", 4, 3, false, "", "", 48⟩]), 4, 56, true, false, false, (.cons (.str []) (.cons .slice0 (.cons (.int .i64 0) (.cons (.bool false) .nil))))⟩
def ty78 : TyE := ⟨(.struct #[⟨"Sort", 43, 0, false, "", "", 0⟩, ⟨"Size", 2, 1, false, "", "", 8⟩]), 2, 16, true, false, false, (.cons (.int .i64 0) (.cons (.int .i64 0) .nil))⟩
def ty79 : TyE := ⟨(.slice 84), 1, 24, false, false, true, (.cons .slice0 .nil)⟩
def ty81 : TyE := ⟨(.struct #[⟨"Fun", 3, 0, false, "", "", 0⟩, ⟨"Rows", 79, 1, false, "", "", 8⟩, ⟨"Else", 47, 2, false, "", "", 32⟩]), 7, 72, true, false, false, (.cons (.int .i64 0) (.cons .slice0 (.cons (.int .i64 0) (.cons (.bool false) (.cons (.int .i64 0) (.cons (.int .i64 0) (.cons (.int .i64 0) .nil)))))))⟩
def ty82 : TyE := ⟨(.slice 47), 1, 24, false, false, true, (.cons .slice0 .nil)⟩
def ty84 : TyE := ⟨(.struct #[⟨"Args", 82, 0, false, "", "", 0⟩, ⟨"Value", 47, 1, false, "", "", 24⟩]), 6, 64, true, false, false, (.cons .slice0 (.cons (.int .i64 0) (.cons (.bool false) (.cons (.int .i64 0) (.cons (.int .i64 0) (.cons (.int .i64 0) .nil))))))⟩
def ty86 : TyE := ⟨(.slice 147), 1, 24, false, false, true, (.cons .slice0 .nil)⟩
def ty88 : TyE := ⟨(.struct #[⟨"SortL", 86, 0, false, "", "", 0⟩, ⟨"FunL", 86, 1, false, "", "", 24⟩, ⟨"Deep", 3, 2, false, "", "", 48⟩]), 3, 56, true, false, false, (.cons .slice0 (.cons .slice0 (.cons (.int .i64 0) .nil)))⟩
def ty119 : TyE := ⟨(.struct #[⟨"Name", 9, 0, false, "", "", 0⟩, ⟨"Sort", 4, 1, false, "", "", 16⟩, ⟨"F", 72, 2, false, "", "", 24⟩]), 6, 80, true, false, false, (.cons (.str []) (.cons (.bool false) (.cons (.str []) (.cons .slice0 (.cons (.int .i64 0) (.cons (.bool false) .nil))))))⟩
def ty122 : TyE := ⟨(.int .i64), 1, 8, false, false, true, (.cons (.int .i64 0) .nil)⟩
def ty129 : TyE := ⟨(.map 43 2), 1, 8, false, false, true, (.cons .map0 .nil)⟩
def ty137 : TyE := ⟨(.map 9 3), 1, 8, false, false, true, (.cons .map0 .nil)⟩
def ty138 : TyE := ⟨(.slice 72), 1, 24, false, false, true, (.cons .slice0 .nil)⟩
def ty140 : TyE := ⟨(.struct #[⟨"all", 138, 0, false, "", "jurist/sorts", 0⟩, ⟨"stands", 137, 1, false, "", "jurist/sorts", 24⟩, ⟨"marks", 24, 2, false, "", "jurist/sorts", 32⟩]), 3, 56, true, false, false, (.cons .slice0 (.cons .map0 (.cons .slice0 .nil)))⟩
def ty142 : TyE := ⟨(.struct #[⟨"sorts", 140, 0, false, "", "jurist/sorts", 0⟩, ⟨"funs", 140, 3, false, "", "jurist/sorts", 56⟩]), 6, 112, true, false, false, (.cons .slice0 (.cons .map0 (.cons .slice0 (.cons .slice0 (.cons .map0 (.cons .slice0 .nil))))))⟩
def ty147 : TyE := ⟨(.struct #[⟨"F", 72, 0, false, "", "", 0⟩, ⟨"Level", 3, 4, false, "", "", 56⟩, ⟨"Stands", 4, 5, false, "", "", 64⟩]), 6, 72, true, false, false, (.cons (.str []) (.cons .slice0 (.cons (.int .i64 0) (.cons (.bool false) (.cons (.int .i64 0) (.cons (.bool false) .nil))))))⟩
def ty148 : TyE := ⟨(.func #[43] #[4] false), 1, 8, false, false, true, (.cons .func0 .nil)⟩
def ty156 : TyE := ⟨(.func #[204] #[] false), 1, 8, false, false, true, (.cons .func0 .nil)⟩
def ty157 : TyE := ⟨(.func #[204] #[] false), 1, 8, false, false, true, (.cons .func0 .nil)⟩
def ty160 : TyE := ⟨(.func #[84] #[4] false), 1, 8, false, false, true, (.cons .func0 .nil)⟩
def ty176 : TyE := ⟨(.slice 122), 1, 24, false, false, true, (.cons .slice0 .nil)⟩
def ty179 : TyE := ⟨(.int .u8), 1, 1, false, false, true, (.cons (.int .u8 0) .nil)⟩
def ty181 : TyE := ⟨(.struct #[⟨"Op", 179, 0, false, "", "", 0⟩, ⟨"Fun", 3, 1, false, "", "", 8⟩, ⟨"Num", 2, 2, false, "", "", 16⟩, ⟨"Sort", 43, 3, false, "", "", 24⟩, ⟨"Args", 176, 4, false, "", "", 32⟩]), 5, 56, true, false, false, (.cons (.int .u8 0) (.cons (.int .i64 0) (.cons (.int .i64 0) (.cons (.int .i64 0) (.cons .slice0 .nil)))))⟩
def ty188 : TyE := ⟨(.map 219 122), 1, 8, false, false, true, (.cons .map0 .nil)⟩
def ty189 : TyE := ⟨(.map 217 3), 1, 8, false, false, true, (.cons .map0 .nil)⟩
def ty190 : TyE := ⟨(.slice 181), 1, 24, false, false, true, (.cons .slice0 .nil)⟩
def ty192 : TyE := ⟨(.struct #[⟨"l", 190, 0, false, "", "jurist/terms", 0⟩, ⟨"terms", 188, 1, false, "", "jurist/terms", 24⟩, ⟨"lists", 189, 2, false, "", "jurist/terms", 32⟩]), 3, 40, true, false, false, (.cons .slice0 (.cons .map0 (.cons .map0 .nil)))⟩
def ty194 : TyE := ⟨(.struct #[⟨"L", 190, 0, false, "", "", 0⟩]), 1, 24, true, false, false, (.cons .slice0 .nil)⟩
def ty197 : TyE := ⟨(.func #[47, 43] #[4] false), 1, 8, false, false, true, (.cons .func0 .nil)⟩
def ty199 : TyE := ⟨(.slice 9), 1, 24, false, false, true, (.cons .slice0 .nil)⟩
def ty201 : TyE := ⟨(.pointer 140), 1, 8, false, false, true, (.cons .ptr0 .nil)⟩
def ty204 : TyE := ⟨(.func #[3] #[4] false), 1, 8, false, false, true, (.cons .func0 .nil)⟩
def ty210 : TyE := ⟨(.int .u64), 1, 8, false, false, true, (.cons (.int .u64 0) .nil)⟩
def ty213 : TyE := ⟨(.array 4 2), 4, 32, true, false, true, (.cons (.int .i64 0) (.cons (.int .i64 0) (.cons (.int .i64 0) (.cons (.int .i64 0) .nil))))⟩
def ty215 : TyE := ⟨(.func #[122] #[4] false), 1, 8, false, false, true, (.cons .func0 .nil)⟩
def ty217 : TyE := ⟨(.struct #[⟨"ahead", 3, 0, false, "", "jurist/terms", 0⟩, ⟨"last", 122, 1, false, "", "jurist/terms", 8⟩]), 2, 16, true, false, false, (.cons (.int .i64 0) (.cons (.int .i64 0) .nil))⟩
def ty219 : TyE := ⟨(.struct #[⟨"op", 179, 0, false, "", "jurist/terms", 0⟩, ⟨"fun", 3, 1, false, "", "jurist/terms", 8⟩, ⟨"num", 2, 2, false, "", "jurist/terms", 16⟩, ⟨"sort", 43, 3, false, "", "jurist/terms", 24⟩, ⟨"args", 3, 4, false, "", "jurist/terms", 32⟩]), 5, 40, true, false, false, (.cons (.int .u8 0) (.cons (.int .i64 0) (.cons (.int .i64 0) (.cons (.int .i64 0) (.cons (.int .i64 0) .nil)))))⟩
def ty222 : TyE := ⟨(.pointer 226), 1, 8, false, false, true, (.cons .ptr0 .nil)⟩
def ty223 : TyE := ⟨(.map 3 81), 1, 8, false, false, true, (.cons .map0 .nil)⟩
def ty224 : TyE := ⟨(.map 122 47), 1, 8, false, false, true, (.cons .map0 .nil)⟩
def ty226 : TyE := ⟨(.struct #[⟨"s", 60, 0, false, "", "jurist/world", 0⟩, ⟨"funs", 223, 1, false, "", "jurist/world", 8⟩, ⟨"seen", 224, 2, false, "", "jurist/world", 16⟩]), 3, 24, true, false, false, (.cons .ptr0 (.cons .map0 (.cons .map0 .nil)))⟩
def ty233 : TyE := ⟨(.int .i64), 1, 8, false, false, true, (.cons (.int .i64 0) .nil)⟩
def ty240 : TyE := ⟨(.int .u32), 1, 4, false, false, true, (.cons (.int .u32 0) .nil)⟩
def ty242 : TyE := ⟨(.int .u64), 1, 8, false, false, true, (.cons (.int .u64 0) .nil)⟩
def ty256 : TyE := ⟨(.func #[47] #[4] false), 1, 8, false, false, true, (.cons .func0 .nil)⟩
def ty257 : TyE := ⟨(.int .u64), 1, 8, false, false, true, (.cons (.int .u64 0) .nil)⟩
def ty261 : TyE := ⟨(.pointer 3), 1, 8, false, false, true, (.cons .ptr0 .nil)⟩
def ty265 : TyE := ⟨(.func #[47, 47] #[4] false), 1, 8, false, false, true, (.cons .func0 .nil)⟩
def ty269 : TyE := ⟨(.pointer 257), 1, 8, false, false, true, (.cons .ptr0 .nil)⟩
def ty289 : TyE := ⟨(.int .u8), 1, 1, false, false, true, (.cons (.int .u8 0) .nil)⟩
def ty291 : TyE := ⟨(.struct #[⟨"Kind", 289, 0, false, "", "", 0⟩, ⟨"Text", 9, 1, false, "", "", 8⟩, ⟨"At", 3, 2, false, "", "", 24⟩]), 3, 32, true, false, false, (.cons (.int .u8 0) (.cons (.str []) (.cons (.int .i64 0) .nil)))⟩
def ty292 : TyE := ⟨(.slice 294), 1, 24, false, false, true, (.cons .slice0 .nil)⟩
def ty294 : TyE := ⟨(.struct #[⟨"List", 4, 0, false, "", "", 0⟩, ⟨"Tok", 291, 1, false, "", "", 8⟩, ⟨"Kids", 292, 4, false, "", "", 40⟩]), 5, 64, true, false, false, (.cons (.bool false) (.cons (.int .u8 0) (.cons (.str []) (.cons (.int .i64 0) (.cons .slice0 .nil)))))⟩
def ty296 : TyE := ⟨(.struct #[⟨"Params", 199, 0, false, "", "", 0⟩, ⟨"Sorts", 70, 1, false, "", "", 24⟩, ⟨"Body", 294, 2, false, "", "", 48⟩]), 7, 112, true, false, false, (.cons .slice0 (.cons .slice0 (.cons (.bool false) (.cons (.int .u8 0) (.cons (.str []) (.cons (.int .i64 0) (.cons .slice0 .nil)))))))⟩
def ty298 : TyE := ⟨(.struct #[⟨"Fun", 3, 0, false, "", "", 0⟩, ⟨"M", 296, 1, false, "", "", 8⟩]), 8, 120, true, false, false, (.cons (.int .i64 0) (.cons .slice0 (.cons .slice0 (.cons (.bool false) (.cons (.int .u8 0) (.cons (.str []) (.cons (.int .i64 0) (.cons .slice0 .nil))))))))⟩
noncomputable def tab : Tab := ⟨(.node (.node (.node (.node (.node (.node (.node (.node (.node .nil none .nil) none .nil) (some ty63) (.node .nil none .nil)) (some ty31) (.node (.node (.node .nil none .nil) none .nil) none (.node .nil (some ty223) .nil))) none (.node (.node (.node (.node .nil none .nil) none .nil) (some ty79) (.node .nil none .nil)) (some ty47) (.node (.node .nil none .nil) none (.node .nil none .nil)))) none (.node (.node (.node (.node (.node .nil none .nil) none .nil) none (.node .nil (some ty199) .nil)) none (.node (.node (.node .nil none .nil) none .nil) none (.node .nil none .nil))) none (.node (.node (.node (.node .nil none .nil) none .nil) none (.node .nil (some ty215) .nil)) (some ty55) (.node (.node .nil none .nil) (some ty119) (.node .nil none .nil))))) (some ty3) (.node (.node (.node (.node (.node (.node .nil none .nil) none .nil) none (.node .nil none .nil)) (some ty35) (.node (.node (.node .nil (some ty291) .nil) none .nil) none .nil)) none (.node (.node (.node (.node .nil none .nil) (some ty147) .nil) none (.node .nil none .nil)) none (.node (.node .nil (some ty179) .nil) none (.node .nil none .nil)))) none (.node (.node (.node (.node (.node .nil none .nil) none .nil) none (.node .nil none .nil)) (some ty43) (.node (.node (.node .nil none .nil) none .nil) none (.node .nil none .nil))) none (.node (.node (.node (.node .nil none .nil) none .nil) none (.node .nil (some ty219) .nil)) none (.node (.node .nil none .nil) none (.node .nil none .nil)))))) (some ty1) (.node (.node (.node (.node (.node (.node (.node .nil (some ty257) .nil) (some ty129) .nil) (some ty65) (.node .nil none .nil)) none (.node (.node (.node .nil (some ty289) .nil) none .nil) none (.node .nil none .nil))) none (.node (.node (.node (.node .nil none .nil) none .nil) (some ty81) (.node .nil none .nil)) none (.node (.node .nil none .nil) none (.node .nil none .nil)))) (some ty9) (.node (.node (.node (.node (.node .nil (some ty265) .nil) (some ty137) .nil) none (.node .nil (some ty201) .nil)) none (.node (.node (.node .nil none .nil) none .nil) none (.node .nil (some ty233) .nil))) none (.node (.node (.node (.node .nil none .nil) none .nil) none (.node .nil (some ty217) .nil)) none (.node (.node .nil none .nil) none .nil)))) (some ty5) (.node (.node (.node (.node (.node (.node .nil (some ty261) .nil) none .nil) none (.node .nil (some ty197) .nil)) (some ty37) (.node (.node (.node .nil none .nil) none .nil) none (.node .nil none .nil))) none (.node (.node (.node (.node .nil none .nil) none .nil) none (.node .nil (some ty213) .nil)) none (.node (.node .nil (some ty181) .nil) none (.node .nil none .nil)))) none (.node (.node (.node (.node (.node .nil (some ty269) .nil) none .nil) none (.node .nil none .nil)) (some ty45) (.node (.node .nil none .nil) none (.node .nil none .nil))) none (.node (.node (.node (.node .nil none .nil) (some ty157) .nil) none (.node .nil none .nil)) (some ty61) (.node (.node .nil (some ty189) .nil) none (.node .nil none .nil))))))) none (.node (.node (.node (.node (.node (.node (.node (.node .nil (some ty256) .nil) none .nil) none (.node .nil (some ty192) .nil)) none (.node (.node (.node .nil none .nil) (some ty160) .nil) none (.node .nil (some ty224) .nil))) none (.node (.node (.node (.node .nil none .nil) none .nil) none (.node .nil none .nil)) none (.node (.node .nil (some ty176) .nil) none (.node .nil (some ty240) .nil)))) none (.node (.node (.node (.node (.node .nil none .nil) none .nil) (some ty72) (.node .nil none .nil)) none (.node (.node (.node .nil (some ty296) .nil) none .nil) none (.node .nil none .nil))) (some ty24) (.node (.node (.node (.node .nil none .nil) none .nil) (some ty88) (.node .nil none .nil)) none (.node (.node .nil none .nil) none .nil)))) (some ty4) (.node (.node (.node (.node (.node (.node .nil none .nil) none .nil) (some ty68) (.node .nil none .nil)) none (.node (.node (.node .nil (some ty292) .nil) none .nil) none (.node .nil none .nil))) none (.node (.node (.node (.node .nil none .nil) (some ty148) .nil) (some ty84) (.node .nil none .nil)) (some ty52) (.node (.node .nil none .nil) none .nil))) none (.node (.node (.node (.node (.node .nil none .nil) (some ty140) .nil) none (.node .nil (some ty204) .nil)) none (.node (.node (.node .nil none .nil) none .nil) none (.node .nil none .nil))) none (.node (.node (.node (.node .nil none .nil) (some ty156) .nil) none .nil) (some ty60) (.node (.node .nil (some ty188) .nil) none (.node .nil none .nil)))))) (some ty2) (.node (.node (.node (.node (.node (.node (.node .nil none .nil) none .nil) (some ty66) (.node .nil (some ty194) .nil)) (some ty34) (.node (.node (.node .nil none .nil) none .nil) none (.node .nil (some ty226) .nil))) none (.node (.node (.node (.node .nil none .nil) none .nil) (some ty82) (.node .nil (some ty210) .nil)) none (.node (.node .nil none .nil) none (.node .nil (some ty242) .nil)))) none (.node (.node (.node (.node .nil (some ty138) .nil) none (.node .nil none .nil)) none (.node (.node (.node .nil (some ty298) .nil) none .nil) none .nil)) none (.node (.node (.node (.node .nil none .nil) none .nil) none (.node .nil none .nil)) none (.node .nil (some ty122) (.node .nil none .nil))))) none (.node (.node (.node (.node (.node (.node .nil none .nil) none .nil) (some ty70) (.node .nil none .nil)) (some ty38) (.node (.node (.node .nil (some ty294) .nil) none .nil) none (.node .nil none .nil))) none (.node (.node (.node (.node .nil none .nil) none .nil) (some ty86) (.node .nil none .nil)) (some ty54) (.node .nil none (.node .nil none .nil)))) none (.node (.node (.node (.node .nil (some ty142) .nil) (some ty78) (.node .nil none .nil)) none (.node (.node .nil none .nil) none (.node .nil none .nil))) (some ty30) (.node (.node (.node (.node .nil none .nil) none .nil) none (.node .nil (some ty222) .nil)) none (.node (.node .nil (some ty190) .nil) none (.node .nil none .nil)))))))), (.node (.node (.node (.node (.node (.node (.node (.node .nil (some Go.Proofs.Tryz.f127) .nil) (some Go.Proofs.Tryz.f63) .nil) (some Go.Proofs.Tryz.f31) (.node (.node .nil (some Go.Proofs.Tryz.f159) .nil) (some Go.Proofs.Tryz.f95) .nil)) (some Go.Proofs.Tryz.f15) (.node (.node (.node .nil (some Go.Proofs.Tryz.f143) .nil) (some Go.Proofs.Tryz.f79) .nil) (some Go.Proofs.Tryz.f47) (.node .nil (some Go.Proofs.Tryz.f111) .nil))) (some Go.Proofs.Tryz.f7) (.node (.node (.node (.node .nil (some Go.Proofs.Tryz.f135) .nil) (some Go.Proofs.Tryz.f71) .nil) (some Go.Proofs.Tryz.f39) (.node .nil (some Go.Proofs.Tryz.f103) .nil)) (some Go.Proofs.Tryz.f23) (.node (.node (.node .nil (some Go.Proofs.Tryz.f151) .nil) (some Go.Proofs.Tryz.f87) .nil) (some Go.Proofs.Tryz.f55) (.node .nil (some Go.Proofs.Tryz.f119) .nil)))) (some Go.Proofs.Tryz.f3) (.node (.node (.node (.node (.node .nil (some Go.Proofs.Tryz.f131) .nil) (some Go.Proofs.Tryz.f67) .nil) (some Go.Proofs.Tryz.f35) (.node .nil (some Go.Proofs.Tryz.f99) .nil)) (some Go.Proofs.Tryz.f19) (.node (.node (.node .nil (some Go.Proofs.Tryz.f147) .nil) (some Go.Proofs.Tryz.f83) .nil) (some Go.Proofs.Tryz.f51) (.node .nil (some Go.Proofs.Tryz.f115) .nil))) (some Go.Proofs.Tryz.f11) (.node (.node (.node (.node .nil (some Go.Proofs.Tryz.f139) .nil) (some Go.Proofs.Tryz.f75) .nil) (some Go.Proofs.Tryz.f43) (.node .nil (some Go.Proofs.Tryz.f107) .nil)) (some Go.Proofs.Tryz.f27) (.node (.node (.node .nil (some Go.Proofs.Tryz.f155) .nil) (some Go.Proofs.Tryz.f91) .nil) (some Go.Proofs.Tryz.f59) (.node .nil (some Go.Proofs.Tryz.f123) .nil))))) none (.node (.node (.node (.node (.node (.node .nil (some Go.Proofs.Tryz.f129) .nil) (some Go.Proofs.Tryz.f65) .nil) (some Go.Proofs.Tryz.f33) (.node .nil (some Go.Proofs.Tryz.f97) .nil)) (some Go.Proofs.Tryz.f17) (.node (.node (.node .nil (some Go.Proofs.Tryz.f145) .nil) (some Go.Proofs.Tryz.f81) .nil) (some Go.Proofs.Tryz.f49) (.node .nil (some Go.Proofs.Tryz.f113) .nil))) (some Go.Proofs.Tryz.f9) (.node (.node (.node .nil (some Go.Proofs.Tryz.f73) .nil) (some Go.Proofs.Tryz.f41) (.node .nil (some Go.Proofs.Tryz.f105) .nil)) (some Go.Proofs.Tryz.f25) (.node (.node (.node .nil (some Go.Proofs.Tryz.f153) .nil) (some Go.Proofs.Tryz.f89) .nil) (some Go.Proofs.Tryz.f57) (.node .nil (some Go.Proofs.Tryz.f121) .nil)))) (some Go.Proofs.Tryz.f5) (.node (.node (.node (.node (.node .nil (some Go.Proofs.Tryz.f133) .nil) (some Go.Proofs.Tryz.f69) .nil) (some Go.Proofs.Tryz.f37) (.node .nil (some Go.Proofs.Tryz.f101) .nil)) (some Go.Proofs.Tryz.f21) (.node (.node (.node .nil (some Go.Proofs.Tryz.f149) .nil) (some Go.Proofs.Tryz.f85) .nil) (some Go.Proofs.Tryz.f53) (.node .nil (some Go.Proofs.Tryz.f117) .nil))) (some Go.Proofs.Tryz.f13) (.node (.node (.node (.node .nil (some Go.Proofs.Tryz.f141) .nil) (some Go.Proofs.Tryz.f77) .nil) (some Go.Proofs.Tryz.f45) (.node .nil (some Go.Proofs.Tryz.f109) .nil)) (some Go.Proofs.Tryz.f29) (.node (.node (.node .nil (some Go.Proofs.Tryz.f157) .nil) (some Go.Proofs.Tryz.f93) .nil) (some Go.Proofs.Tryz.f61) (.node .nil (some Go.Proofs.Tryz.f125) .nil)))))) none (.node (.node (.node (.node (.node (.node (.node .nil (some Go.Proofs.Tryz.f128) .nil) (some Go.Proofs.Tryz.f64) .nil) (some Go.Proofs.Tryz.f32) (.node (.node .nil (some Go.Proofs.Tryz.f160) .nil) (some Go.Proofs.Tryz.f96) .nil)) (some Go.Proofs.Tryz.f16) (.node (.node (.node .nil (some Go.Proofs.Tryz.f144) .nil) (some Go.Proofs.Tryz.f80) .nil) (some Go.Proofs.Tryz.f48) (.node .nil (some Go.Proofs.Tryz.f112) .nil))) (some Go.Proofs.Tryz.f8) (.node (.node (.node (.node .nil (some Go.Proofs.Tryz.f136) .nil) (some Go.Proofs.Tryz.f72) .nil) (some Go.Proofs.Tryz.f40) (.node .nil (some Go.Proofs.Tryz.f104) .nil)) (some Go.Proofs.Tryz.f24) (.node (.node (.node .nil (some Go.Proofs.Tryz.f152) .nil) (some Go.Proofs.Tryz.f88) .nil) (some Go.Proofs.Tryz.f56) (.node .nil (some Go.Proofs.Tryz.f120) .nil)))) (some Go.Proofs.Tryz.f4) (.node (.node (.node (.node (.node .nil (some Go.Proofs.Tryz.f132) .nil) (some Go.Proofs.Tryz.f68) .nil) (some Go.Proofs.Tryz.f36) (.node .nil (some Go.Proofs.Tryz.f100) .nil)) (some Go.Proofs.Tryz.f20) (.node (.node (.node .nil (some Go.Proofs.Tryz.f148) .nil) (some Go.Proofs.Tryz.f84) .nil) (some Go.Proofs.Tryz.f52) (.node .nil (some Go.Proofs.Tryz.f116) .nil))) (some Go.Proofs.Tryz.f12) (.node (.node (.node (.node .nil (some Go.Proofs.Tryz.f140) .nil) (some Go.Proofs.Tryz.f76) .nil) (some Go.Proofs.Tryz.f44) (.node .nil (some Go.Proofs.Tryz.f108) .nil)) (some Go.Proofs.Tryz.f28) (.node (.node (.node .nil (some Go.Proofs.Tryz.f156) .nil) (some Go.Proofs.Tryz.f92) .nil) (some Go.Proofs.Tryz.f60) (.node .nil (some Go.Proofs.Tryz.f124) .nil))))) (some Go.Proofs.Tryz.f2) (.node (.node (.node (.node (.node (.node .nil (some Go.Proofs.Tryz.f130) .nil) (some Go.Proofs.Tryz.f66) .nil) (some Go.Proofs.Tryz.f34) (.node .nil (some Go.Proofs.Tryz.f98) .nil)) (some Go.Proofs.Tryz.f18) (.node (.node (.node .nil (some Go.Proofs.Tryz.f146) .nil) (some Go.Proofs.Tryz.f82) .nil) (some Go.Proofs.Tryz.f50) (.node .nil (some Go.Proofs.Tryz.f114) .nil))) (some Go.Proofs.Tryz.f10) (.node (.node (.node (.node .nil (some Go.Proofs.Tryz.f138) .nil) (some Go.Proofs.Tryz.f74) .nil) (some Go.Proofs.Tryz.f42) (.node .nil (some Go.Proofs.Tryz.f106) .nil)) (some Go.Proofs.Tryz.f26) (.node (.node (.node .nil (some Go.Proofs.Tryz.f154) .nil) (some Go.Proofs.Tryz.f90) .nil) (some Go.Proofs.Tryz.f58) (.node .nil (some Go.Proofs.Tryz.f122) .nil)))) (some Go.Proofs.Tryz.f6) (.node (.node (.node (.node (.node .nil (some Go.Proofs.Tryz.f134) .nil) (some Go.Proofs.Tryz.f70) .nil) (some Go.Proofs.Tryz.f38) (.node .nil (some Go.Proofs.Tryz.f102) .nil)) (some Go.Proofs.Tryz.f22) (.node (.node (.node .nil (some Go.Proofs.Tryz.f150) .nil) (some Go.Proofs.Tryz.f86) .nil) (some Go.Proofs.Tryz.f54) (.node .nil (some Go.Proofs.Tryz.f118) .nil))) (some Go.Proofs.Tryz.f14) (.node (.node (.node (.node .nil (some Go.Proofs.Tryz.f142) .nil) (some Go.Proofs.Tryz.f78) .nil) (some Go.Proofs.Tryz.f46) (.node .nil (some Go.Proofs.Tryz.f110) .nil)) (some Go.Proofs.Tryz.f30) (.node (.node (.node .nil (some Go.Proofs.Tryz.f158) .nil) (some Go.Proofs.Tryz.f94) .nil) (some Go.Proofs.Tryz.f62) (.node .nil (some Go.Proofs.Tryz.f126) .nil))))))), .nil, (.node (.node .nil none (.node (.node .nil none (.node (.node (.node (.node .nil (some 0) .nil) none .nil) none .nil) none .nil)) none .nil)) none .nil), (.node (.node (.node .nil none (.node .nil none (.node (.node (.node .nil (some 0) .nil) none .nil) none .nil))) none .nil) none .nil)⟩
set_option maxRecDepth 1000000 in
theorem tabOk : TabOk Go.Proofs.Tryz.prog tab := TabChk.ok (nT := 302) (nF := 185) (exs := [(137, 0)]) ⟨by kernel_rfl, by kernel_rfl, by kernel_rfl, by kernel_rfl, by kernel_rfl, by kernel_rfl, by kernel_rfl, by kernel_rfl, by kernel_rfl, by kernel_rfl, by kernel_rfl,
 fun p hp => by
  simp only [List.mem_cons, List.not_mem_nil, or_false] at hp
  rcases hp with rfl
  · exact extOk0 Go.Proofs.Tryz.func137 (by kernel_rfl) (by kernel_rfl) (by kernel_rfl) (by kernel_rfl)
  ⟩
end Go.Proofs.YtendekbckfpmgaaGreat
namespace Go.Proofs.YtendekbckfpmgaaGreat
open Go
set_option maxRecDepth 1000000 in
theorem worldKnown_run : lawE tab 1000000 15 .nil = true := by kernel_rfl
end Go.Proofs.YtendekbckfpmgaaGreat
