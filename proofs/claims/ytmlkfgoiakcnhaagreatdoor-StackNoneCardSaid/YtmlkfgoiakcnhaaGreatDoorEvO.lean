/- Operations that make a block and look at none: what they make, under whatever number. -/
import Derived.Test.YtmlkfgoiakcnhaaGreatDoorEvN
namespace Go.Proofs.YtmlkfgoiakcnhaaGreatDoor
open Go Go.RowKit

/-- operations that only look -/
def rdOp : Op → Bool
  | .move _ => true
  | .assign _ => true
  | .pick .. => true
  | .build .. => true
  | .load .. => true
  | .nilCheck _ => true
  | .binOp .. => true
  | .unOp .. => true
  | .convert .. => true
  | .makeFunc .. => true
  | .slice .. => true
  | .fieldAddr .. => true
  | .field .. => true
  | .indexAddr .. => true
  | .index .. => true
  | .lookup .. => true
  | .extract .. => true
  | .call c => match c.callee with
    | .builtin .len => true
    | .builtin .max => true
    | .builtin .min => true
    | _ => false
  | _ => false
/-- operations that make one block -/
def mkOp : Op → Bool
  | .alloc _ => true
  | .box .. => true
  | .buildSlice .. => true
  | .makeSlice .. => true
  | .makeMap .. => true
  | _ => false

/-- a new block under the number X -/
def MadeR (P : Program) (o : Oper) (a : Act) (w : World) (σ : Sg) (X : Nat) (v : EV) (blk : EO) : Prop :=
  ∃ v' w' loc ob, (execOp a.eval o).run P w = .ok (.value v') w' ∧ w'.heap = w.heap.push ob ∧ w'.os = w.os ∧ w'.tape = w.tape ∧ w'.output = w.output ∧ loc.blk = w.heap.size ∧ VR (upd σ X loc) v v' ∧ OR (upd σ X loc) loc blk ob

section
variable {P : Program} {tab : Tab} {β : Type} {fail : β} {G : β → Prop} (hf : ¬ G fail)
include hf
theorem newCells_made {h : Tr EO} {nx : Nat} {l : EVs} {k : Tr EO → Nat → β} {σ : Sg} (hg : G (newCells fail h nx l 0 k)) (hn : σ nx = none) {vs : List Value} (hl : VRs σ l vs) :
    ∃ h' o, (∀ j, h'.get j = if j = nx then some o else h.get j) ∧ G (k h' (Nat.succ nx)) ∧ ∀ (b : Nat) (t : TypeId), OR (upd σ nx ⟨b, vs.length, 0⟩) ⟨b, vs.length, 0⟩ o (.cells vs.toArray t) := by
  unfold newCells newB at hg
  obtain ⟨c, hc, hg⟩ := writeCells_spec hf _ _ _ _ hg
  obtain ⟨h', hh, hg⟩ := Tr.put_spec hf _ _ _ _ hg
  refine ⟨h', _, hh, hg, fun b t => ?_⟩
  have hlen := (VRs.iff.1 hl).1
  have hle : Le σ (upd σ nx ⟨b, vs.length, 0⟩) := Le.upd hn _
  refine ⟨vs.toArray, t, rfl, by simp, by rw [EVs.len_toL, hlen]; exact Nat.le_refl _, fun _ => by rw [EVs.len_toL, hlen], fun h => absurd h (by omega), fun i e he => ?_⟩
  rw [hc] at he
  split at he
  · rename_i hi
    simp only [Nat.sub_zero] at he
    obtain ⟨v, hv, hr⟩ := hl.get he
    exact ⟨v, by simpa using hv, hr.mono hle⟩
  · simp [Tr.get_nil] at he

theorem mkE_spec (hT : TabOk P tab) {self : CodeFn} {join : β → β → β} {fl : Nat} {o : Oper} {T : Fr} {h : Tr EO} {X : Nat} {k : EV → Tr EO → Nat → β} {σ : Sg} {a : Act} {w : World} (hm : mkOp o.op = true)
    (hg : G (evOp tab self fail join fl o T h X k)) (hops : ∀ x ∈ o.op.operands.toList, OpRel σ T a x) (hgl : GlOk tab σ) (hn : σ X = none) :
    ∃ v blk h', (∀ j, h'.get j = if j = X then some blk else h.get j) ∧ G (k v h' (Nat.succ X)) ∧ MadeR P o a w σ X v blk := by
  unfold evOp at hg
  cases hop : o.op with
  | alloc e =>
    simp only [hop] at hg hops
    unfold allocE at hg
    cases hi : tab.ty.get e with
    | none => simp only [hi] at hg; exact absurd hg hf
    | some i =>
      simp only [hi] at hg
      have hty := hT.ty e i hi
      obtain ⟨z, z1, z2, z3, z4⟩ := hty.run_zero w
      obtain ⟨h', blk, hh, hg, ho⟩ := newCells_made hf hg hn (z4 σ)
      refine ⟨_, blk, h', hh, hg, .pointer (some ⟨w.heap.size, 0, none⟩), w.alloc (.cells z.cells e), _, _, ?_, rfl, rfl, rfl, rfl, rfl, ?_, ho w.heap.size e⟩
      · simp only [execOp, hop, Sem.run_bind, Instr.alloc, z1, Result.andThen_ok, newVar, run_newRow, Sem.run_pure]
      · simp only [VR]; exact ⟨_, upd_same _ _ _, rfl⟩
  | box e x =>
    simp only [hop] at hg hops
    obtain ⟨vx, hg, hx⟩ := evx_spec hf hg (hops x (by simp [Op.operands])) hgl
    unfold boxE at hg
    obtain ⟨h', blk, hh, hg, ho⟩ := newCells_made hf hg hn hx.cells
    refine ⟨_, blk, h', hh, hg, .pointer (some ⟨w.heap.size, 0, none⟩), w.alloc (.cells (a.eval x).cells e), _, _, ?_, rfl, rfl, rfl, rfl, rfl, ?_, ho w.heap.size e⟩
    · simp only [execOp, hop, Sem.run_bind, Instr.box, Result.andThen_ok, newVar, run_newRow, Sem.run_pure]
    · simp only [VR]; exact ⟨_, upd_same _ _ _, rfl⟩
  | buildSlice t len ps =>
    simp only [hop] at hg hops
    obtain ⟨ps', hg, hps⟩ := evParts_spec (a := a) (σ := σ) hf hgl hg (fun x hx => hops x.2 (by simp [Op.operands]; exact ⟨x.1, by simpa using hx⟩))
    have hps : PartsR σ ps' (ps.map fun (i, x) => (i, a.eval x)).toList := by simpa using hps
    unfold buildSliceE at hg
    obtain ⟨e, ei, hu, _, hty, hg⟩ := elemE_spec hf hT hg
    cases hb : Nat.ble (Nat.mul len ei.size) 16777216 with
    | false => simp only [hb] at hg; exact absurd hg hf
    | true =>
      simp only [hb, cond_true] at hg
      have hle : len * ei.size ≤ 16777216 := Nat.le_of_ble_eq_true hb
      obtain ⟨z, z1, z2, z3, z4⟩ := hty.run_zero w
      obtain ⟨c', cells', c1, c2, hg⟩ := fillE_spec (place := fun i => some (i * ei.size, ei.size)) (σ := σ) hf (fun j x hx => hx) hg hps (rep_cells (n := len) (z4 σ) z2)
      obtain ⟨h', blk, hh, hg, ho⟩ := newCells_made hf hg hn c2
      refine ⟨_, blk, h', hh, hg, .slice (some ⟨w.heap.size, 0, none⟩) len len, w.alloc (.cells cells' e), _, _, ?_, rfl, rfl, rfl, rfl, rfl, ?_, ho w.heap.size e⟩
      · have hrun : (Instr.buildSlice t len (ps.map fun (i, x) => (i, a.eval x))).run P w = .ok (.slice (some ⟨w.heap.size, 0, none⟩) len len) (w.alloc (.cells cells' e)) := by
          simp only [Instr.buildSlice, Sem.run_bind, run_underlying hu, Result.andThen_ok, hty.run_size]
          rw [if_neg (by omega)]
          by_cases h0 : len * ei.size = 0
          · have hz0 : (Array.range (len * ei.size)).map (z.cells[· % z.cells.size]!) = (Array.range (len * ei.size)).map ((#[] : Array Value)[· % (#[] : Array Value).size]!) := by rw [h0]; simp
            rw [hz0] at c1
            simp only [h0] at c1 ⊢
            simp only [if_true, c1, Sem.run_bind, run_newRow, Result.andThen_ok, Sem.run_pure]
          · simp only [h0, if_false, Sem.run_bind, z1, Result.andThen_ok, Sem.run_pure, c1, run_newRow]
        simp only [execOp, hop, Sem.run_bind, hrun, Result.andThen_ok, Sem.run_pure]
      · simp only [VR, Option.getD_some]; exact ⟨_, upd_same _ _ _, rfl, Nat.le_refl _⟩
  | makeMap t r =>
    simp only [hop] at hg hops
    cases r with
    | some _ => exact absurd hg hf
    | none =>
      simp only [newB] at hg
      obtain ⟨h', hp, hg⟩ := Tr.put_spec hf _ _ _ _ hg
      refine ⟨_, _, h', hp, hg, .map (some w.heap.size), w.alloc (.map #[] 0), ⟨w.heap.size, 0, 0⟩, _, ?_, rfl, rfl, rfl, rfl, rfl, ?_, ⟨#[], rfl, by simp [ER]⟩⟩
      · simp [execOp, hop, Instr.makeMap, newObj, Sem.run]
      · simp only [VR]; exact ⟨_, upd_same _ _ _, rfl⟩
  | makeSlice t l c =>
    simp only [hop] at hg hops
    obtain ⟨vl, hg, hl⟩ := evx_spec hf hg (hops l (by simp [Op.operands])) hgl
    obtain ⟨vc, hg, hc⟩ := evx_spec hf hg (hops c (by simp [Op.operands])) hgl
    unfold makeSliceE at hg
    split at hg
    · rename_i k1 n k2 m hg'
      clear hg'
      simp only [VR] at hl hc
      obtain ⟨e, ei, hu, _, hty, hg⟩ := elemE_spec hf hT hg
      cases hb : (Nat.ble n m && Nat.ble (Nat.mul ei.bytes m) 281474976710656 && Nat.ble m 4611686018427387904) with
      | false => simp only [hb] at hg; exact absurd hg hf
      | true =>
        simp only [hb, cond_true] at hg
        rw [Bool.and_eq_true, Bool.and_eq_true] at hb
        have b1 : n ≤ m := Nat.le_of_ble_eq_true hb.1.1
        have b2 : ei.bytes * m ≤ 281474976710656 := Nat.le_of_ble_eq_true hb.1.2
        have b3 : m ≤ 4611686018427387904 := Nat.le_of_ble_eq_true hb.2
        obtain ⟨i, z, i1, i2, i3, i4, i5, i6, i7⟩ := hty.info
        obtain ⟨h', blk, hh, hg, ho⟩ := newCells_made hf hg hn (rep_cells (n := m) (i7 σ) i5)
        refine ⟨_, blk, h', hh, hg, .slice (some ⟨w.heap.size, 0, none⟩) n m, w.alloc (.cells ((Array.range (m * ei.size)).map (z.cells[· % z.cells.size]!)) e), _, _, ?_, rfl, rfl, rfl, rfl, rfl, ?_, ho w.heap.size e⟩
        · have wr : ∀ x : Nat, x ≤ 4611686018427387904 → IntKind.i64.wrap (Int.ofNat x) = (x : Int) := fun x hx => IntWalk.i64_in (x : Int) (by constructor <;> omega)
          have t1 : (typeInfo e).run P w = .ok i w := by simp [typeInfo, i1]
          have n1 : ¬ ((m : Int) < 0) := by omega
          have n2 : ¬ ((n : Int) < 0) := by omega
          have n3 : ¬ ((n : Int) > (m : Int)) := by omega
          have n4 : ¬ ((i.bytes : Int) * (m : Int) > 2 ^ 48) := by
            rw [i3, ← Int.natCast_mul]
            generalize ei.bytes * m = q at b2
            omega
          have zv : (zeroValue e).run P w = .ok z w := by simp [zeroValue, typeInfo, i1, i4]
          have hrun : (Instr.makeSlice t (a.eval l) (a.eval c)).run P w = .ok (.slice (some ⟨w.heap.size, 0, none⟩) n m) (w.alloc (.cells ((Array.range (m * ei.size)).map (z.cells[· % z.cells.size]!)) e)) := by
            simp only [hl, hc, Instr.makeSlice, Sem.run_bind, run_underlying hu, Result.andThen_ok, asInt, asIntOf, Sem.run_pure, t1, wr n (by omega), wr m b3]
            simp only [n1, n2, n3, n4, decide_false, Bool.or_false, Bool.or_self, Bool.false_eq_true, if_false, Int.toNat_natCast]
            simp only [Sem.run_bind]
            rw [run_askRoom]
            simp only [Result.andThen_ok, hty.run_size]
            by_cases h0 : m * ei.size = 0
            · have hz0 : (Array.range (m * ei.size)).map (z.cells[· % z.cells.size]!) = (Array.range (m * ei.size)).map ((#[] : Array Value)[· % (#[] : Array Value).size]!) := by rw [h0]; simp
              rw [hz0]
              simp only [h0, if_true, Sem.run_pure, Result.andThen_ok, Sem.run_bind, run_newRow]
            · simp only [h0, if_false, Sem.run_bind, zv, Result.andThen_ok, Sem.run_pure, run_newRow]
          simp only [execOp, hop, Sem.run_bind, hrun, Result.andThen_ok, Sem.run_pure]
        · simp only [VR, Option.getD_some]; exact ⟨_, upd_same _ _ _, rfl, b1⟩
    · exact absurd hg hf
  | _ => rw [hop] at hm; cases hm

/-- an operation that only looks leaves all as it is -/
theorem rdE_spec (hT : TabOk P tab) {self : CodeFn} {join : β → β → β} {fl : Nat} {o : Oper} {T : Fr} {h : Tr EO} {nx : Nat} {k : EV → Tr EO → Nat → β} {σ : Sg} {a : Act} {w : World} (hm : rdOp o.op = true) (hcv : cvB tab o.op = false)
    (hg : G (evOp tab self fail join fl o T h nx k)) (hops : ∀ x ∈ o.op.operands.toList, OpRel σ T a x) (hgl : GlOk tab σ) (H : Holds σ h w) :
    ∃ e e', (execOp a.eval o).run P w = .ok (.value e') w ∧ VR σ e e' ∧ G (k e h nx) := by
  unfold evOp at hg
  cases hop : o.op with
  | move x =>
    simp only [hop] at hg hops
    obtain ⟨v, hg, hv⟩ := evx_spec hf hg (hops x (by simp [Op.operands])) hgl
    exact ⟨v, _, by simp only [execOp, hop, Sem.run_pure], hv, hg⟩
  | assign x =>
    simp only [hop] at hg hops
    obtain ⟨v, hg, hv⟩ := evx_spec hf hg (hops x (by simp [Op.operands])) hgl
    exact ⟨v, _, by simp only [execOp, hop, Sem.run_pure], hv, hg⟩
  | pick c x y =>
    simp only [hop] at hg hops
    obtain ⟨vc, hg, hc⟩ := evx_spec hf hg (hops c (by simp [Op.operands])) hgl
    split at hg
    · rename_i b
      obtain ⟨vx, hg, hx⟩ := evx_spec hf hg (hops x (by simp [Op.operands])) hgl
      obtain ⟨vy, hg, hy⟩ := evx_spec hf hg (hops y (by simp [Op.operands])) hgl
      simp only [VR] at hc
      refine ⟨_, if b then a.eval x else a.eval y, ?_, ?_, hg⟩
      · simp only [execOp, hop, hc, asBool, Sem.run_bind, Sem.run_pure, Result.andThen_ok]
      · cases b
        · exact hy
        · exact hx
    · exact absurd hg hf
  | build t ps =>
    simp only [hop] at hg hops
    obtain ⟨ps', hg, hps⟩ := evParts_spec (a := a) (σ := σ) hf hgl hg (fun x hx => hops x.2 (by simp [Op.operands]; exact ⟨x.1, by simpa using hx⟩))
    obtain ⟨e, e', h1, h2, h3⟩ := buildE_spec (w := w) (ps' := ps.map fun (i, x) => (i, a.eval x)) hf hT hg (by simpa using hps)
    exact ⟨e, e', by simp only [execOp, hop, Sem.run_bind, h1, Result.andThen_ok, Sem.run_pure], h2, h3⟩
  | load t x =>
    simp only [hop] at hg hops
    obtain ⟨vx, hg, hx⟩ := evx_spec hf hg (hops x (by simp [Op.operands])) hgl
    obtain ⟨e, ad, e', h1, h2, h3, h4⟩ := loadE_spec hf hT hg hx H
    exact ⟨e, e', by simp only [execOp, hop, Instr.loadAt, h1, Instr.sureAddr, Sem.run_bind, Sem.run_pure, h2, Result.andThen_ok], h3, h4⟩
  | nilCheck x =>
    simp only [hop] at hg hops
    obtain ⟨vx, hg, hx⟩ := evx_spec hf hg (hops x (by simp [Op.operands])) hgl
    exact nilCheckE_spec (P := P) (w := w) hf hop hg hx
  | binOp op t x y yt =>
    simp only [hop] at hg hops
    obtain ⟨vx, hg, hx⟩ := evx_spec hf hg (hops x (by simp [Op.operands])) hgl
    obtain ⟨vy, hg, hy⟩ := evx_spec hf hg (hops y (by simp [Op.operands])) hgl
    obtain ⟨e, e', h1, h2, h3⟩ := binO_spec (P := P) (xo := x) (yo := y) (w := w) hf hT hg hx hy
    refine ⟨e, e', ?_, h2, h3⟩
    simp only [execOp, hop]
    rw [Sem.run_bind, h1]
    rfl
  | unOp op t x =>
    simp only [hop] at hg hops
    obtain ⟨vx, hg, hx⟩ := evx_spec hf hg (hops x (by simp [Op.operands])) hgl
    obtain ⟨e, e', h1, h2, h3⟩ := unE_spec (P := P) (w := w) hf hg hx
    exact ⟨e, e', by simp only [execOp, hop, Sem.run_bind, h1, Result.andThen_ok, Sem.run_pure], h2, h3⟩
  | convert src dst x =>
    simp only [hop] at hg hops
    obtain ⟨vx, hg, hx⟩ := evx_spec hf hg (hops x (by simp [Op.operands])) hgl
    rw [hop] at hcv
    rw [hcv] at hg
    simp only [cond_false] at hg
    split at hg
    · obtain ⟨e, e', h1, h2, h3⟩ := toStrE_spec (P := P) hf hT hg hx H
      exact ⟨e, e', by simp only [execOp, hop, Sem.run_bind, h1, Result.andThen_ok, Sem.run_pure], h2, h3⟩
    · obtain ⟨e, e', h1, h2, h3⟩ := toStrE_spec (P := P) hf hT hg hx H
      exact ⟨e, e', by simp only [execOp, hop, Sem.run_bind, h1, Result.andThen_ok, Sem.run_pure], h2, h3⟩
    · obtain ⟨e, e', h1, h2, h3⟩ := convE_spec (P := P) (w := w) hf hT hg hx
      exact ⟨e, e', by simp only [execOp, hop, Sem.run_bind, h1, Result.andThen_ok, Sem.run_pure], h2, h3⟩
  | makeFunc fn first cap =>
    simp only [hop] at hg hops
    cases fn with
    | func f =>
      simp only at hg
      obtain ⟨v1, hg, q1⟩ := evxs_spec (a := a) (σ := σ) hf hgl hg (fun x hx => hops x (by simp [Op.operands]; exact .inl (by simpa using hx)))
      obtain ⟨v2, hg, q2⟩ := evxs_spec (a := a) (σ := σ) hf hgl hg (fun x hx => hops x (by simp [Op.operands]; exact .inr (by simpa using hx)))
      refine ⟨_, .func (.func f) (first.map a.eval) (cap.map a.eval), ?_, ?_, hg⟩
      · simp only [execOp, hop, Instr.makeFunc, Sem.run_bind, Sem.run_pure, Result.andThen_ok]
      · simp only [VR]; exact ⟨_, _, rfl, by simpa using q1, by simpa using q2⟩
    | _ => exact absurd hg hf
  | slice t x lo hi mx =>
    simp only [hop] at hg hops
    obtain ⟨vx, hg, hx⟩ := evx_spec hf hg (hops x (by simp [Op.operands])) hgl
    obtain ⟨v1, hg, q1⟩ := evOpt_spec (a := a) (σ := σ) hf hg (fun y hy => hops y (by subst hy; simp [Op.operands])) hgl
    obtain ⟨v2, hg, q2⟩ := evOpt_spec (a := a) (σ := σ) hf hg (fun y hy => hops y (by subst hy; simp [Op.operands])) hgl
    obtain ⟨v3, hg, q3⟩ := evOpt_spec (a := a) (σ := σ) hf hg (fun y hy => hops y (by subst hy; simp [Op.operands])) hgl
    obtain ⟨e, e', h1, h2, h3⟩ := sliceE_spec hf hT hg hx q1 q2 q3 H
    exact ⟨e, e', by simp only [execOp, hop, Sem.run_bind, h1, Result.andThen_ok, Sem.run_pure], h2, h3⟩
  | fieldAddr s x f =>
    simp only [hop] at hg hops
    obtain ⟨vx, hg, hx⟩ := evx_spec hf hg (hops x (by simp [Op.operands])) hgl
    obtain ⟨e, e', h1, h2, h3⟩ := fieldAddrE_spec (w := w) hf hT hg hx
    exact ⟨e, e', by simp only [execOp, hop, Sem.run_bind, h1, Result.andThen_ok, Sem.run_pure], h2, h3⟩
  | field s x f =>
    simp only [hop] at hg hops
    obtain ⟨vx, hg, hx⟩ := evx_spec hf hg (hops x (by simp [Op.operands])) hgl
    obtain ⟨e, e', h1, h2, h3⟩ := fieldE_spec (w := w) hf hT hg hx
    exact ⟨e, e', by simp only [execOp, hop, Sem.run_bind, h1, Result.andThen_ok, Sem.run_pure], h2, h3⟩
  | indexAddr t x i =>
    simp only [hop] at hg hops
    obtain ⟨vx, hg, hx⟩ := evx_spec hf hg (hops x (by simp [Op.operands])) hgl
    obtain ⟨vi, hg, hi⟩ := evx_spec hf hg (hops i (by simp [Op.operands])) hgl
    obtain ⟨e, e', h1, h2, h3⟩ := indexAddrE_spec (w := w) hf hT hg hx hi
    exact ⟨e, e', by simp only [execOp, hop, Sem.run_bind, h1, Result.andThen_ok, Sem.run_pure], h2, h3⟩
  | index t x i =>
    simp only [hop] at hg hops
    obtain ⟨vx, hg, hx⟩ := evx_spec hf hg (hops x (by simp [Op.operands])) hgl
    obtain ⟨vi, hg, hi⟩ := evx_spec hf hg (hops i (by simp [Op.operands])) hgl
    obtain ⟨e, e', h1, h2, h3⟩ := indexE_spec (w := w) hf hT hg hx hi
    exact ⟨e, e', by simp only [execOp, hop, Sem.run_bind, h1, Result.andThen_ok, Sem.run_pure], h2, h3⟩
  | lookup t x i ok =>
    simp only [hop] at hg hops
    obtain ⟨vx, hg, hx⟩ := evx_spec hf hg (hops x (by simp [Op.operands])) hgl
    obtain ⟨vi, hg, hi⟩ := evx_spec hf hg (hops i (by simp [Op.operands])) hgl
    obtain ⟨e, e', h1, h2, h3⟩ := lookupE_spec hf hT hg hx hi H
    exact ⟨e, e', by simp only [execOp, hop, Sem.run_bind, h1, Result.andThen_ok, Sem.run_pure], h2, h3⟩
  | extract x i =>
    simp only [hop] at hg hops
    obtain ⟨vx, hg, hx⟩ := evx_spec hf hg (hops x (by simp [Op.operands])) hgl
    obtain ⟨e, e', h1, h2, h3⟩ := extractE_spec (P := P) (w := w) hf hg hx
    exact ⟨e, e', by simp only [execOp, hop, Sem.run_bind, h1, Result.andThen_ok, Sem.run_pure], h2, h3⟩
  | call c =>
    simp only [hop] at hg hops hm
    cases hc : c.callee with
    | builtin b =>
      simp only [hc] at hg
      obtain ⟨va, hg, q2⟩ := evxs_spec (a := a) (σ := σ) hf hgl hg (fun x hx => hops x (by simp [Op.operands, Call.operands, hc]; simpa using hx))
      obtain ⟨cs, hrun⟩ : ∃ cs, (execOp a.eval o).run P w = (builtin b c.argTypes o.type cs (c.args.map a.eval)).run P w := by
        simp only [execOp, hop, resolve, hc, Sem.run_bind, Sem.run_pure, Result.andThen_ok, invoke]
        exact ⟨_, rfl⟩
      unfold builtinE at hg
      cases hts : c.argTypes.toList with
      | nil => simp only [hts] at hg; exact absurd hg hf
      | cons t ts =>
        simp only [hts] at hg
        have hat : c.argTypes = (t :: ts).toArray := by rw [← hts]
        cases b <;> simp only at hg <;> first | exact absurd hg hf | skip
        case clear => rw [rdOp.eq_def] at hm; simp only [hc] at hm; cases hm
        case copy => rw [rdOp.eq_def] at hm; simp only [hc] at hm; cases hm
        case append => rw [rdOp.eq_def] at hm; simp only [hc] at hm; cases hm
        case delete => rw [rdOp.eq_def] at hm; simp only [hc] at hm; cases hm
        case max =>
          split at hg
          · rename_i ki x kj y
            cases hk : ikEq ki kj with
            | false => rw [hk] at hg; exact absurd hg hf
            | true =>
              rw [hk] at hg
              have := ikEq_eq hk
              subst this
              simp only [VRs, VR] at q2
              obtain ⟨_, m1, h1, rfl, _, m2, rfl, rfl, rfl⟩ := q2
              have harg : c.args.map a.eval = #[.int ki x, .int ki y] := by
                apply Array.ext'; simpa using h1
              refine ⟨_, .int ki (bif ltInt x y then y else x), ?_, by simp only [VR], hg⟩
              rw [hrun, harg]
              simp only [builtin]
              rw [run_max2]
          · exact absurd hg hf
        case min =>
          split at hg
          · rename_i ki x kj y
            cases hk : ikEq ki kj with
            | false => rw [hk] at hg; exact absurd hg hf
            | true =>
              rw [hk] at hg
              have := ikEq_eq hk
              subst this
              simp only [VRs, VR] at q2
              obtain ⟨_, m1, h1, rfl, _, m2, rfl, rfl, rfl⟩ := q2
              have harg : c.args.map a.eval = #[.int ki x, .int ki y] := by
                apply Array.ext'; simpa using h1
              refine ⟨_, .int ki (bif ltInt y x then y else x), ?_, by simp only [VR], hg⟩
              rw [hrun, harg]
              simp only [builtin]
              rw [run_min2]
          · exact absurd hg hf
        case cap =>
          split at hg
          · rename_i v
            simp only [VRs] at q2
            obtain ⟨v', m1, h1, q3, h3⟩ := q2
            subst h3
            have harg : c.args.map a.eval = #[v'] := by
              apply Array.ext'; simpa using h1
            cases hti : tab.ty.get t with
            | none => simp only [hti] at hg; exact absurd hg hf
            | some i =>
              simp only [hti] at hg
              obtain ⟨e, e', h1, h2, h3⟩ := capE_spec (P := P) (w := w) (ty := o.type) hf (hT.ty t i hti).und hg q3
              refine ⟨e, e', ?_, h2, h3⟩
              rw [hrun, harg]
              have hl : (Builtin.cap_ c.argTypes o.type #[v']) = Builtin.cap_ #[t] o.type #[v'] := by rw [hat]; rfl
              simp only [builtin, hl, Sem.run_bind, h1, Result.andThen_ok, Sem.run_pure]
          · exact absurd hg hf
        case len =>
          split at hg
          · rename_i v
            simp only [VRs] at q2
            obtain ⟨v', m1, h1, q3, h3⟩ := q2
            subst h3
            have harg : c.args.map a.eval = #[v'] := by
              apply Array.ext'; simpa using h1
            cases hti : tab.ty.get t with
            | none => simp only [hti] at hg; exact absurd hg hf
            | some i =>
              simp only [hti] at hg
              obtain ⟨e, e', h1, h2, h3⟩ := lenE_spec (P := P) (ty := o.type) hf (hT.ty t i hti).und hg q3 H
              refine ⟨e, e', ?_, h2, h3⟩
              rw [hrun, harg]
              have hl : (Builtin.len_ c.argTypes o.type #[v']) = Builtin.len_ #[t] o.type #[v'] := by rw [hat]; rfl
              simp only [builtin, hl, Sem.run_bind, h1, Result.andThen_ok, Sem.run_pure]
          · exact absurd hg hf
    | _ => simp only [rdOp, hop, hc] at hm; cases hm
  | _ => rw [hop] at hm; cases hm
end
end Go.Proofs.YtmlkfgoiakcnhaaGreatDoor
