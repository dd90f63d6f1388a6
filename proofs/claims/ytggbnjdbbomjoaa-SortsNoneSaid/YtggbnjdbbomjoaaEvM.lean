/- An operation of the abstract run beside the machine's; operations in the order of the text. -/
import Derived.Test.YtggbnjdbbomjoaaEvL
namespace Go.Proofs.Ytggbnjdbbomjoaa
open Go Go.RowKit

section
variable {P : Program} {tab : Tab} {β : Type} {fail : β} {G : β → Prop} (hf : ¬ G fail) (hT : TabOk P tab)
include hf hT
theorem evOp_flow {self : CodeFn} (hS : SoundC P tab self) {join : β → β → β} (hj : ∀ x y, G (join x y) → G x ∧ G y) {fl : Nat} {o : Oper} {T : Tr EV} {h : Tr EO} {nx : Nat} {k : EV → Tr EO → Nat → β} {σ : Sg} {a : Act} {w : World}
    (hg : G (evOp tab self fail join fl o T h nx k)) (hops : ∀ x ∈ o.op.operands.toList, OpRel σ T a x) (hgl : GlOk tab σ) (H : Holds σ h w) (F : Fresh σ nx) (hfl : fl ≤ nx) :
    Oper.flow P o a w fun v' w' => ∃ v h' nx' σ', VR σ' v v' ∧ Post fl σ h nx w σ' h' nx' w' ∧ G (k v h' nx') := by
  have stay : ∀ (e : EV) (e' : Value), (execOp a.eval o).run P w = .ok (.value e') w → VR σ e e' → G (k e h nx) → Oper.flow P o a w fun v' w' => ∃ v h' nx' σ', VR σ' v v' ∧ Post fl σ h nx w σ' h' nx' w' ∧ G (k v h' nx') :=
    fun e e' h1 h2 h3 => flow_value h1 ⟨e, h, nx, σ, h2, Post.refl H F, h3⟩
  unfold evOp at hg
  cases hop : o.op with
  | move x =>
    simp only [hop] at hg hops
    obtain ⟨v, hg, hv⟩ := evx_spec hf hg (hops x (by simp [Op.operands])) hgl
    exact stay v _ (by simp only [execOp, hop, Sem.run_pure]) hv hg
  | assign x =>
    simp only [hop] at hg hops
    obtain ⟨v, hg, hv⟩ := evx_spec hf hg (hops x (by simp [Op.operands])) hgl
    exact stay v _ (by simp only [execOp, hop, Sem.run_pure]) hv hg
  | pick c x y =>
    simp only [hop] at hg hops
    obtain ⟨vc, hg, hc⟩ := evx_spec hf hg (hops c (by simp [Op.operands])) hgl
    split at hg
    · rename_i b
      obtain ⟨vx, hg, hx⟩ := evx_spec hf hg (hops x (by simp [Op.operands])) hgl
      obtain ⟨vy, hg, hy⟩ := evx_spec hf hg (hops y (by simp [Op.operands])) hgl
      simp only [VR] at hc
      refine stay _ (if b then a.eval x else a.eval y) ?_ ?_ hg
      · simp only [execOp, hop, hc, asBool, Sem.run_bind, Sem.run_pure, Result.andThen_ok]
      · cases b
        · exact hy
        · exact hx
    · exact absurd hg hf
  | alloc e =>
    simp only [hop] at hg hops
    obtain ⟨v, h', nx', σ', v', w', h1, h2, h3, h4⟩ := allocE_spec hf hT hg H F hfl
    exact flow_value (by simp only [execOp, hop, Sem.run_bind, h1, Result.andThen_ok, Sem.run_pure]) ⟨v, h', nx', σ', h2, h3, h4⟩
  | box e x =>
    simp only [hop] at hg hops
    obtain ⟨vx, hg, hx⟩ := evx_spec hf hg (hops x (by simp [Op.operands])) hgl
    obtain ⟨v, h', nx', σ', v', w', h1, h2, h3, h4⟩ := boxE_spec (P := P) (t := e) hf hg hx H F hfl
    exact flow_value (by simp only [execOp, hop, Sem.run_bind, h1, Result.andThen_ok, Sem.run_pure]) ⟨v, h', nx', σ', h2, h3, h4⟩
  | build t ps =>
    simp only [hop] at hg hops
    obtain ⟨ps', hg, hps⟩ := evParts_spec (a := a) (σ := σ) hf hgl hg (fun x hx => hops x.2 (by simp [Op.operands]; exact ⟨x.1, by simpa using hx⟩))
    obtain ⟨e, e', h1, h2, h3⟩ := buildE_spec (w := w) (ps' := ps.map fun (i, x) => (i, a.eval x)) hf hT hg (by simpa using hps)
    exact stay e e' (by simp only [execOp, hop, Sem.run_bind, h1, Result.andThen_ok, Sem.run_pure]) h2 h3
  | buildSlice t len ps =>
    simp only [hop] at hg hops
    obtain ⟨ps', hg, hps⟩ := evParts_spec (a := a) (σ := σ) hf hgl hg (fun x hx => hops x.2 (by simp [Op.operands]; exact ⟨x.1, by simpa using hx⟩))
    obtain ⟨v, h', nx', σ', v', w', h1, h2, h3, h4⟩ := buildSliceE_spec (ps' := ps.map fun (i, x) => (i, a.eval x)) hf hT hg (by simpa using hps) H F hfl
    exact flow_value (by simp only [execOp, hop, Sem.run_bind, h1, Result.andThen_ok, Sem.run_pure]) ⟨v, h', nx', σ', h2, h3, h4⟩
  | load t x =>
    simp only [hop] at hg hops
    obtain ⟨vx, hg, hx⟩ := evx_spec hf hg (hops x (by simp [Op.operands])) hgl
    obtain ⟨e, ad, e', h1, h2, h3, h4⟩ := loadE_spec hf hT hg hx H
    exact stay e e' (by simp only [execOp, hop, Instr.loadAt, h1, Instr.sureAddr, Sem.run_bind, Sem.run_pure, h2, Result.andThen_ok]) h3 h4
  | store t x y =>
    simp only [hop] at hg hops
    obtain ⟨vx, hg, hx⟩ := evx_spec hf hg (hops x (by simp [Op.operands])) hgl
    obtain ⟨vy, hg, hy⟩ := evx_spec hf hg (hops y (by simp [Op.operands])) hgl
    obtain ⟨h', w', h1, h2, h3⟩ := storeE_spec hf hT hg hx hy H F
    exact flow_skip (by simp only [execOp, hop, Sem.run_bind, h1, Result.andThen_ok, Sem.run_pure]) ⟨_, h', nx, σ, undefE_spec σ, h2, h3⟩
  | nilCheck x =>
    simp only [hop] at hg hops
    obtain ⟨vx, hg, hx⟩ := evx_spec hf hg (hops x (by simp [Op.operands])) hgl
    obtain ⟨e, e', h1, h2, h3⟩ := nilCheckE_spec (P := P) (w := w) hf hop hg hx
    exact stay e e' h1 h2 h3
  | binOp op t x y yt =>
    simp only [hop] at hg hops
    obtain ⟨vx, hg, hx⟩ := evx_spec hf hg (hops x (by simp [Op.operands])) hgl
    obtain ⟨vy, hg, hy⟩ := evx_spec hf hg (hops y (by simp [Op.operands])) hgl
    obtain ⟨e, e', h1, h2, h3⟩ := binE_spec (P := P) (xo := x) (yo := y) (w := w) hf hT hg hx hy
    refine stay e e' ?_ h2 h3
    simp only [execOp, hop]
    rw [Sem.run_bind, h1]
    rfl
  | unOp op t x =>
    simp only [hop] at hg hops
    obtain ⟨vx, hg, hx⟩ := evx_spec hf hg (hops x (by simp [Op.operands])) hgl
    obtain ⟨e, e', h1, h2, h3⟩ := unE_spec (P := P) (w := w) hf hg hx
    exact stay e e' (by simp only [execOp, hop, Sem.run_bind, h1, Result.andThen_ok, Sem.run_pure]) h2 h3
  | convert src dst x =>
    simp only [hop] at hg hops
    obtain ⟨vx, hg, hx⟩ := evx_spec hf hg (hops x (by simp [Op.operands])) hgl
    obtain ⟨e, e', h1, h2, h3⟩ := convE_spec (P := P) (w := w) hf hT hg hx
    exact stay e e' (by simp only [execOp, hop, Sem.run_bind, h1, Result.andThen_ok, Sem.run_pure]) h2 h3
  | makeFunc fn first cap =>
    simp only [hop] at hg hops
    cases fn with
    | func f =>
      simp only at hg
      obtain ⟨v1, hg, q1⟩ := evxs_spec (a := a) (σ := σ) hf hgl hg (fun x hx => hops x (by simp [Op.operands]; exact .inl (by simpa using hx)))
      obtain ⟨v2, hg, q2⟩ := evxs_spec (a := a) (σ := σ) hf hgl hg (fun x hx => hops x (by simp [Op.operands]; exact .inr (by simpa using hx)))
      refine stay _ (.func (.func f) (first.map a.eval) (cap.map a.eval)) ?_ ?_ hg
      · simp only [execOp, hop, Instr.makeFunc, Sem.run_bind, Sem.run_pure, Result.andThen_ok]
      · simp only [VR]; exact ⟨_, _, rfl, by simpa using q1, by simpa using q2⟩
    | _ => exact absurd hg hf
  | makeMap t r =>
    simp only [hop] at hg hops
    cases r with
    | some _ => exact absurd hg hf
    | none =>
      simp only [newB] at hg
      obtain ⟨h', hp, hg⟩ := Tr.put_spec hf _ _ _ _ hg
      refine flow_value (v := .map (some w.heap.size)) (w' := w.alloc (.map #[] 0)) ?_ ⟨_, h', Nat.succ nx, upd σ nx ⟨w.heap.size, 0, 0⟩, ?_, ?_, hg⟩
      · simp [execOp, hop, Instr.makeMap, newObj, Sem.run]
      · simp only [VR]; exact ⟨_, upd_same _ _ _, rfl⟩
      · exact Post.mk_new H F hfl hp rfl rfl rfl rfl ⟨#[], rfl, by simp [ER]⟩
  | makeSlice t l c =>
    simp only [hop] at hg hops
    obtain ⟨vl, hg, hl⟩ := evx_spec hf hg (hops l (by simp [Op.operands])) hgl
    obtain ⟨vc, hg, hc⟩ := evx_spec hf hg (hops c (by simp [Op.operands])) hgl
    obtain ⟨v, h', nx', σ', v', w', h1, h2, h3, h4⟩ := makeSliceE_spec hf hT hg hl hc H F hfl
    exact flow_value (by simp only [execOp, hop, Sem.run_bind, h1, Result.andThen_ok, Sem.run_pure]) ⟨v, h', nx', σ', h2, h3, h4⟩
  | slice t x lo hi mx =>
    simp only [hop] at hg hops
    obtain ⟨vx, hg, hx⟩ := evx_spec hf hg (hops x (by simp [Op.operands])) hgl
    obtain ⟨v1, hg, q1⟩ := evOpt_spec (a := a) (σ := σ) hf hg (fun y hy => hops y (by subst hy; simp [Op.operands])) hgl
    obtain ⟨v2, hg, q2⟩ := evOpt_spec (a := a) (σ := σ) hf hg (fun y hy => hops y (by subst hy; simp [Op.operands])) hgl
    obtain ⟨v3, hg, q3⟩ := evOpt_spec (a := a) (σ := σ) hf hg (fun y hy => hops y (by subst hy; simp [Op.operands])) hgl
    obtain ⟨e, e', h1, h2, h3⟩ := sliceE_spec hf hT hg hx q1 q2 q3 H
    exact stay e e' (by simp only [execOp, hop, Sem.run_bind, h1, Result.andThen_ok, Sem.run_pure]) h2 h3
  | fieldAddr s x f =>
    simp only [hop] at hg hops
    obtain ⟨vx, hg, hx⟩ := evx_spec hf hg (hops x (by simp [Op.operands])) hgl
    obtain ⟨e, e', h1, h2, h3⟩ := fieldAddrE_spec (w := w) hf hT hg hx
    exact stay e e' (by simp only [execOp, hop, Sem.run_bind, h1, Result.andThen_ok, Sem.run_pure]) h2 h3
  | field s x f =>
    simp only [hop] at hg hops
    obtain ⟨vx, hg, hx⟩ := evx_spec hf hg (hops x (by simp [Op.operands])) hgl
    obtain ⟨e, e', h1, h2, h3⟩ := fieldE_spec (w := w) hf hT hg hx
    exact stay e e' (by simp only [execOp, hop, Sem.run_bind, h1, Result.andThen_ok, Sem.run_pure]) h2 h3
  | indexAddr t x i =>
    simp only [hop] at hg hops
    obtain ⟨vx, hg, hx⟩ := evx_spec hf hg (hops x (by simp [Op.operands])) hgl
    obtain ⟨vi, hg, hi⟩ := evx_spec hf hg (hops i (by simp [Op.operands])) hgl
    obtain ⟨e, e', h1, h2, h3⟩ := indexAddrE_spec (w := w) hf hT hg hx hi
    exact stay e e' (by simp only [execOp, hop, Sem.run_bind, h1, Result.andThen_ok, Sem.run_pure]) h2 h3
  | index t x i =>
    simp only [hop] at hg hops
    obtain ⟨vx, hg, hx⟩ := evx_spec hf hg (hops x (by simp [Op.operands])) hgl
    obtain ⟨vi, hg, hi⟩ := evx_spec hf hg (hops i (by simp [Op.operands])) hgl
    obtain ⟨e, e', h1, h2, h3⟩ := indexE_spec (w := w) hf hT hg hx hi
    exact stay e e' (by simp only [execOp, hop, Sem.run_bind, h1, Result.andThen_ok, Sem.run_pure]) h2 h3
  | lookup t x i ok =>
    simp only [hop] at hg hops
    obtain ⟨vx, hg, hx⟩ := evx_spec hf hg (hops x (by simp [Op.operands])) hgl
    obtain ⟨vi, hg, hi⟩ := evx_spec hf hg (hops i (by simp [Op.operands])) hgl
    obtain ⟨e, e', h1, h2, h3⟩ := lookupE_spec hf hT hg hx hi H
    exact stay e e' (by simp only [execOp, hop, Sem.run_bind, h1, Result.andThen_ok, Sem.run_pure]) h2 h3
  | mapUpdate t m i y =>
    simp only [hop] at hg hops
    obtain ⟨vm, hg, hm⟩ := evx_spec hf hg (hops m (by simp [Op.operands])) hgl
    obtain ⟨vi, hg, hi⟩ := evx_spec hf hg (hops i (by simp [Op.operands])) hgl
    obtain ⟨vy, hg, hy⟩ := evx_spec hf hg (hops y (by simp [Op.operands])) hgl
    obtain ⟨h', w', h1, h2, h3⟩ := mapUpdateE_spec hf hT hg hm hi hy H F
    exact flow_skip (by simp only [execOp, hop, Sem.run_bind, h1, Result.andThen_ok, Sem.run_pure]) ⟨_, h', nx, σ, undefE_spec σ, h2, h3⟩
  | insert t m i y =>
    simp only [hop] at hg hops
    obtain ⟨vm, hg, hm⟩ := evx_spec hf hg (hops m (by simp [Op.operands])) hgl
    obtain ⟨vi, hg, hi⟩ := evx_spec hf hg (hops i (by simp [Op.operands])) hgl
    obtain ⟨vy, hg, hy⟩ := evx_spec hf hg (hops y (by simp [Op.operands])) hgl
    obtain ⟨h', w', h1, h2, h3⟩ := mapUpdateE_spec hf hT hg hm hi hy H F
    exact flow_skip (by simp only [execOp, hop, Sem.run_bind, h1, Result.andThen_ok, Sem.run_pure]) ⟨_, h', nx, σ, undefE_spec σ, h2, h3⟩
  | extract x i =>
    simp only [hop] at hg hops
    obtain ⟨vx, hg, hx⟩ := evx_spec hf hg (hops x (by simp [Op.operands])) hgl
    obtain ⟨e, e', h1, h2, h3⟩ := extractE_spec (P := P) (w := w) hf hg hx
    exact stay e e' (by simp only [execOp, hop, Sem.run_bind, h1, Result.andThen_ok, Sem.run_pure]) h2 h3
  | call c =>
    simp only [hop] at hg hops
    cases hc : c.callee with
    | value f =>
      simp only [hc] at hg
      obtain ⟨vf, hg, q1⟩ := evx_spec (a := a) (σ := σ) hf hg (hops f (by simp [Op.operands, Call.operands, hc])) hgl
      obtain ⟨va, hg, q2⟩ := evxs_spec (a := a) (σ := σ) hf hgl hg (fun x hx => hops x (by simp [Op.operands, Call.operands, hc]; exact .inr (by simpa using hx)))
      cases vf with
      | func fid first cap =>
        simp only at hg
        simp only [VR] at q1
        obtain ⟨x1, x2, e1, q3, q4⟩ := q1
        obtain ⟨hcf, hcall⟩ := callE_spec (args' := x1 ++ c.args.map a.eval ++ x2) hf hT hS hj hg (by simpa [Array.toList_append] using (q3.app q2).app q4) hgl H F hfl
        unfold Oper.flow
        have : (execOp a.eval o).run P w = .ok (.enter fid (x1 ++ c.args.map a.eval ++ x2)) w := by
          simp only [execOp, hop, resolve, hc, e1, Deferred.ofValue, Sem.run_bind, Sem.run_pure, Result.andThen_ok, invoke, hcf]
        rw [this]
        exact hcall
      | _ => exact absurd hg hf
    | builtin b =>
      simp only [hc] at hg
      obtain ⟨va, hg, q2⟩ := evxs_spec (a := a) (σ := σ) hf hgl hg (fun x hx => hops x (by simp [Op.operands, Call.operands, hc]; simpa using hx))
      obtain ⟨cs, hrun⟩ : ∃ cs, (execOp a.eval o).run P w = (builtin b c.argTypes o.type cs (c.args.map a.eval)).run P w := by
        simp only [execOp, hop, resolve, hc, Sem.run_bind, Sem.run_pure, Result.andThen_ok, invoke]
        exact ⟨_, rfl⟩
      unfold builtinE at hg
      cases hts : c.argTypes.toList with
      | nil => simp only [hts] at hg; exact absurd hg hf
      | cons t ts =>
        simp only [hts] at hg
        have hat : c.argTypes = (t :: ts).toArray := by rw [← hts]
        cases b <;> simp only at hg <;> first | exact absurd hg hf | skip
        case append =>
          split at hg
          · rename_i s x t2 u hts2
            cases hts2
            simp only [VRs] at q2
            obtain ⟨s', m1, h1, q3, x', m2, h2, q4, h3⟩ := q2
            subst h2; subst h3
            cases htu : Nat.beq t u with
            | false => rw [htu] at hg; exact absurd hg hf
            | true =>
              rw [htu] at hg
              have := Nat.eq_of_beq_eq_true htu
              subst this
              have harg : c.args.map a.eval = #[s', x'] := by
                apply Array.ext'; simpa using h1
              obtain ⟨v, h', nx', σ', v', w', h1, h2, h3, h4⟩ := appendE_spec (ty := o.type) hf hT hg q3 q4 H F hfl
              refine flow_value (v := v') (w' := w') ?_ ⟨v, h', nx', σ', h2, h3, h4⟩
              rw [hrun, hat, harg]
              simp only [builtin, Sem.run_bind, h1, Result.andThen_ok, Sem.run_pure]
          · exact absurd hg hf
        case delete =>
          split at hg
          · rename_i m key
            simp only [VRs] at q2
            obtain ⟨m', m1, h1, q3, k', m2, h2, q4, h3⟩ := q2
            subst h2; subst h3
            have harg : c.args.map a.eval = #[m', k'] := by
              apply Array.ext'; simpa using h1
            obtain ⟨h', w', h1, h2, h3⟩ := deleteE_spec (ty := o.type) (ts := c.argTypes) hf hT (by rw [hat]; rfl) hg q3 q4 H F
            refine flow_value (v := undef) (w' := w') ?_ ⟨_, h', nx, σ, undefE_spec σ, h2, h3⟩
            rw [hrun, harg]
            simp only [builtin, Sem.run_bind, h1, Result.andThen_ok, Sem.run_pure]
            rfl
          · exact absurd hg hf
        case len =>
          split at hg
          · rename_i v
            simp only [VRs] at q2
            obtain ⟨v', m1, h1, q3, h3⟩ := q2
            subst h3
            have harg : c.args.map a.eval = #[v'] := by
              apply Array.ext'; simpa using h1
            cases hti : tab.ty.get t with
            | none => simp only [hti] at hg; exact absurd hg hf
            | some i =>
              simp only [hti] at hg
              obtain ⟨e, e', h1, h2, h3⟩ := lenE_spec (P := P) (ty := o.type) hf (hT.ty t i hti).und hg q3 H
              refine stay e e' ?_ h2 h3
              rw [hrun, harg]
              have hl : (Builtin.len_ c.argTypes o.type #[v']) = Builtin.len_ #[t] o.type #[v'] := by rw [hat]; rfl
              simp only [builtin, hl, Sem.run_bind, h1, Result.andThen_ok, Sem.run_pure]
          · exact absurd hg hf
    | _ => simp only [hc] at hg; exact absurd hg hf
  | _ => simp only [hop] at hg; exact absurd hg hf
end
end Go.Proofs.Ytggbnjdbbomjoaa
