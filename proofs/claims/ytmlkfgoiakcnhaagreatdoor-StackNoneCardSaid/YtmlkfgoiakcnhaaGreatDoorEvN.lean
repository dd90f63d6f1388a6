/- Operations of the abstract run in the order of the text, beside the machine's. -/
import Derived.Test.YtmlkfgoiakcnhaaGreatDoorEvM
namespace Go.Proofs.YtmlkfgoiakcnhaaGreatDoor
open Go Go.RowKit

theorem wantedE_spec {ops : Array Oper} {T : Fr} {o : Oper} {b : Bool} {σ : Sg} {a : Act} (h : wantedE ops T o = some b)
    (hr : ∀ j want p d, o.guard = some (j, want) → ops[j]? = some p → p.dst = some d → VR σ ((T.get d).getD undefE) (a.tmps.getD d undef)) : Region.wanted o (yielded ops a.tmps) = b := by
  unfold wantedE at h
  unfold Region.wanted
  cases hg : o.guard with
  | none => simp only [hg, Option.some.injEq] at h ⊢; exact h
  | some g =>
    obtain ⟨j, want⟩ := g
    simp only [hg] at h ⊢
    cases hj : ops[j]? with
    | none =>
      simp only [hj, Option.some.injEq] at h
      subst h
      simp [yielded, hj]
    | some p =>
      simp only [hj] at h
      cases hd : p.dst with
      | none =>
        simp only [hd, Option.some.injEq] at h
        subst h
        simp [yielded, hj, hd]
      | some d =>
        have hv := hr j want p d hg hj hd
        simp only [hd] at h
        have hy : ∀ v, a.tmps.getD d undef = v → (∀ c, v ≠ .bool c) → yielded ops a.tmps j = none := by
          intro v e hn
          unfold yielded
          simp only [hj, hd, Option.bind_some]
          cases ht : a.tmps[d]? with
          | none => rfl
          | some u =>
            have : a.tmps.getD d undef = u := by simp [ht]
            rw [this] at e
            subst e
            cases u <;> first | rfl | exact absurd rfl (hn _)
        split at h
        · rename_i c hT
          simp only [hT, Option.getD_some, VR] at hv
          simp only [Option.some.injEq] at h
          have : yielded ops a.tmps j = some c := by
            unfold yielded
            simp only [hj, hd, Option.bind_some]
            cases ht : a.tmps[d]? with
            | none => simp [ht] at hv; cases hv
            | some u =>
              have : u = .bool c := by simpa [ht] using hv
              subst this; rfl
          rw [this, ← h]
          cases c <;> cases want <;> rfl
        · rename_i hT
          simp only [hT, Option.getD_some, VR, VRs] at hv
          simp only [Option.some.injEq] at h
          obtain ⟨x, hx, _⟩ := hv
          rw [hy _ hx (fun c => by simp)]
          subst h; rfl
        · rename_i hT
          simp only [hT, Option.getD_none, undefE, VR, VRs] at hv
          simp only [Option.some.injEq] at h
          obtain ⟨x, hx, _⟩ := hv
          rw [hy _ hx (fun c => by simp)]
          subst h; rfl
        · cases h

section
variable {P : Program} {tab : Tab} {β : Type} {fail : β} {G : β → Prop} (hf : ¬ G fail)
include hf
theorem putD_spec {nt : Nat} {d : Option Nat} {v : EV} {T : Fr} {k : Fr → β} (hg : G (putD fail nt d v T k)) :
    ∃ T' : Fr, G (k T') ∧ (∀ x, T'.get x = if d = some x then some v else T.get x) ∧ (∀ x, d = some x → x < nt) ∧ T'.D = T.D ∧ T'.ro = T.ro := by
  unfold putD at hg
  cases d with
  | none => exact ⟨T, hg, fun x => by simp, fun x h => (by cases h), rfl, rfl⟩
  | some d =>
    simp only at hg
    cases hb : Nat.ble (Nat.succ d) nt with
    | false => rw [hb] at hg; exact absurd hg hf
    | true =>
      rw [hb] at hg
      obtain ⟨T', hT, hg⟩ := Tr.put_spec hf _ _ _ _ hg
      refine ⟨_, hg, fun x => ?_, fun x h => ?_, rfl, rfl⟩
      · show T'.get x = if some d = some x then some v else T.T.get x
        rw [hT]
        by_cases e : x = d
        · subst e; simp
        · rw [if_neg e, if_neg (fun h => e (Option.some.inj h).symm)]
      · cases h; exact Nat.le_of_ble_eq_true hb
omit hf in
theorem TRel.put {σ : Sg} {T T' : Fr} {nt : Nat} {a : Act} {d : Option Nat} {v : EV} {v' : Value} (H : TRel σ T nt a) (hv : VR σ v v') (hT : ∀ x, T'.get x = if d = some x then some v else T.get x) (hd : ∀ x, d = some x → x < nt) (hD : T'.D = T.D) :
    TRel σ T' nt (a.put d v') := by
  refine ⟨?_, ?_, fun i => ?_⟩
  · rw [hD]; cases d <;> exact H.defers
  · cases d with
    | none => exact H.size
    | some d => simp [Act.put, H.size]
  · rw [hT]
    cases d with
    | none => simp only [reduceCtorEq, if_false]; exact H.at_ i
    | some d =>
      have hlt : d < a.tmps.size := by rw [H.size]; exact hd d rfl
      by_cases e : d = i
      · subst e
        simp only [if_true, Option.getD_some]
        simp [Act.put, hlt]
        exact hv
      · have e' : ¬ (some d = some i) := fun h => e (Option.some.inj h)
        rw [if_neg e']
        have : (a.put (some d) v').tmps.getD i undef = a.tmps.getD i undef := by
          simp only [Act.put, Array.getD_eq_getD_getElem?, Array.getElem?_setIfInBounds]
          rw [if_neg e]
        rw [this]; exact H.at_ i
/-- no operation of the run's defers a call -/
theorem evOp_nodefer {self : CodeFn} {join : β → β → β} {fl : Nat} {o : Oper} {T : Fr} {h : Tr EO} {nx : Nat} {k : EV → Tr EO → Nat → β} (hg : G (evOp tab self fail join fl o T h nx k)) : ∀ c, o.op ≠ .defer c := by
  intro c hc
  unfold evOp at hg
  simp only [hc] at hg
  exact hf hg

theorem evOps_spec (hT : TabOk P tab) {self : CodeFn} (hS : SoundC P tab self) {join : β → β → β} (hj : ∀ x y, G (join x y) → G x ∧ G y) {nt fl : Nat} {ops : Array Oper} {Q : Exit → Act → World → Prop} {r : Option Nat} :
    ∀ {l : List Oper} {T : Fr} {h : Tr EO} {nx : Nat} {k : Fr → Tr EO → Nat → β} {σ : Sg} {a : Act} {w : World}, G (evOps tab self fail join nt fl ops l T h nx k) → TRel σ T nt a → GlOk tab σ → Holds σ h w → Fresh σ nx → fl ≤ nx →
      (∀ T' h' nx' σ' a' w', G (k T' h' nx') → TRel σ' T' nt a' → T'.ro = T.ro → Post fl σ h nx w σ' h' nx' w' → Q .normal a' w') → wpListIn (WF r) 0 P ops Q l a w := by
  intro l
  induction l with
  | nil =>
    intro T h nx k σ a w hg HT hgl H F hfl hQ
    exact hQ T h nx σ a w hg HT rfl (Post.refl H F)
  | cons o l ih =>
    intro T h nx k σ a w hg HT hgl H F hfl hQ
    simp only [evOps] at hg
    cases hw : wantedE ops T o with
    | none => simp only [hw] at hg; exact absurd hg hf
    | some b =>
      simp only [hw] at hg
      have hwn := wantedE_spec (a := a) (σ := σ) hw (fun j want p d _ _ _ => HT.at_ d)
      unfold wpListIn
      cases b with
      | false =>
        simp only at hg
        rw [if_neg (by rw [hwn]; simp)]
        obtain ⟨T', hg, h1, h2, h3, h4⟩ := putD_spec hf hg
        exact ⟨fun _ _ => trivial, ih hg (HT.put (undefE_spec σ) h1 h2 h3) hgl H F hfl fun T2 h' nx' σ' a' w' q1 q2 q3 q4 => hQ T2 h' nx' σ' a' w' q1 q2 (q3.trans h4) q4⟩
      | true =>
        simp only at hg
        rw [if_pos hwn]
        have hfl' := evOp_flow (a := a) (w := w) (σ := σ) hf hT hS hj hg (fun x _ => HT.op x) hgl H F hfl
        refine Oper.wp_of_flow (evOp_nodefer hf hg) hfl' fun v' w' ⟨v, h', nx', σ', hv, hp, hg⟩ => ?_
        obtain ⟨T', hg, h1, h2, h3, h4⟩ := putD_spec hf hg
        exact ih hg ((HT.mono hp.le).put hv h1 h2 h3) (hgl.mono hp.le) hp.holds hp.fresh (Nat.le_trans hfl hp.nxle) fun T2 h' nx' σ' a' w' q1 q2 q3 q4 => hQ T2 h' nx' σ' a' w' q1 q2 (q3.trans h4) (hp.trans q4)
end
end Go.Proofs.YtmlkfgoiakcnhaaGreatDoor
