/- A region that draws its order: the invariant between the operations, and the region. -/
import Derived.Test.YtmlkfgoiakcnhaaGreatDoorEvQ
namespace Go.Proofs.YtmlkfgoiakcnhaaGreatDoor
open Go Go.RowKit

theorem getDF {s : Array Bool} {i : Nat} (h : s.getD i true = false) : s.getD i false = false ∧ i < s.size := by
  rcases Nat.lt_or_ge i s.size with h' | h'
  · simp [h'] at h ⊢; exact h
  · simp [Array.getElem?_eq_none h'] at h
theorem getDT {s : Array Bool} {i : Nat} (h : s.getD i false = true) : i < s.size := by
  rcases Nat.lt_or_ge i s.size with h' | h'
  · exact h'
  · simp [Array.getElem?_eq_none h'] at h
theorem getDB {s : Array Bool} {i : Nat} (hi : i < s.size) (h : s.getD i false = false) : s.getD i true = false := by
  simp [hi] at h ⊢; exact h
theorem getD_set_at {s : Array Bool} {i : Nat} (hi : i < s.size) : (s.setIfInBounds i true).getD i false = true := by simp [hi]
theorem getD_repl (m j : Nat) : (Array.replicate m false).getD j false = false := by
  rcases Nat.lt_or_ge j m with h | h
  · simp [h]
  · simp [h]

/-- how many are not listed -/
def unls (s : Array Bool) : Nat := s.toList.countP (fun b => !b)
theorem countPset : ∀ (l : List Bool) (i : Nat), l[i]? = some false → (l.set i true).countP (fun b => !b) + 1 = l.countP (fun b => !b)
  | [], i, h => by simp at h
  | b :: l, 0, h => by
    have : b = false := by simpa using h
    subst this; simp
  | b :: l, i + 1, h => by
    have := countPset l i (by simpa using h)
    simp only [List.set_cons_succ, List.countP_cons]
    omega
theorem unls_set {s : Array Bool} {i : Nat} (h : s.getD i true = false) : unls (s.setIfInBounds i true) + 1 = unls s := by
  have hi := (getDF h).2
  have hs : s.toList[i]? = some false := by
    have : s[i] = false := by simpa [hi] using h
    simp [hi, this]
  have := countPset s.toList i hs
  unfold unls
  simpa using this
theorem any_of_inv' {P : Program} {r : Option Nat} {ops : Array Oper} {md : Region.Mode} {Q : Exit → Act → World → Prop} (I : Array Bool → Act → World → Prop) (hstep : ∀ s a w i, I s a w → i ∈ Region.ready md ops s → wpOpIn (WF r) 0 P ops Q i (I (s.setIfInBounds i true)) a w)
    (hend : ∀ s a w, I s a w → Region.ready md ops s = [] → Q .normal a w) : ∀ (f : Nat) (s : Array Bool) (a : Act) (w : World), unls s ≤ f → I s a w → wpAnyIn (WF r) 0 P md ops Q f s a w := by
  intro f
  induction f with
  | zero =>
    intro s a w hf hI
    have h0 : Region.ready md ops s = [] := by
      rcases hr : Region.ready md ops s with _ | ⟨i, r⟩
      · rfl
      · have hi : i ∈ Region.ready md ops s := by rw [hr]; simp
        have := unls_set (mem_ready.1 hi).1
        omega
    exact ⟨h0, hend _ _ _ hI h0⟩
  | succ f ih =>
    intro s a w hf hI
    refine ⟨fun h0 => hend _ _ _ hI h0, fun i hi => ?_⟩
    have h1 := unls_set (mem_ready.1 hi).1
    exact wpOpIn_mono (fun a' w' hI' => ih _ _ _ (by omega) hI') (hstep s a w i hI hi)

theorem hasBit_lor (a b i : Nat) : hasBit (Nat.lor a b) i = (hasBit a i || hasBit b i) := Nat.testBit_or a b i
theorem hasBit_pow (n i : Nat) : hasBit (Nat.pow 2 n) i = decide (n = i) := Nat.testBit_two_pow
theorem hasBit_zero (i : Nat) : hasBit 0 i = false := Nat.zero_testBit i

/-- what is listed has all that it waits for listed -/
def Clo (ops : Array Oper) (s : Array Bool) : Prop := ∀ j oj, ops[j]? = some oj → s.getD j false = true → ∀ e ∈ oj.after, Region.binds .any e = true → s.getD e.on false = true
theorem maskL_bit {acc : List Nat} {q : Nat} : ∀ {l : List Edge}, hasBit (maskL acc l) q = true → ∃ e ∈ l, Region.binds .any e = true ∧ (q = e.on ∨ hasBit (acc.getD e.on 0) q = true)
  | [], h => by rw [maskL, hasBit_zero] at h; cases h
  | e :: l, h => by
    simp only [maskL] at h
    cases hb : Region.binds .any e with
    | false =>
      rw [hb] at h
      obtain ⟨e', h1, h2⟩ := maskL_bit (l := l) h
      exact ⟨e', List.mem_cons_of_mem _ h1, h2⟩
    | true =>
      rw [hb] at h
      simp only [cond_true, hasBit_lor, Bool.or_eq_true, hasBit_pow, decide_eq_true_eq] at h
      rcases h with (h | h) | h
      · exact ⟨e, List.mem_cons_self .., hb, .inl h.symm⟩
      · exact ⟨e, List.mem_cons_self .., hb, .inr h⟩
      · obtain ⟨e', h1, h2⟩ := maskL_bit (l := l) h
        exact ⟨e', List.mem_cons_of_mem _ h1, h2⟩
theorem mkItems_spec {ops : Array Oper} {s : Array Bool} (hz : s.size = ops.size) (hc : Clo ops s) : ∀ {l : List Oper} {i : Nat} {acc : List Nat}, acc.length = i → (∀ k, l[k]? = ops[i + k]?) →
    (∀ j mj, acc[j]? = some mj → s.getD j false = true → ∀ q, hasBit mj q = true → s.getD q false = true) →
    (∀ x ∈ mkItems l i acc, ops[x.1]? = some x.2.1 ∧ ((∀ e ∈ x.2.1.after, Region.binds .any e = true → s.getD e.on false = true) → ∀ q, hasBit x.2.2 q = true → s.getD q false = true))
  | [], i, acc, _, _, _ => fun x hx => by simp [mkItems] at hx
  | o :: l, i, acc, ha, hl, hacc => by
    have h0 : ops[i]? = some o := by simpa using (hl 0).symm
    have hm : (∀ e ∈ o.after, Region.binds .any e = true → s.getD e.on false = true) → ∀ q, hasBit (maskL acc o.after.toList) q = true → s.getD q false = true := by
      intro hd q hq
      obtain ⟨e, he, hb, h⟩ := maskL_bit hq
      have hs := hd e (by simpa using he) hb
      rcases h with h | h
      · rw [h]; exact hs
      · cases hg : acc[e.on]? with
        | none => rw [List.getD_eq_getElem?_getD, hg] at h; simp only [Option.getD_none, hasBit_zero] at h; cases h
        | some mj =>
          rw [List.getD_eq_getElem?_getD, hg] at h
          exact hacc e.on mj hg hs q h
    intro x hx
    simp only [mkItems] at hx
    cases hx with
    | head => exact ⟨h0, hm⟩
    | tail _ hx =>
      refine mkItems_spec hz hc (l := l) (i := Nat.succ i) (acc := acc ++ [maskL acc o.after.toList]) (by simp [ha]) (fun k => ?_) (fun j mj hj hsj q hq => ?_) x hx
      · have := hl (k + 1)
        simp only [List.getElem?_cons_succ] at this
        rw [this]; congr 1; omega
      · rcases Nat.lt_or_ge j acc.length with h | h
        · rw [List.getElem?_append_left h] at hj
          exact hacc j mj hj hsj q hq
        · rw [List.getElem?_append_right h] at hj
          have hj0 : j = acc.length := by
            have := (List.getElem?_eq_some_iff.1 hj).1
            simp at this; omega
          subst hj0
          simp at hj
          subst hj
          exact hm (fun e he hb => hc acc.length o (by rw [ha]; exact h0) hsj e he hb) q hq
theorem mkItems_mem : ∀ {l : List Oper} {i j : Nat} {acc : List Nat} {o : Oper}, l[j]? = some o → ∃ m, (i + j, o, m) ∈ mkItems l i acc
  | [], i, j, acc, o, h => by simp at h
  | p :: l, i, 0, acc, o, h => by
    have : p = o := by simpa using h
    subst this
    exact ⟨_, by simp only [mkItems, Nat.add_zero]; exact List.mem_cons_self ..⟩
  | p :: l, i, j + 1, acc, o, h => by
    obtain ⟨m, hm⟩ := mkItems_mem (l := l) (i := Nat.succ i) (j := j) (acc := acc ++ [maskL acc p.after.toList]) (o := o) (by simpa using h)
    refine ⟨m, ?_⟩
    simp only [mkItems]
    rw [show i + (j + 1) = Nat.succ i + j by omega]
    exact List.mem_cons_of_mem _ hm

theorem mkItems_ge : ∀ {l : List Oper} {i : Nat} {acc : List Nat}, ∀ x ∈ mkItems l i acc, i ≤ x.1
  | [], i, acc, x, h => by simp [mkItems] at h
  | o :: l, i, acc, x, h => by
    simp only [mkItems] at h
    cases h with
    | head => exact Nat.le_refl _
    | tail _ h => exact Nat.le_of_succ_le (mkItems_ge x h)
theorem mkItems_pw : ∀ (l : List Oper) (i : Nat) (acc : List Nat), (mkItems l i acc).Pairwise fun x y => x.1 ≠ y.1
  | [], i, acc => by simp [mkItems]
  | o :: l, i, acc => by
    simp only [mkItems]
    refine List.pairwise_cons.2 ⟨fun y hy => ?_, mkItems_pw l _ _⟩
    have := mkItems_ge y hy
    simp only; omega

section
variable {P : Program} {tab : Tab} {β : Type} {fail : β} {G : β → Prop} (hf : ¬ G fail) {self : CodeFn} {join : β → β → β} {nt fl : Nat} {ops : Array Oper} {items : List Item}

include hf
theorem prepE_spec {rem : List Item} {dW : Nat} {h : Tr EO} : ∀ {l : List Item} {T : Fr} {A : Aside} {nx E : Nat} {k : Fr → Aside → Nat → Nat → β}, G (prepE tab self fail nt ops rem dW h l T A nx E k) → (∀ x ∈ l, x ∈ items) →
    (∀ q ∈ A, q.2.1 < nx) → AP A →
    ∃ T' A' nx' E', G (k T' A' nx' E') ∧ nx ≤ nx' ∧ (∀ i, hasBit E i = true → hasBit E' i = true) ∧ (∀ d, (∀ x ∈ items, isCh tab x.2.1.op = false → hasBit E x.1 = false → x.2.1.dst ≠ some d) → T'.get d = T.get d) ∧
      (∀ q ∈ A', q ∈ A ∨ (nx ≤ q.2.1 ∧ q.2.1 < nx' ∧ hasBit E q.1 = false ∧ hasBit E' q.1 = true ∧ ∃ x ∈ items, x.1 = q.1 ∧ isCh tab x.2.1.op = false)) ∧ (∀ q ∈ A, q ∈ A') ∧ AP A' ∧ T'.D = T.D ∧ T'.ro = T.ro
  | [], T, A, nx, E, k, hg, _, _, hp => ⟨T, A, nx, E, hg, Nat.le_refl _, fun _ h => h, fun _ _ => rfl, fun q h => .inl h, fun _ h => h, hp, rfl, rfl⟩
  | x :: l, T, A, nx, E, k, hg, hl, hA, hp => by
    simp only [prepE] at hg
    have hl' : ∀ y ∈ l, y ∈ items := fun y hy => hl y (List.mem_cons_of_mem _ hy)
    cases hskip : (isCh tab x.2.1.op || hasBit E x.1 || not (freeB rem x.2.2)) with
    | true =>
      rw [hskip] at hg
      exact prepE_spec hg hl' hA hp
    | false =>
      rw [hskip] at hg
      simp only [Bool.or_eq_false_iff] at hskip
      obtain ⟨⟨hch, hE⟩, _⟩ := hskip
      have hx : x ∈ items := hl x (List.mem_cons_self ..)
      -- behind a step
      have next : ∀ {T1 : Fr} {A1 : Aside} {nx1 : Nat} {v : EV}, G (prepE tab self fail nt ops rem dW h l T1 A1 nx1 (Nat.lor E (Nat.pow 2 x.1)) k) → (∀ d, T1.get d = if x.2.1.dst = some d then some v else T.get d) → nx ≤ nx1 →
          (∀ q ∈ A1, q.2.1 < nx1) → AP A1 → (∀ q ∈ A1, q ∈ A ∨ (nx ≤ q.2.1 ∧ q.1 = x.1)) → (∀ q ∈ A, q ∈ A1) → T1.D = T.D → T1.ro = T.ro →
          ∃ T' A' nx' E', G (k T' A' nx' E') ∧ nx ≤ nx' ∧ (∀ i, hasBit E i = true → hasBit E' i = true) ∧ (∀ d, (∀ x ∈ items, isCh tab x.2.1.op = false → hasBit E x.1 = false → x.2.1.dst ≠ some d) → T'.get d = T.get d) ∧
            (∀ q ∈ A', q ∈ A ∨ (nx ≤ q.2.1 ∧ q.2.1 < nx' ∧ hasBit E q.1 = false ∧ hasBit E' q.1 = true ∧ ∃ x ∈ items, x.1 = q.1 ∧ isCh tab x.2.1.op = false)) ∧ (∀ q ∈ A, q ∈ A') ∧ AP A' ∧ T'.D = T.D ∧ T'.ro = T.ro := by
        intro T1 A1 nx1 v hg hT hnx hA1 hp1 hA1' hsub hD1 hR1
        obtain ⟨T', A', nx', E', g1, g2, g3, g4, g5, g6, g7, g8, g9⟩ := prepE_spec hg hl' hA1 hp1
        have hEb : hasBit (Nat.lor E (Nat.pow 2 x.1)) x.1 = true := by rw [hasBit_lor, hasBit_pow]; simp
        refine ⟨T', A', nx', E', g1, Nat.le_trans hnx g2, fun i hi => g3 i (by rw [hasBit_lor, hi]; rfl), fun d hd => ?_, fun q hq => ?_, fun q hq => g6 q (hsub q hq), g7, g8.trans hD1, g9.trans hR1⟩
        · rw [g4 d (fun y hy h1 h2 => hd y hy h1 (by rw [hasBit_lor] at h2; exact (Bool.or_eq_false_iff.1 h2).1)), hT d, if_neg (hd x hx hch hE)]
        · rcases g5 q hq with h1 | ⟨h1, h2, h3, h4, h5⟩
          · rcases hA1' q h1 with h2 | ⟨h2, h3⟩
            · exact .inl h2
            · exact .inr ⟨h2, Nat.lt_of_lt_of_le (hA1 q h1) g2, by rw [h3]; exact hE, g3 _ (by rw [h3]; exact hEb), x, hx, h3.symm, hch⟩
          · exact .inr ⟨Nat.le_trans hnx h1, h2, by rw [hasBit_lor] at h3; exact (Bool.or_eq_false_iff.1 h3).1, h4, h5⟩
      simp only [cond_false] at hg
      split at hg
      · exact absurd hg hf
      · obtain ⟨T1, hg, h1, _, hD1, hR1⟩ := putD_spec hf hg
        exact next hg h1 (Nat.le_refl _) hA hp (fun q hq => .inl hq) (fun q hq => hq) hD1 hR1
      · cases hm : mkOp x.2.1.op with
        | true =>
          rw [hm] at hg
          simp only [cond_true] at hg
          split at hg
          · obtain ⟨T1, hg, h1, _, hD1, hR1⟩ := putD_spec hf hg
            refine next hg h1 (Nat.le_succ _) (fun q hq => ?_) (List.pairwise_cons.2 ⟨fun q hq => ?_, hp⟩) (fun q hq => ?_) (fun q hq => List.mem_cons_of_mem _ hq) hD1 hR1
            · cases hq with
              | head => exact Nat.lt_succ_self _
              | tail _ hq => exact Nat.lt_succ_of_lt (hA q hq)
            · have := hA q hq; simp only; omega
            · cases hq with
              | head => exact .inr ⟨Nat.le_refl _, rfl⟩
              | tail _ hq => exact .inl hq
          · exact absurd hg hf
        | false =>
          rw [hm] at hg
          simp only [cond_false] at hg
          split at hg
          · obtain ⟨T1, hg, h1, _, hD1, hR1⟩ := putD_spec hf hg
            exact next hg h1 (Nat.le_refl _) hA hp (fun q hq => .inl hq) (fun q hq => hq) hD1 hR1
          · exact absurd hg hf
end

/-- what holds between two operations -/
structure DInv (tab : Tab) (ro0 : Option Nat) (nt fl : Nat) (ops : Array Oper) (items : List Item) (σ0 : Sg) (h0 : Tr EO) (nx0 : Nat) (w0 : World) (rem : List Item) (dW : Nat) (T : Fr) (h : Tr EO) (A : Aside) (nx E : Nat)
    (s : Array Bool) (a : Act) (w : World) (σ : Sg) (hs : Tr EO) : Prop where
  size : s.size = ops.size
  clo : Clo ops s
  remIn : ∀ r ∈ rem, r ∈ items ∧ isCh tab r.2.1.op = true ∧ s.getD r.1 false = false
  chIn : ∀ x ∈ items, isCh tab x.2.1.op = true → x ∈ rem ∨ s.getD x.1 false = true
  dw : ∀ j, hasBit dW j = true → s.getD j false = true
  ev : ∀ x ∈ items, isCh tab x.2.1.op = false → s.getD x.1 false = true → hasBit E x.1 = true
  post : Post fl σ0 h0 nx0 w0 σ hs nx w
  hsG : ∀ id b, hs.get id = some b ↔ (h.get id = some b ∨ ∃ i, (i, id, b) ∈ A ∧ s.getD i false = true)
  aX : ∀ q ∈ A, nx0 ≤ q.2.1 ∧ q.2.1 < nx ∧ h.get q.2.1 = none ∧ (s.getD q.1 false = false → σ q.2.1 = none)
  aP : AP A
  aN : ∀ q ∈ A, ∃ x ∈ items, x.1 = q.1 ∧ isCh tab x.2.1.op = false
  remP : rem.Pairwise fun x y => x.1 ≠ y.1
  defers : DR σ T.D a.defers
  ro : T.ro = ro0
  tsz : a.tmps.size = nt
  tr : ∀ d, (∀ x ∈ items, s.getD x.1 false = false → x.2.1.dst ≠ some d) → VR σ ((T.get d).getD undefE) (a.tmps.getD d undef)

section
variable {P : Program} {tab : Tab} {β : Type} {fail : β} {G : β → Prop} {self : CodeFn} {join : β → β → β} {ro0 : Option Nat} {nt fl : Nat} {ops : Array Oper} {items : List Item}
  {σ0 : Sg} {h0 : Tr EO} {nx0 : Nat} {w0 : World} {rem : List Item} {dW : Nat} {T : Fr} {h : Tr EO} {A : Aside} {nx E : Nat} {s : Array Bool} {a : Act} {w : World} {σ : Sg} {hs : Tr EO}

theorem stopE_spec (hf : ¬ G fail) {k : Fr → Aside → Nat → Nat → β} (D : DInv tab ro0 nt fl ops items σ0 h0 nx0 w0 rem dW T h A nx E s a w σ hs) (hg : G (stopE tab self fail nt ops items rem dW T h A nx E k)) :
    ∃ T' A' nx' E', G (k T' A' nx' E') ∧ DInv tab ro0 nt fl ops items σ0 h0 nx0 w0 rem dW T' h A' nx' E' s a w σ hs ∧ ∀ x ∈ items, okAt tab self ops rem dW T' h A' E' x = true := by
  unfold stopE at hg
  obtain ⟨T', A', nx', E', g1, g2, g3, g4, g5, g6, g7, g8, g9⟩ := prepE_spec (items := items) hf hg (fun x hx => hx) (fun q hq => (D.aX q hq).2.1) D.aP
  cases hok : items.all (okAt tab self ops rem dW T' h A' E') with
  | false => rw [hok] at g1; exact absurd g1 hf
  | true =>
    rw [hok] at g1
    refine ⟨T', A', nx', E', g1, ?_, List.all_eq_true.1 hok⟩
    have new : ∀ q ∈ A', q ∉ A → s.getD q.1 false = false ∧ nx ≤ q.2.1 ∧ q.2.1 < nx' := by
      intro q hq hn
      rcases g5 q hq with h1 | ⟨h1, h2, h3, _, x, hx, h4, h5⟩
      · exact absurd h1 hn
      · refine ⟨?_, h1, h2⟩
        cases hd : s.getD q.1 false with
        | false => rfl
        | true =>
          have := D.ev x hx h5 (by rw [h4]; exact hd)
          rw [h4, h3] at this; cases this
    exact {
      size := D.size
      clo := D.clo
      remIn := D.remIn
      chIn := D.chIn
      dw := D.dw
      ev := fun x hx h1 h2 => g3 _ (D.ev x hx h1 h2)
      post := D.post.more g2
      hsG := fun id b => by
        rw [D.hsG]
        constructor
        · rintro (h | ⟨i, hi, hd⟩)
          · exact .inl h
          · exact .inr ⟨i, g6 _ hi, hd⟩
        · rintro (h | ⟨i, hi, hd⟩)
          · exact .inl h
          · by_cases hA : (i, id, b) ∈ A
            · exact .inr ⟨i, hA, hd⟩
            · have := (new _ hi hA).1
              rw [hd] at this; cases this
      aX := fun q hq => by
        by_cases hA : q ∈ A
        · obtain ⟨a1, a2, a3, a4⟩ := D.aX q hA
          exact ⟨a1, Nat.lt_of_lt_of_le a2 g2, a3, a4⟩
        · obtain ⟨b1, b2, b3⟩ := new q hq hA
          have hσ : σ q.2.1 = none := D.post.fresh _ b2
          refine ⟨Nat.le_trans D.post.nxle b2, b3, ?_, fun _ => hσ⟩
          have := D.post.holds.dom hσ
          cases hg : h.get q.2.1 with
          | none => rfl
          | some b => rw [(D.hsG _ _).2 (.inl hg)] at this; cases this
      aP := g7
      aN := fun q hq => by
        rcases g5 q hq with h1 | ⟨_, _, _, _, h5⟩
        · exact D.aN q h1
        · exact h5
      remP := D.remP
      defers := by rw [g8]; exact D.defers
      ro := g9.trans D.ro
      tsz := D.tsz
      tr := fun d hd => by
        rw [g4 d (fun x hx h1 h2 => hd x hx (by
          cases hdn : s.getD x.1 false with
          | false => rfl
          | true => rw [D.ev x hx h1 hdn] at h2; cases h2))]
        exact D.tr d hd }

/-- an operation that was done, its value put -/
theorem DInv.move {i : Nat} {o : Oper} {m : Nat} {σ' : Sg} {hs' : Tr EO} {w' : World} {v' : Value} (D : DInv tab ro0 nt fl ops items σ0 h0 nx0 w0 rem dW T h A nx E s a w σ hs) (hit : ∀ x ∈ items, ops[x.1]? = some x.2.1) (hx : (i, o, m) ∈ items)
    (hch : isCh tab o.op = false) (hi : i ∈ Region.ready .any ops s) (hE : hasBit E i = true) (hd : ∀ d, o.dst = some d → d < nt) (hle : Le σ σ') (hp : Post fl σ0 h0 nx0 w0 σ' hs' nx w')
    (hG : ∀ id b, hs'.get id = some b ↔ (h.get id = some b ∨ ∃ j, (j, id, b) ∈ A ∧ (s.setIfInBounds i true).getD j false = true)) (hX : ∀ q ∈ A, (s.setIfInBounds i true).getD q.1 false = false → σ' q.2.1 = none)
    (hv : ∀ d, o.dst = some d → VR σ' ((T.get d).getD undefE) v') : DInv tab ro0 nt fl ops items σ0 h0 nx0 w0 rem dW T h A nx E (s.setIfInBounds i true) (a.put o.dst v') w' σ' hs' := by
  obtain ⟨hun, oi, hoi, hall⟩ := mem_ready.1 hi
  have hio : oi = o := Option.some.inj (hoi.symm.trans (hit _ hx))
  subst hio
  have hun' := getDF hun
  have keep : ∀ j, s.getD j false = true → (s.setIfInBounds i true).getD j false = true := fun j hj => getD_set_true hj
  exact {
    size := by rw [Array.size_setIfInBounds]; exact D.size
    clo := fun j oj hj hl e he hb => by
      by_cases hij : i = j
      · subst hij
        have : oj = oi := Option.some.inj (hj.symm.trans hoi)
        subst this
        exact keep _ (hall e he hb)
      · rw [getD_set_ne false hij] at hl
        exact keep _ (D.clo j oj hj hl e he hb)
    remIn := fun r hr => by
      obtain ⟨r1, r2, r3⟩ := D.remIn r hr
      have : i ≠ r.1 := fun e => by
        subst e
        have h1 := hit r r1
        have h2 := hit _ hx
        simp only at h2
        rw [h1] at h2
        rw [Option.some.inj h2, hch] at r2; cases r2
      exact ⟨r1, r2, by rw [getD_set_ne false this]; exact r3⟩
    chIn := fun x hx hc => (D.chIn x hx hc).imp (fun h => h) (keep _)
    dw := fun j hj => keep _ (D.dw j hj)
    ev := fun x hx hc hl => by
      by_cases hij : i = x.1
      · rw [← hij]; exact hE
      · rw [getD_set_ne false hij] at hl
        exact D.ev x hx hc hl
    post := hp
    hsG := hG
    aX := fun q hq => by
      obtain ⟨a1, a2, a3, _⟩ := D.aX q hq
      exact ⟨a1, a2, a3, hX q hq⟩
    aP := D.aP
    aN := D.aN
    remP := D.remP
    defers := by cases oi.dst <;> exact D.defers.mono hle
    ro := D.ro
    tsz := by cases oi.dst <;> simp [Act.put, D.tsz]
    tr := fun d hdn => by
      by_cases hdd : oi.dst = some d
      · rw [hdd]
        have hlt : d < a.tmps.size := by rw [D.tsz]; exact hd d hdd
        have : (a.put (some d) v').tmps.getD d undef = v' := by simp [Act.put, hlt]
        rw [this]
        exact hv d hdd
      · have e1 : (a.put oi.dst v').tmps.getD d undef = a.tmps.getD d undef := by
          cases ho : oi.dst with
          | none => rfl
          | some d' =>
            have : d' ≠ d := fun h => hdd (by rw [ho, h])
            simp only [Act.put, Array.getD_eq_getD_getElem?, Array.getElem?_setIfInBounds]
            rw [if_neg this]
        rw [e1]
        refine (D.tr d fun x hx hun2 => ?_).mono hle
        by_cases hij : i = x.1
        · have : x.2.1 = oi := by
            have h1 := hit x hx
            rw [← hij, hoi] at h1
            exact (Option.some.inj h1).symm
          rw [this]; exact hdd
        · exact hdn x hx (by rw [getD_set_ne false hij]; exact hun2) }
end
end Go.Proofs.YtmlkfgoiakcnhaaGreatDoor
