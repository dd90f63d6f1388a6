/- A region that draws its order: the abstract run holds for every order. First the lemmas on tables, heaps and bits. -/
import Derived.Test.YtmlkfgoiakcnhaaGreatDoorEvP
import Derived.Orders
namespace Go.Proofs.YtmlkfgoiakcnhaaGreatDoor
open Go Go.RowKit

theorem Tr.put_ex {α : Type} (v : Option α) : ∀ (n : Nat) (t : Tr α), ∃ t' : Tr α, ∀ j, t'.get j = if j = n then v else t.get j := by
  intro n
  induction n using Nat.strongRecOn with
  | _ n ih =>
    have key : ∀ (l r : Tr α) (x : Option α), ∃ t' : Tr α, ∀ j, t'.get j = if j = n then v else (Tr.node l x r).get j := by
      intro l r x
      by_cases h0 : n = 0
      · refine ⟨.node l v r, fun j => ?_⟩
        subst h0
        rw [Tr.get_node, Tr.get_node]; split <;> rfl
      · by_cases h1 : n % 2 = 1
        · obtain ⟨t', ht⟩ := ih (n / 2) (by omega) l
          refine ⟨.node t' x r, fun j => ?_⟩
          rw [Tr.get_node, Tr.get_node, ht]
          by_cases hj : j = n
          · subst hj; rw [if_neg h0, if_pos h1, if_pos rfl, if_pos rfl]
          · rw [if_neg hj]
            split
            · rfl
            · split
              · rw [if_neg (by omega)]
              · rfl
        · obtain ⟨t', ht⟩ := ih (n / 2 - 1) (by omega) r
          refine ⟨.node l x t', fun j => ?_⟩
          rw [Tr.get_node, Tr.get_node, ht]
          by_cases hj : j = n
          · subst hj; rw [if_neg h0, if_neg h1, if_pos rfl, if_pos rfl]
          · rw [if_neg hj]
            split
            · rfl
            · split
              · rfl
              · rw [if_neg (by omega)]
    intro t
    cases t with
    | node l x r => exact key l r x
    | nil =>
      obtain ⟨t', ht⟩ := key .nil .nil none
      refine ⟨t', fun j => ?_⟩
      rw [ht]
      split
      · rfl
      · rw [Tr.get_node]
        simp only [Tr.get_nil]
        split
        · rfl
        · split <;> rfl

abbrev Aside := List (Nat × Nat × EO)
def AP (A : Aside) : Prop := A.Pairwise fun x y => x.2.1 ≠ y.2.1
theorem AP.uniq {A : Aside} (h : AP A) {q r : Nat × Nat × EO} (hq : q ∈ A) (hr : r ∈ A) (e : q.2.1 = r.2.1) : q = r := by
  induction A with
  | nil => cases hq
  | cons x A ih =>
    have h' := List.pairwise_cons.1 h
    cases hq with
    | head => cases hr with
      | head => rfl
      | tail _ hr => exact absurd e (h'.1 _ hr)
    | tail _ hq => cases hr with
      | head => exact absurd e.symm (h'.1 _ hq)
      | tail _ hr => exact ih h'.2 hq hr

/-- blocks laid over a heap that has none of them -/
theorem lay_ex : ∀ (A : Aside) (h : Tr EO), AP A → (∀ q ∈ A, h.get q.2.1 = none) → ∃ hs : Tr EO, ∀ id b, hs.get id = some b ↔ (h.get id = some b ∨ ∃ i, (i, id, b) ∈ A)
  | [], h, _, _ => ⟨h, fun id b => by simp⟩
  | q :: A, h, hp, hn => by
    have hp' := List.pairwise_cons.1 hp
    obtain ⟨h1, e1⟩ := Tr.put_ex (some q.2.2) q.2.1 h
    obtain ⟨hs, es⟩ := lay_ex A h1 hp'.2 (fun r hr => by rw [e1, if_neg (fun e => hp'.1 r hr e.symm)]; exact hn r (by simp [hr]))
    refine ⟨hs, fun id b => ?_⟩
    rw [es, e1]
    constructor
    · rintro (h | ⟨i, hi⟩)
      · split at h
        · rename_i e
          subst e
          cases h
          exact .inr ⟨q.1, List.mem_cons_self ..⟩
        · exact .inl h
      · exact .inr ⟨i, List.mem_cons_of_mem _ hi⟩
    · rintro (h | ⟨i, hi⟩)
      · left
        rw [if_neg (fun e => by rw [e, hn q (by simp)] at h; cases h)]
        exact h
      · cases hi with
        | head => left; rw [if_pos rfl]
        | tail _ hi => exact .inr ⟨i, hi⟩
section
variable {β : Type} {fail : β} {G : β → Prop} (hf : ¬ G fail)
include hf
theorem mergeE_spec {p : Nat → Bool} : ∀ {A : Aside} {h : Tr EO} {k : Tr EO → β}, G (mergeE fail p A h k) → AP A → (∀ q ∈ A, h.get q.2.1 = none) →
    ∃ hs : Tr EO, G (k hs) ∧ ∀ id b, hs.get id = some b ↔ (h.get id = some b ∨ ∃ i, (i, id, b) ∈ A ∧ p i = true)
  | [], h, k, hg, _, _ => ⟨h, hg, fun id b => by simp⟩
  | q :: A, h, k, hg, hp, hn => by
    have hp' := List.pairwise_cons.1 hp
    simp only [mergeE] at hg
    cases hb : p q.1 with
    | false =>
      rw [hb] at hg
      obtain ⟨hs, hg, es⟩ := mergeE_spec (p := p) (A := A) hg hp'.2 (fun r hr => hn r (by simp [hr]))
      refine ⟨hs, hg, fun id b => ?_⟩
      rw [es]
      constructor
      · rintro (h | ⟨i, hi, hq⟩)
        · exact .inl h
        · exact .inr ⟨i, List.mem_cons_of_mem _ hi, hq⟩
      · rintro (h | ⟨i, hi, hq⟩)
        · exact .inl h
        · cases hi with
          | head => rw [hb] at hq; cases hq
          | tail _ hi => exact .inr ⟨i, hi, hq⟩
    | true =>
      rw [hb] at hg
      obtain ⟨h1, e1, hg⟩ := Tr.put_spec hf _ _ _ _ hg
      obtain ⟨hs, hg, es⟩ := mergeE_spec (p := p) (A := A) hg hp'.2 (fun r hr => by rw [e1, if_neg (fun e => hp'.1 r hr e.symm)]; exact hn r (by simp [hr]))
      refine ⟨hs, hg, fun id b => ?_⟩
      rw [es, e1]
      constructor
      · rintro (h | ⟨i, hi, hq⟩)
        · split at h
          · rename_i e
            subst e
            cases h
            exact .inr ⟨q.1, List.mem_cons_self .., hb⟩
          · exact .inl h
        · exact .inr ⟨i, List.mem_cons_of_mem _ hi, hq⟩
      · rintro (h | ⟨i, hi, hq⟩)
        · left
          rw [if_neg (fun e => by rw [e, hn q (by simp)] at h; cases h)]
          exact h
        · cases hi with
          | head => left; rw [if_pos rfl]
          | tail _ hi => exact .inr ⟨i, hi, hq⟩
end

theorem isSome_of {α : Type} {o : Option α} {b : α} (h : o = some b) : o.isSome := by rw [h]; rfl
theorem Holds.sub {σ : Sg} {h hs : Tr EO} {w : World} (H : Holds σ hs w) (hle : ∀ id b, h.get id = some b → hs.get id = some b) : Holds σ h w where
  there := fun id o ho => H.there id o (hle id o ho)
  inj := fun i j li lj hi hj e1 e2 e => by
    obtain ⟨bi, ei⟩ := Option.isSome_iff_exists.1 hi
    obtain ⟨bj, ej⟩ := Option.isSome_iff_exists.1 hj
    exact H.inj i j li lj (isSome_of (hle i bi ei)) (isSome_of (hle j bj ej)) e1 e2 e
theorem Holds.congr {σ : Sg} {h : Tr EO} {w w' : World} (H : Holds σ h w) (e : w'.heap = w.heap) : Holds σ h w' where
  there := fun id o ho => by rw [e]; exact H.there id o ho
  inj := H.inj
theorem Holds.dom {σ : Sg} {h : Tr EO} {w : World} (H : Holds σ h w) {id : Nat} (hs : σ id = Option.none) : h.get id = Option.none := by
  cases hg : h.get id with
  | none => rfl
  | some o =>
    obtain ⟨l, ob, e, _⟩ := H.there id o hg
    rw [hs] at e; cases e
theorem Post.more {fl : Nat} {σ σ' : Sg} {h h' : Tr EO} {nx nx' nx2 : Nat} {w w' : World} (p : Post fl σ h nx w σ' h' nx' w') (hn : nx' ≤ nx2) : Post fl σ h nx w σ' h' nx2 w' where
  le := p.le
  new := p.new
  nxle := Nat.le_trans p.nxle hn
  fresh := fun id hi => p.fresh id (Nat.le_trans hn hi)
  dom := fun id hi => (p.dom id hi).imp (fun h => h) fun ⟨a, b⟩ => ⟨a, Nat.lt_of_lt_of_le b hn⟩
  holds := p.holds
  floor := p.floor
  size := p.size
  frame := p.frame
  own := p.own
  os := p.os
  tape := p.tape
  output := p.output
theorem Post.congr {fl : Nat} {σ σ' : Sg} {h h' h2 : Tr EO} {nx nx' : Nat} {w w' : World} (p : Post fl σ h nx w σ' h' nx' w') (he : ∀ id, h2.get id = h'.get id) : Post fl σ h nx w σ' h2 nx' w' where
  le := p.le
  new := p.new
  nxle := p.nxle
  fresh := p.fresh
  dom := fun id hi => p.dom id (by rw [← he]; exact hi)
  holds := p.holds.sub fun id b hb => by rw [← he]; exact hb
  floor := fun id hi => by rw [he]; exact p.floor id hi
  size := p.size
  frame := p.frame
  own := fun id l hi => p.own id l (by rw [← he]; exact hi)
  os := p.os
  tape := p.tape
  output := p.output
theorem get_eq_of_iff {h h2 : Tr EO} (he : ∀ id b, h2.get id = some b ↔ h.get id = some b) (id : Nat) : h2.get id = h.get id := by
  cases h1 : h.get id with
  | some b => exact (he id b).2 h1
  | none =>
    cases h2' : h2.get id with
    | none => rfl
    | some b => rw [(he id b).1 h2'] at h1; cases h1

/-- a step that owns a part of the heap leaves the rest -/
theorem Post.framed {fl : Nat} {σ σ' : Sg} {hW h' hs : Tr EO} {nx nx' : Nat} {w w' : World} {F : Aside} (p : Post fl σ hW nx w σ' h' nx' w') (H : Holds σ hs w) (hF : AP F)
    (he : ∀ id b, hs.get id = some b ↔ (hW.get id = some b ∨ ∃ i, (i, id, b) ∈ F)) (hn : ∀ q ∈ F, hW.get q.2.1 = none ∧ q.2.1 < nx) :
    ∃ hs' : Tr EO, (∀ id b, hs'.get id = some b ↔ (h'.get id = some b ∨ ∃ i, (i, id, b) ∈ F)) ∧ Post fl σ hs nx w σ' hs' nx' w' := by
  have hn' : ∀ q ∈ F, h'.get q.2.1 = none := by
    intro q hq
    cases hg : h'.get q.2.1 with
    | none => rfl
    | some b =>
      rcases p.dom q.2.1 (isSome_of hg) with h1 | ⟨h1, _⟩
      · rw [(hn q hq).1] at h1; cases h1
      · have := (hn q hq).2; omega
  obtain ⟨hs', es⟩ := lay_ex F h' hF hn'
  have hle : ∀ id b, hW.get id = some b → hs.get id = some b := fun id b h => (he id b).2 (.inl h)
  have hleS : ∀ id, (hW.get id).isSome → (hs.get id).isSome := fun id h => by
    obtain ⟨b, hb⟩ := Option.isSome_iff_exists.1 h
    exact isSome_of (hle id b hb)
  have hFs : ∀ i id b, (i, id, b) ∈ F → hs.get id = some b := fun i id b h => (he id b).2 (.inr ⟨i, h⟩)
  -- a block of F is none of the step's
  have away : ∀ i id b l, (i, id, b) ∈ F → σ id = some l → ∀ j lj, (hW.get j).isSome → σ j = some lj → lj.blk ≠ l.blk := by
    intro i id b l hm e j lj hj ej heq
    have := H.inj j id lj l (hleS j hj) (isSome_of (hFs i id b hm)) ej e heq
    subst this
    rw [(hn _ hm).1] at hj; cases hj
  have lt : ∀ i id b l, (i, id, b) ∈ F → σ id = some l → l.blk < w.heap.size := fun i id b l hm e => H.lt (isSome_of (hFs i id b hm)) e
  refine ⟨hs', es, ?_⟩
  exact {
    le := p.le
    new := p.new
    nxle := p.nxle
    fresh := p.fresh
    dom := fun id hi => by
      obtain ⟨b, hb⟩ := Option.isSome_iff_exists.1 hi
      rcases (es id b).1 hb with h1 | ⟨i, h1⟩
      · rcases p.dom id (isSome_of h1) with h2 | h2
        · exact .inl (hleS id h2)
        · exact .inr h2
      · exact .inl (isSome_of (hFs i id b h1))
    holds := {
      there := fun id o ho => by
        rcases (es id o).1 ho with h1 | ⟨i, h1⟩
        · exact p.holds.there id o h1
        · obtain ⟨l, ob, e1, e2, e3⟩ := H.there id o (hFs i id o h1)
          refine ⟨l, ob, p.le id l e1, ?_, e3.mono p.le⟩
          rw [p.frame l.blk (lt i id o l h1 e1) (fun j lj hj ej => away i id o l h1 e1 j lj hj ej)]
          exact e2
      inj := fun i j li lj hi hj ei ej heq => by
        obtain ⟨bi, hbi⟩ := Option.isSome_iff_exists.1 hi
        obtain ⟨bj, hbj⟩ := Option.isSome_iff_exists.1 hj
        have mixed : ∀ i j li lj bi bj q, h'.get i = some bi → (q, j, bj) ∈ F → σ' i = some li → σ' j = some lj → li.blk = lj.blk → i = j := by
          intro i j li lj bi bj q h1 h2 ei ej heq
          obtain ⟨l, ob, e1, _⟩ := H.there j bj (hFs q j bj h2)
          have : lj = l := by rw [p.le j l e1] at ej; exact (Option.some.inj ej).symm
          subst this
          rcases p.own i li (isSome_of h1) ei with h3 | ⟨k, lk, hk, ek, hq⟩
          · have := lt q j bj lj h2 e1; omega
          · exact absurd (hq.trans heq) (away q j bj lj h2 e1 k lk hk ek)
        rcases (es i bi).1 hbi with h1 | ⟨qi, h1⟩
        · rcases (es j bj).1 hbj with h2 | ⟨qj, h2⟩
          · exact p.holds.inj i j li lj (isSome_of h1) (isSome_of h2) ei ej heq
          · exact mixed i j li lj bi bj qj h1 h2 ei ej heq
        · rcases (es j bj).1 hbj with h2 | ⟨qj, h2⟩
          · exact (mixed j i lj li bj bi qi h2 h1 ej ei heq.symm).symm
          · obtain ⟨l, _, e1, _⟩ := H.there i bi (hFs qi i bi h1)
            obtain ⟨l2, _, e2, _⟩ := H.there j bj (hFs qj j bj h2)
            have a1 : li = l := by rw [p.le i l e1] at ei; exact (Option.some.inj ei).symm
            have a2 : lj = l2 := by rw [p.le j l2 e2] at ej; exact (Option.some.inj ej).symm
            subst a1; subst a2
            exact H.inj i j li lj (isSome_of (hFs qi i bi h1)) (isSome_of (hFs qj j bj h2)) e1 e2 heq }
    floor := fun id hi => by
      have hfl := p.floor id hi
      cases hg : hs.get id with
      | some b =>
        rcases (he id b).1 hg with h1 | h1
        · exact (es id b).2 (.inl (by rw [hfl]; exact h1))
        · exact (es id b).2 (.inr h1)
      | none =>
        cases hg' : hs'.get id with
        | none => rfl
        | some b =>
          rcases (es id b).1 hg' with h1 | h1
          · rw [(he id b).2 (.inl (by rw [← hfl]; exact h1))] at hg; cases hg
          · rw [(he id b).2 (.inr h1)] at hg; cases hg
    size := p.size
    frame := fun b hb hne => p.frame b hb fun id l hi e => hne id l (hleS id hi) e
    own := fun id l hi e => by
      obtain ⟨b, hb⟩ := Option.isSome_iff_exists.1 hi
      rcases (es id b).1 hb with h1 | ⟨i, h1⟩
      · rcases p.own id l (isSome_of h1) e with h2 | ⟨j, lj, hj, ej, hq⟩
        · exact .inl h2
        · exact .inr ⟨j, lj, hleS j hj, ej, hq⟩
      · obtain ⟨l', _, e1, _⟩ := H.there id b (hFs i id b h1)
        have : l = l' := by rw [p.le id l' e1] at e; exact (Option.some.inj e).symm
        subst this
        exact .inr ⟨id, l, isSome_of (hFs i id b h1), e1, rfl⟩
    os := p.os
    tape := p.tape
    output := p.output }

/-- a block that floats, made now -/
theorem Post.late {fl : Nat} {σ0 σ : Sg} {h0 hs : Tr EO} {nx0 nx X : Nat} {w0 w w' : World} {loc : Loc} {ob : Obj} {blk : EO} (p : Post fl σ0 h0 nx0 w0 σ hs nx w) (hfl : fl ≤ nx0) (h1 : nx0 ≤ X) (h2 : X < nx) (hn : σ X = none)
    (hheap : w'.heap = w.heap.push ob) (hos : w'.os = w.os) (htape : w'.tape = w.tape) (hout : w'.output = w.output) (hloc : loc.blk = w.heap.size) (hob : OR (upd σ X loc) loc blk ob) :
    ∃ hs' : Tr EO, (∀ id, hs'.get id = if id = X then some blk else hs.get id) ∧ Post fl σ0 h0 nx0 w0 (upd σ X loc) hs' nx w' := by
  obtain ⟨hs', es⟩ := Tr.put_ex (some blk) X hs
  have hle : Le σ (upd σ X loc) := Le.upd hn loc
  have hX : hs.get X = none := p.holds.dom hn
  have old : ∀ b, b < w.heap.size → w'.heap[b]? = w.heap[b]? := fun b hb => by rw [hheap, Array.getElem?_push, if_neg (by omega)]
  have hlt : ∀ id l, (hs.get id).isSome → σ id = some l → l.blk < w.heap.size := fun id l hi e => p.holds.lt hi e
  have back : ∀ id l, (hs'.get id).isSome → (upd σ X loc) id = some l → (id = X ∧ l = loc) ∨ (id ≠ X ∧ (hs.get id).isSome ∧ σ id = some l) := by
    intro id l hi e
    by_cases hx : id = X
    · subst hx; rw [upd_same] at e; exact .inl ⟨rfl, (Option.some.inj e).symm⟩
    · rw [upd_other σ loc hx] at e
      rw [es, if_neg hx] at hi
      exact .inr ⟨hx, hi, e⟩
  refine ⟨hs', es, ?_⟩
  exact {
    le := p.le.trans hle
    new := fun id hi => by rw [upd_other σ loc (by omega)]; exact p.new id hi
    nxle := p.nxle
    fresh := fun id hi => by rw [upd_other σ loc (by omega)]; exact p.fresh id hi
    dom := fun id hi => by
      by_cases hx : id = X
      · subst hx; exact .inr ⟨h1, h2⟩
      · rw [es, if_neg hx] at hi; exact p.dom id hi
    holds := {
      there := fun id o ho => by
        by_cases hx : id = X
        · subst hx
          rw [es, if_pos rfl] at ho
          cases ho
          exact ⟨loc, ob, upd_same _ _ _, by rw [hheap, hloc]; simp, hob⟩
        · rw [es, if_neg hx] at ho
          obtain ⟨l, ob', e1, e2, e3⟩ := p.holds.there id o ho
          exact ⟨l, ob', hle id l e1, by rw [old l.blk (hlt id l (isSome_of ho) e1)]; exact e2, e3.mono hle⟩
      inj := fun i j li lj hi hj ei ej heq => by
        rcases back i li hi ei with ⟨a1, a2⟩ | ⟨a1, a2, a3⟩
        · rcases back j lj hj ej with ⟨b1, b2⟩ | ⟨b1, b2, b3⟩
          · rw [a1, b1]
          · subst a2
            have := hlt j lj b2 b3; omega
        · rcases back j lj hj ej with ⟨b1, b2⟩ | ⟨b1, b2, b3⟩
          · subst b2
            have := hlt i li a2 a3; omega
          · exact p.holds.inj i j li lj a2 b2 a3 b3 heq }
    floor := fun id hi => by rw [es, if_neg (by omega)]; exact p.floor id hi
    size := by rw [hheap]; have := p.size; simp; omega
    frame := fun b hb hne => by rw [old b (by have := p.size; omega)]; exact p.frame b hb hne
    own := fun id l hi e => by
      rcases back id l hi e with ⟨a1, a2⟩ | ⟨a1, a2, a3⟩
      · subst a2; left; rw [hloc]; exact p.size
      · exact p.own id l a2 a3
    os := hos.trans p.os
    tape := htape.trans p.tape
    output := hout.trans p.output }
end Go.Proofs.YtmlkfgoiakcnhaaGreatDoor
