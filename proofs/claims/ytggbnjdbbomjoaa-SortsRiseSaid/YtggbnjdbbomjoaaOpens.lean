/- What a reading of an argument tells of its memory: a kind (the print tool's Kd) that the cells show, and a bound on each slice's length. -/
import Derived.Test.YtggbnjdbbomjoaaWWords
import Derived.Deep.Slices
import Derived.ChangeSame
namespace Go.Proofs.Ytggbnjdbbomjoaa
open Go Go.ChangeShapes Go.RowKit Go.Proofs.YtggbnjdbbomjoaaW.PrintWords
set_option linter.unusedVariables false
set_option linter.unusedSimpArgs false

theorem add_twice (a : Addr) (m n : Nat) : (a.add m).add n = a.add (m + n) := by
  obtain ⟨b, o, k⟩ := a
  unfold Addr.add
  by_cases hm : m = 0 <;> by_cases hn : n = 0 <;> simp [hm, hn, Nat.add_assoc]

/-- A datum that was read at type 't' is one of kind 'd', with 'Pr'. -/
def Opens (P : Program) {α : Type} (d : Kd α) (Pr : α → Prop) (t : TypeId) : Prop :=
  ∀ (H : Type) (enc : TypeId × Value → H) (w : World) (base : Nat) (spare : Nat → Bool) (held : Bool) (fuel : Nat) (cs : List Value) (x : DataW H × List MemPlace),
    DataW.trod enc P w base spare held fuel t cs = some x → ∃ y, d.K w y cs ∧ Pr y

theorem opens_int {P : Program} {t : TypeId} {k : IntKind} (ht : P.underlying t = some (.int k)) : Opens P (Kd.int k) (fun n => (Lit.int k n).wf = true) t := by
  intro H enc w base spare held fuel cs x h
  cases fuel with
  | zero => simp [DataW.trod] at h
  | succ m =>
    unfold DataW.trod at h
    rw [ht] at h
    split at h <;> simp_all
    rename_i h1 h2
    obtain ⟨⟨rfl, hw⟩, rfl⟩ := h
    exact ⟨_, rfl, hw⟩

theorem opens_bool {P : Program} {t : TypeId} (ht : P.underlying t = some .bool) : Opens P Kd.bool (fun _ => True) t := by
  intro H enc w base spare held fuel cs x h
  cases fuel with
  | zero => simp [DataW.trod] at h
  | succ m =>
    unfold DataW.trod at h
    rw [ht] at h
    split at h
    · exact ⟨_, rfl, trivial⟩
    all_goals simp_all

theorem opens_string {P : Program} {t : TypeId} (ht : P.underlying t = some .string) : Opens P Kd.string (fun s => s.size ≤ maxLen) t := by
  intro H enc w base spare held fuel cs x h
  cases fuel with
  | zero => simp [DataW.trod] at h
  | succ m =>
    unfold DataW.trod at h
    rw [ht] at h
    split at h <;> simp_all
    exact ⟨_, rfl, h.1⟩

theorem opens_slice {P : Program} {t e : TypeId} {α : Type} {d : Kd α} {Pr : α → Prop} (q : Nat) (ht : P.underlying t = some (.slice e)) (hc : P.cellsOf e = d.sz) (hd : Opens P d Pr e) :
    Opens P (Kd.slice q d) (fun xs => xs.length ≤ maxLen ∧ ∀ x ∈ xs, Pr x) t := by
  intro H enc w base spare held fuel cs x h
  rcases Deep.open_slice ht h with ⟨rfl, _⟩ | ⟨a, len, cap, m, n, D, Pl, rfl, hb, hl, hm, hmm, _, hx⟩
  · exact ⟨[], ⟨none, 0, rfl, Nat.le_refl _, rfl, Nat.zero_le _, fun h => by cases h⟩, Nat.zero_le _, fun _ h => by cases h⟩
  · have hlm : len ≤ m := by rw [hmm]; split <;> omega
    have hy : ∀ i : Fin len, ∃ y, (∃ c, w.cells? base (a.add (i.val * P.cellsOf e)) (P.cellsOf e) = some c ∧ d.K w y c) ∧ Pr y := fun i => by
      obtain ⟨c, h1, h2⟩ := hx i.val (Nat.lt_of_lt_of_le i.isLt hlm)
      obtain ⟨y, hk, hp⟩ := hd _ _ _ _ _ _ _ _ _ h2
      exact ⟨y, ⟨c, h1, hk⟩, hp⟩
    let Y : Fin len → α := fun i => Classical.choose (hy i)
    have hY := fun i => Classical.choose_spec (hy i)
    have hlen : (List.ofFn Y).length = len := by simp
    refine ⟨List.ofFn Y, ⟨some a, cap, by rw [hlen], by rw [hlen]; exact hl, rfl, ?_, ?_⟩, ?_, ?_⟩
    · rw [hlen]; exact Nat.le_trans hl (Nat.le_trans hm (by decide))
    · intro _
      refine ⟨a, rfl, fun j p hj => ?_⟩
      have hjl : j < len := by
        have := (List.getElem?_eq_some_iff.1 hj).1
        omega
      have hp : p = Y ⟨j, hjl⟩ := by
        have := (List.getElem?_eq_some_iff.1 hj).2
        rw [List.getElem_ofFn] at this
        exact this.symm
      obtain ⟨⟨c, h1, hk⟩, _⟩ := hY ⟨j, hjl⟩
      refine ⟨c, d.K_len hk, hp ▸ hk, fun i u hu => ?_⟩
      obtain ⟨_, hcl, hcell⟩ := World.cells?_some h1
      have hi : i < P.cellsOf e := by
        have := (List.getElem?_eq_some_iff.1 hu).1
        omega
      have := hcell i hi
      rw [hu] at this
      rw [← this, ← hc, ← add_twice]
    · rw [hlen]; exact Nat.le_trans hl hm
    · intro y hy'
      obtain ⟨i, rfl⟩ := List.mem_ofFn.1 hy'
      exact (hY i).2

/-- The same of the fields of a struct, from one on. -/
def OpensL (P : Program) {α : Type} (fs : List Field) (off len : Nat) (d : Kd α) (Pr : α → Prop) : Prop :=
  ∀ (H : Type) (enc : TypeId × Value → H) (w : World) (base : Nat) (spare : Nat → Bool) (held : Bool) (cs : List Value),
    cs.length = len → (∀ f ∈ fs, ∃ y n, DataW.trod enc P w base spare held n f.type ((cs.drop f.offset).take (P.cellsOf f.type)) = some y) → ∃ y, d.K w y (cs.drop off) ∧ Pr y

theorem opensL_one {P : Program} {α : Type} {f : Field} {off len : Nat} {d : Kd α} {Pr : α → Prop} (ho : f.offset = off) (hl : len = off + P.cellsOf f.type) (hd : Opens P d Pr f.type) : OpensL P [f] off len d Pr := by
  intro H enc w base spare held cs hcs hf
  obtain ⟨y, n, h⟩ := hf f (by simp)
  rw [ho, List.take_of_length_le (by simp; omega)] at h
  exact hd _ _ _ _ _ _ _ _ _ h

theorem opensL_cons {P : Program} {α β : Type} {f : Field} {fs : List Field} {off len : Nat} {d : Kd α} {d' : Kd β} {Pr : α → Prop} {Pr' : β → Prop} (ho : f.offset = off) (hd : Opens P d Pr f.type)
    (hs : OpensL P fs (off + P.cellsOf f.type) len d' Pr') : OpensL P (f :: fs) off len (Kd.pair d d') (fun x => Pr x.1 ∧ Pr' x.2) := by
  intro H enc w base spare held cs hcs hf
  obtain ⟨y, n, h⟩ := hf f (by simp)
  rw [ho] at h
  obtain ⟨y1, k1, p1⟩ := hd _ _ _ _ _ _ _ _ _ h
  obtain ⟨y2, k2, p2⟩ := hs _ enc w base spare held cs hcs (fun g hg => hf g (by simp [hg]))
  refine ⟨(y1, y2), ⟨_, _, ?_, k1, k2⟩, p1, p2⟩
  rw [← List.drop_drop, List.take_append_drop]

theorem opens_struct {P : Program} {t : TypeId} {fs : Array Field} {l : List Field} {α : Type} {d : Kd α} {Pr : α → Prop} (ht : P.underlying t = some (.struct fs)) (hfs : fs.toList = l) (hd : OpensL P l 0 (P.cellsOf t) d Pr) : Opens P d Pr t := by
  intro H enc w base spare held fuel cs x h
  obtain ⟨xs, n, _, rfl, hl, hlen, hf⟩ := DataW.trod_struct ht h
  subst hfs
  have := hd H enc w base spare held cs hl (fun f hm => by
    obtain ⟨i, hi, rfl⟩ := List.mem_iff_getElem.1 hm
    have hi' : i < fs.size := by simpa using hi
    have := hf i fs[i] (by simp [hi'])
    rw [List.getElem?_eq_getElem (by omega)] at this
    exact ⟨_, n, by simpa using this⟩)
  simpa using this

theorem opens_iso {P : Program} {t : TypeId} {α β : Type} {d : Kd α} {Pr : α → Prop} (f : β → α) (g : α → β) (hfg : ∀ x, f (g x) = x) (h : Opens P d Pr t) : Opens P (Kd.iso d f) (fun y => Pr (f y)) t := by
  intro H enc w base spare held fuel cs x hx
  obtain ⟨y, hk, hp⟩ := h _ _ _ _ _ _ _ _ _ hx
  exact ⟨g y, by show d.K w (f (g y)) cs; rw [hfg]; exact hk, by show Pr (f (g y)); rw [hfg]; exact hp⟩

theorem opens_imp {P : Program} {t : TypeId} {α : Type} {d : Kd α} {Pr Pr' : α → Prop} (h : Opens P d Pr t) (hi : ∀ x, Pr x → Pr' x) : Opens P d Pr' t := by
  intro H enc w base spare held fuel cs x hx
  obtain ⟨y, hk, hp⟩ := h _ _ _ _ _ _ _ _ _ hx
  exact ⟨y, hk, hi _ hp⟩

end Go.Proofs.Ytggbnjdbbomjoaa
