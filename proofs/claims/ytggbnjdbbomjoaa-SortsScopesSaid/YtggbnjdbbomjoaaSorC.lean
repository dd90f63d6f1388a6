/- Memory of a table of names: what stays as it was; rows of cells; the words for a table. -/
import Derived.Test.YtggbnjdbbomjoaaSorB
import Derived.Maps.OwnSet
namespace Go.Proofs.Ytggbnjdbbomjoaa
open Go.RowKit

/-- all is as it was but the blocks of S, and new ones -/
structure Ch (S : Nat → Prop) (w w' : World) : Prop where
  os : w'.os = w.os
  tape : w'.tape = w.tape
  output : w'.output = w.output
  size : w.heap.size ≤ w'.heap.size
  block : ∀ k, k < w.heap.size → ¬ S k → w'.heap[k]? = w.heap[k]?
theorem Ch.refl (S : Nat → Prop) (w : World) : Ch S w w := ⟨rfl, rfl, rfl, Nat.le_refl _, fun _ _ _ => rfl⟩
theorem Ch.trans {S : Nat → Prop} {a b c : World} (h : Ch S a b) (k : Ch S b c) : Ch S a c :=
  ⟨k.os.trans h.os, k.tape.trans h.tape, k.output.trans h.output, Nat.le_trans h.size k.size, fun i hi hs => (k.block i (Nat.lt_of_lt_of_le hi h.size) hs).trans (h.block i hi hs)⟩
theorem Ch.mono {S T : Nat → Prop} {a b : World} (h : Ch S a b) (hs : ∀ k, k < a.heap.size → S k → T k) : Ch T a b :=
  ⟨h.os, h.tape, h.output, h.size, fun i hi hn => h.block i hi (fun q => hn (hs i hi q))⟩
theorem Ch.ofGrown {a b : World} {row : Option Nat} (h : a.grownBy b row) : Ch (fun k => some k = row) a b := ⟨h.os, h.tape, h.output, h.size, h.block⟩
theorem Ch.grown {S : Nat → Prop} {a b : World} {row : Option Nat} (h : a.grownBy b row) (hs : ∀ k, some k = row → S k) : Ch S a b := (Ch.ofGrown h).mono fun k _ e => hs k e
theorem Ch.ofBelow {S : Nat → Prop} {a b : World} (h : Below a.heap.size a b) : Ch S a b := ⟨h.os, h.tape, h.output, h.size, fun k hk _ => h.block k hk⟩
theorem Ch.below {S : Nat → Prop} {B : Nat} {a b : World} (h : Ch S a b) (hB : B ≤ a.heap.size) (hs : ∀ k, S k → B ≤ k) : Below B a b :=
  ⟨h.os, h.tape, h.output, h.size, fun k hk => h.block k (Nat.lt_of_lt_of_le hk hB) (fun q => by have := hs k q; omega)⟩
theorem Ch.drewN {S : Nat → Prop} {a b : World} (h : Ch S a b) (n : Nat) : Ch S a (b.drewN n) := ⟨h.os, h.tape, h.output, h.size, h.block⟩
theorem Ch.drawn {S : Nat → Prop} {a b : World} (h : Ch S a b) : Ch S a { b with drawn := b.drawn + 1 } := ⟨h.os, h.tape, h.output, h.size, h.block⟩
theorem Ch.setCell {S : Nat → Prop} {a b : World} (h : Ch S a b) {p : Addr} (hp : S p.block) (u : Value) : Ch S a (b.setCell p u) :=
  h.trans ⟨rfl, rfl, rfl, by simp [World.setCell], fun k _ hn => Below.heap_setCell _ _ _ _ (fun e => hn (by rw [e]; exact hp))⟩
theorem Ch.setC {S : Nat → Prop} {a c : World} (h : Ch S a c) (b o : Nat) (hp : S b) (u : Value) : Ch S a (c.setCell ⟨b, o, none⟩ u) := Ch.setCell (p := ⟨b, o, none⟩) h hp u
theorem Ch.alloc {S : Nat → Prop} {a b : World} (h : Ch S a b) (o : Obj) : Ch S a (b.alloc o) := h.trans (Ch.ofBelow ((Below.refl b.heap.size b).alloc (Nat.le_refl _) o))

/-- block b is a row of these cells, which may be written -/
def RowB (w : World) (b : Nat) (t : TypeId) (vs : List Value) : Prop := w.heap[b]? = some (.cells vs.toArray t (0, 0))
theorem RowB.lt {w : World} {b : Nat} {t : TypeId} {vs : List Value} (h : RowB w b t vs) : b < w.heap.size := lt_of_block h
theorem RowB.cell {w : World} {b : Nat} {t : TypeId} {vs : List Value} (h : RowB w b t vs) (j : Nat) : w.cell? ⟨b, j, none⟩ = vs[j]? := by
  unfold RowB at h; simp [World.cell?, h]
theorem RowB.free {w : World} {b : Nat} {t : TypeId} {vs : List Value} (h : RowB w b t vs) (j : Nat) : w.frozen? ⟨b, j, none⟩ = false := by
  unfold RowB at h; simp [World.frozen?, h]
theorem RowB.set {w : World} {b : Nat} {t : TypeId} {vs : List Value} (h : RowB w b t vs) (j : Nat) (u : Value) : RowB (w.setCell ⟨b, j, none⟩ u) b t (vs.set j u) := by
  have hlt := h.lt
  have h' : w.heap[b] = .cells vs.toArray t (0, 0) := by unfold RowB at h; simpa [Array.getElem?_eq_getElem hlt] using h
  show (w.heap.modify b _)[b]? = _
  rw [Array.getElem?_eq_getElem (by simpa using hlt), Array.getElem_modify_self, h']
  simp
theorem RowB.kept {w w' : World} {b : Nat} {t : TypeId} {vs : List Value} {S : Nat → Prop} (h : RowB w b t vs) (hc : Ch S w w') (hs : ¬ S b) : RowB w' b t vs := (hc.block b h.lt hs).trans h
theorem RowB.new (w : World) (vs : List Value) (t : TypeId) : RowB (w.alloc (.cells vs.toArray t)) w.heap.size t vs := heap_alloc_new w _

section
variable {w w' : World} {S : Nat → Prop}
theorem ownsRow_ch {base : Nat} {e : TypeId} {size : Nat} {v : Value} {n : Nat} {xs : List Value} (h : w.ownsRow base e size v n xs) (hc : Ch S w w') (hs : ∀ k, v.ownBlock = some k → ¬ S k) : w'.ownsRow base e size v n xs := by
  refine ⟨h.1, ?_⟩
  rcases h.2 with hn | ⟨g, cap, cur, rfl, hb, hgg, rest⟩
  · exact .inl hn
  · refine .inr ⟨g, cap, cur, rfl, hb, ?_, rest⟩
    rw [hc.block g (lt_of_block hgg) (hs g rfl)]
    exact hgg
theorem ownsMap_ch {H : Type} {P : Program} {k : TypeId} {R : Value → Option (DataW H × List MemPlace)} {b n : Nat} {D : DataW H} (h : w.ownsMap P k R b n D) (hc : Ch S w w') (hs : ¬ S b) : w'.ownsMap P k R b n D := by
  obtain ⟨es, clock, hb, r⟩ := h
  exact ⟨es, clock, (hc.block b (lt_of_block hb) hs).trans hb, r⟩
/-- a row of one element type is no row of another -/
theorem own_ne {base base' : Nat} {e e' : TypeId} {size size' : Nat} {v v' : Value} {n n' : Nat} {xs xs' : List Value} (h : w.ownsRow base e size v n xs) (h' : w.ownsRow base' e' size' v' n' xs') (hne : e ≠ e') {k : Nat} (hk : v.ownBlock = some k) : v'.ownBlock ≠ some k := by
  intro hk'
  rcases h.2 with ⟨rfl, _⟩ | ⟨g, cap, cur, rfl, _, hg, _⟩
  · simp [Value.ownBlock] at hk
  rcases h'.2 with ⟨rfl, _⟩ | ⟨g', cap', cur', rfl, _, hg', _⟩
  · simp [Value.ownBlock] at hk'
  simp only [Value.ownBlock, Option.some.injEq] at hk hk'
  subst hk; subst hk'
  rw [hg] at hg'
  simp at hg'
  exact hne hg'.2
theorem own_ne_row {base : Nat} {e t : TypeId} {size : Nat} {v : Value} {n : Nat} {xs vs : List Value} {b : Nat} (h : w.ownsRow base e size v n xs) (h' : RowB w b t vs) (hne : e ≠ t) : v.ownBlock ≠ some b := by
  intro hk
  rcases h.2 with ⟨rfl, _⟩ | ⟨g, cap, cur, rfl, _, hg, _⟩
  · simp [Value.ownBlock] at hk
  simp only [Value.ownBlock, Option.some.injEq] at hk
  subst hk
  unfold RowB at h'
  rw [hg] at h'
  simp at h'
  exact hne h'.2
theorem own_ne_map {H : Type} {P : Program} {kt : TypeId} {R : Value → Option (DataW H × List MemPlace)} {m : Nat} {D : DataW H} {base : Nat} {e : TypeId} {size : Nat} {v : Value} {n n' : Nat} {xs : List Value} (h : w.ownsRow base e size v n xs) (h' : w.ownsMap P kt R m n' D) : v.ownBlock ≠ some m := by
  intro hk
  rcases h.2 with ⟨rfl, _⟩ | ⟨g, cap, cur, rfl, _, hg, _⟩
  · simp [Value.ownBlock] at hk
  simp only [Value.ownBlock, Option.some.injEq] at hk
  subst hk
  obtain ⟨es, clock, hb, _⟩ := h'
  rw [hg] at hb
  simp at hb
theorem row_ne_map {H : Type} {P : Program} {kt : TypeId} {R : Value → Option (DataW H × List MemPlace)} {m : Nat} {D : DataW H} {n' : Nat} {b : Nat} {t : TypeId} {vs : List Value} (h : RowB w b t vs) (h' : w.ownsMap P kt R m n' D) : b ≠ m := by
  rintro rfl
  obtain ⟨es, clock, hb, _⟩ := h'
  unfold RowB at h
  rw [h] at hb
  simp at hb
end
end Go.Proofs.Ytggbnjdbbomjoaa
