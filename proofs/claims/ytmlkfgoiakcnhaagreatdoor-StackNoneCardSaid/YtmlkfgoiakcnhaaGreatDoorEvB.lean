/- The abstract run's values and heap beside the machine's: what stands for what; the lemmas on tables and lists. -/
import Derived.Test.YtmlkfgoiakcnhaaGreatDoorEvA
import Derived.Below
import Derived.Laws.Rows
namespace Go.Proofs.YtmlkfgoiakcnhaaGreatDoor
open Go Go.RowKit

/-- where a block of the abstract run lies: the machine's block, its cells, the cells of an element -/
structure Loc where
  blk : Nat
  tot : Nat
  esz : Nat
abbrev Sg := Nat → Option Loc
def Le (s t : Sg) : Prop := ∀ i l, s i = some l → t i = some l
theorem Le.refl (s : Sg) : Le s s := fun _ _ h => h
theorem Le.trans {s t u : Sg} (h : Le s t) (k : Le t u) : Le s u := fun i l e => k i l (h i l e)

mutual
def VR (σ : Sg) : EV → Value → Prop
  | .bool b, v => v = .bool b
  | .int k n, v => v = .int k n
  | .str s, v => v = .string ⟨s.toArray⟩
  | .ptr0, v => v = .pointer none
  | .ptr b off, v => ∃ l, σ b = some l ∧ v = .pointer (some ⟨l.blk, off, none⟩)
  | .slice0, v => v = .slice none 0 0
  | .slice b off len cap, v => ∃ l, σ b = some l ∧ v = .slice (some ⟨l.blk, off, none⟩) len (cap.getD ((l.tot - off) / l.esz)) ∧ len ≤ cap.getD ((l.tot - off) / l.esz)
  | .map0, v => v = .map none
  | .map b, v => ∃ l, σ b = some l ∧ v = .map (some l.blk)
  | .func0, v => v = .nilFunc
  | .func f a c, v => ∃ x y, v = .func (.func f) x y ∧ VRs σ a x.toList ∧ VRs σ c y.toList
  | .iface0, v => v = .nilIface
  | .iface t e, v => ∃ u, v = .iface t u ∧ VR σ e u
  | .agg l, v => ∃ x, v = .agg x ∧ VRs σ l x.toList
  | .tup l, v => ∃ x, v = .tuple x ∧ VRs σ l x.toList
  | .unkB, v => ∃ b, v = .bool b
  | .unkI k, v => ∃ n, v = .int k n
  | .unkS, v => ∃ s, v = .string s
  | .unkL, v => ∃ a n c, v = .slice a n c
  | .unkV, v => v.oneCell' = true
  | .rng k lo hi, v => ∃ n, v = .int k n ∧ lo ≤ n ∧ n ≤ hi
  | .yld b, v => ∃ l, σ b = some l ∧ v = .func (.yield l.blk) #[] #[]
def VRs (σ : Sg) : EVs → List Value → Prop
  | .nil, l => l = []
  | .cons e r, l => ∃ v m, l = v :: m ∧ VR σ e v ∧ VRs σ r m
end

mutual
theorem VR.mono {σ τ : Sg} (h : Le σ τ) : ∀ (e : EV) (v : Value), VR σ e v → VR τ e v
  | .bool _, _, H => H
  | .int _ _, _, H => H
  | .str _, _, H => H
  | .ptr0, _, H => H
  | .ptr b _, _, H => by simp only [VR] at H ⊢; obtain ⟨l, hl, rfl⟩ := H; exact ⟨l, h b l hl, rfl⟩
  | .slice0, _, H => H
  | .slice b _ _ _, _, H => by simp only [VR] at H ⊢; obtain ⟨l, hl, rfl, hle⟩ := H; exact ⟨l, h b l hl, rfl, hle⟩
  | .map0, _, H => H
  | .map b, _, H => by simp only [VR] at H ⊢; obtain ⟨l, hl, rfl⟩ := H; exact ⟨l, h b l hl, rfl⟩
  | .func0, _, H => H
  | .func _ a c, _, H => by simp only [VR] at H ⊢; obtain ⟨x, y, rfl, h1, h2⟩ := H; exact ⟨x, y, rfl, VRs.mono h a _ h1, VRs.mono h c _ h2⟩
  | .iface0, _, H => H
  | .iface _ e, _, H => by simp only [VR] at H ⊢; obtain ⟨u, rfl, h1⟩ := H; exact ⟨u, rfl, VR.mono h e _ h1⟩
  | .agg l, _, H => by simp only [VR] at H ⊢; obtain ⟨x, rfl, h1⟩ := H; exact ⟨x, rfl, VRs.mono h l _ h1⟩
  | .tup l, _, H => by simp only [VR] at H ⊢; obtain ⟨x, rfl, h1⟩ := H; exact ⟨x, rfl, VRs.mono h l _ h1⟩
  | .unkB, _, H => H
  | .unkI _, _, H => H
  | .unkS, _, H => H
  | .unkL, _, H => H
  | .unkV, _, H => H
  | .rng _ _ _, _, H => H
  | .yld b, _, H => by simp only [VR] at H ⊢; obtain ⟨l, hl, rfl⟩ := H; exact ⟨l, h b l hl, rfl⟩
theorem VRs.mono {σ τ : Sg} (h : Le σ τ) : ∀ (l : EVs) (m : List Value), VRs σ l m → VRs τ l m
  | .nil, _, H => H
  | .cons e r, _, H => by simp only [VRs] at H ⊢; obtain ⟨v, m, rfl, h1, h2⟩ := H; exact ⟨v, m, rfl, VR.mono h e _ h1, VRs.mono h r _ h2⟩
end

theorem VRs.cons {σ : Sg} {e : EV} {r : EVs} {v : Value} {m : List Value} (h : VR σ e v) (k : VRs σ r m) : VRs σ (.cons e r) (v :: m) := by
  simp only [VRs]; exact ⟨v, m, rfl, h, k⟩
theorem VRs.nil {σ : Sg} : VRs σ .nil [] := by simp only [VRs]
theorem VRs.len {σ : Sg} : ∀ {l : EVs} {m : List Value}, VRs σ l m → l.len = m.length
  | .nil, m, h => by simp only [VRs] at h; subst h; rfl
  | .cons e r, m, h => by
    simp only [VRs] at h
    obtain ⟨v, m, rfl, _, h2⟩ := h
    have := VRs.len h2
    simp only [EVs.len, List.length_cons, this, Nat.succ_eq_add_one]
theorem EVs.len_toL : ∀ l : EVs, l.len = l.toL.length
  | .nil => rfl
  | .cons _ l => by simp only [EVs.len, EVs.toL, List.length_cons, EVs.len_toL l, Nat.succ_eq_add_one]
theorem EVs.get_toL : ∀ (l : EVs) (n : Nat), l.get n = l.toL[n]?
  | .nil, n => by simp [EVs.get, EVs.toL]
  | .cons v l, 0 => by simp [EVs.get, EVs.toL]
  | .cons v l, n + 1 => by
    have : Nat.beq (n + 1) 0 = false := rfl
    simp only [EVs.get, EVs.toL, this, cond_false, List.getElem?_cons_succ]
    exact EVs.get_toL l n
theorem EVs.take_toL : ∀ (l : EVs) (n : Nat), (l.take n).toL = l.toL.take n
  | .nil, n => by simp [EVs.take, EVs.toL]
  | .cons v l, 0 => by simp [EVs.take, EVs.toL]
  | .cons v l, n + 1 => by
    have : Nat.beq (n + 1) 0 = false := rfl
    simp only [EVs.take, EVs.toL, this, cond_false, List.take_succ_cons]
    rw [show Nat.sub (n + 1) 1 = n from rfl, EVs.take_toL l n]
theorem EVs.drop_toL : ∀ (l : EVs) (n : Nat), (l.drop n).toL = l.toL.drop n
  | .nil, n => by simp [EVs.drop, EVs.toL]
  | .cons v l, 0 => by simp [EVs.drop, EVs.toL]
  | .cons v l, n + 1 => by
    have : Nat.beq (n + 1) 0 = false := rfl
    simp only [EVs.drop, EVs.toL, this, cond_false, List.drop_succ_cons]
    rw [show Nat.sub (n + 1) 1 = n from rfl, EVs.drop_toL l n]
theorem EVs.app_toL : ∀ (l m : EVs), (l.app m).toL = l.toL ++ m.toL
  | .nil, m => by simp [EVs.app, EVs.toL]
  | .cons v l, m => by simp [EVs.app, EVs.toL, EVs.app_toL l m]
theorem EVs.len_app (l m : EVs) : (l.app m).len = l.len + m.len := by simp [EVs.len_toL, EVs.app_toL]
/-- related lists, place by place -/
theorem VRs.iff {σ : Sg} : ∀ {l : EVs} {m : List Value}, VRs σ l m ↔ (l.toL.length = m.length ∧ ∀ (i : Nat) (e : EV) (v : Value), l.toL[i]? = some e → m[i]? = some v → VR σ e v)
  | .nil, m => by
    simp only [VRs, EVs.toL, List.length_nil]
    constructor
    · rintro rfl; exact ⟨rfl, fun i e v h => by simp at h⟩
    · rintro ⟨h, _⟩; exact List.eq_nil_of_length_eq_zero h.symm
  | .cons e r, m => by
    simp only [VRs, EVs.toL, List.length_cons]
    constructor
    · rintro ⟨v, m, rfl, h1, h2⟩
      obtain ⟨a, b⟩ := VRs.iff.1 h2
      refine ⟨by simp [a], fun i e' v' he hv => ?_⟩
      cases i with
      | zero => simp at he hv; subst he; subst hv; exact h1
      | succ i => simp at he hv; exact b i e' v' he hv
    · rintro ⟨h1, h2⟩
      cases m with
      | nil => simp at h1
      | cons v m => exact ⟨v, m, rfl, h2 0 e v rfl rfl, VRs.iff.2 ⟨by simpa using h1, fun i e' v' he hv => h2 (i + 1) e' v' (by simpa using he) (by simpa using hv)⟩⟩
theorem VRs.get {σ : Sg} {l : EVs} {m : List Value} (h : VRs σ l m) {i : Nat} {e : EV} (he : l.toL[i]? = some e) : ∃ v, m[i]? = some v ∧ VR σ e v := by
  obtain ⟨a, b⟩ := VRs.iff.1 h
  have hi : i < m.length := by rw [← a]; exact (List.getElem?_eq_some_iff.1 he).1
  exact ⟨m[i], by simp [hi], b i e _ he (by simp [hi])⟩
theorem VRs.take {σ : Sg} {l : EVs} {m : List Value} (h : VRs σ l m) (n : Nat) : VRs σ (l.take n) (m.take n) := by
  obtain ⟨a, b⟩ := VRs.iff.1 h
  refine VRs.iff.2 ⟨by simp [EVs.take_toL, a], fun i e v he hv => ?_⟩
  rw [EVs.take_toL, List.getElem?_take] at he
  rw [List.getElem?_take] at hv
  split at he
  · rename_i hlt; rw [if_pos hlt] at hv; exact b i e v he hv
  · cases he
theorem VRs.drop {σ : Sg} {l : EVs} {m : List Value} (h : VRs σ l m) (n : Nat) : VRs σ (l.drop n) (m.drop n) := by
  obtain ⟨a, b⟩ := VRs.iff.1 h
  refine VRs.iff.2 ⟨by simp [EVs.drop_toL, a], fun i e v he hv => ?_⟩
  rw [EVs.drop_toL, List.getElem?_drop] at he
  rw [List.getElem?_drop] at hv
  exact b (n + i) e v he hv
theorem VRs.app {σ : Sg} : ∀ {l r : EVs} {m k : List Value}, VRs σ l m → VRs σ r k → VRs σ (l.app r) (m ++ k)
  | .nil, r, m, k, h, g => by simp only [VRs] at h; subst h; exact g
  | .cons e l, r, m, k, h, g => by
    simp only [VRs] at h
    obtain ⟨v, m, rfl, h1, h2⟩ := h
    exact VRs.cons h1 (VRs.app h2 g)
theorem VR.flat {σ : Sg} : ∀ {e : EV} {v : Value}, VR σ e v → e.flat = true → v.oneCell' = true := by
  intro e v h hf
  cases e <;> simp only [VR] at h <;> first
    | exact h
    | (subst h; rfl)
    | (obtain ⟨l, _, rfl⟩ := h; rfl)
    | (obtain ⟨x, y, rfl, _⟩ := h; rfl)
    | (obtain ⟨x, rfl, _⟩ := h; first | rfl | cases hf)
    | (obtain ⟨x, rfl⟩ := h; rfl)
    | (obtain ⟨x, y, z, rfl⟩ := h; rfl)
theorem VRs.flat {σ : Sg} : ∀ {l : EVs} {m : List Value}, VRs σ l m → l.flat = true → ∀ v ∈ m, v.oneCell' = true
  | .nil, m, h, _, v, hv => by simp only [VRs] at h; subst h; cases hv
  | .cons e r, m, h, hf, v, hv => by
    simp only [VRs] at h
    obtain ⟨u, m, rfl, h1, h2⟩ := h
    simp only [EVs.flat] at hf
    cases he : e.flat with
    | false => rw [he] at hf; cases hf
    | true =>
      rw [he] at hf
      cases hv with
      | head => exact h1.flat he
      | tail _ hv => exact h2.flat hf v hv
theorem VR.cells {σ : Sg} {e : EV} {v : Value} (h : VR σ e v) : VRs σ e.cells v.cells.toList := by
  cases e with
  | agg l => simp only [VR] at h; obtain ⟨x, rfl, hx⟩ := h; exact hx
  | unkV =>
    have hv : v.cells = #[v] := by simp only [VR] at h; cases v <;> first | rfl | cases h
    rw [hv]; exact VRs.cons h VRs.nil
  | _ =>
    have hv : v.cells = #[v] := by
      have h' := h
      simp only [VR] at h'
      first
        | (subst h'; rfl)
        | (obtain ⟨l, _, rfl⟩ := h'; rfl)
        | (obtain ⟨x, y, rfl, _⟩ := h'; rfl)
        | (obtain ⟨x, rfl, _⟩ := h'; rfl)
        | (obtain ⟨x, rfl⟩ := h'; rfl)
        | (obtain ⟨x, y, z, rfl⟩ := h'; rfl)
    rw [hv]; exact VRs.cons h VRs.nil

theorem Tr.get_node {α : Type} (l r : Tr α) (x : Option α) (n : Nat) : (Tr.node l x r).get n = if n = 0 then x else if n % 2 = 1 then l.get (n / 2) else r.get (n / 2 - 1) := by
  have e1 : Nat.beq n 0 = decide (n = 0) := by rw [Bool.eq_iff_iff]; simp
  have e2 : Nat.beq (Nat.mod n 2) 1 = decide (n % 2 = 1) := by rw [Bool.eq_iff_iff]; simp; rfl
  simp only [Tr.get, e1, e2, Bool.cond_decide]
  rfl
theorem Tr.get_nil {α : Type} (n : Nat) : (Tr.nil : Tr α).get n = none := rfl
section
variable {β : Type} {fail : β} {G : β → Prop} (hf : ¬ G fail)
include hf
theorem Tr.put_spec {α : Type} {v : Option α} : ∀ (f : Nat) (t : Tr α) (n : Nat) (k : Tr α → β), G (Tr.put fail v f t n k) → ∃ t', (∀ j, t'.get j = if j = n then v else t.get j) ∧ G (k t')
  | 0, t, n, k, h => by cases t <;> exact absurd h hf
  | f + 1, .nil, n, k, h => by
    have e1 : Nat.beq n 0 = decide (n = 0) := by rw [Bool.eq_iff_iff]; simp
    have e2 : Nat.beq (Nat.mod n 2) 1 = decide (n % 2 = 1) := by rw [Bool.eq_iff_iff]; simp; rfl
    simp only [Tr.put, e1, e2, Bool.cond_decide] at h
    by_cases h0 : n = 0
    · rw [if_pos h0] at h
      refine ⟨_, fun j => ?_, h⟩
      subst h0
      rw [Tr.get_node]; split <;> simp [Tr.get_nil]
    · rw [if_neg h0] at h
      by_cases h1 : n % 2 = 1
      · rw [if_pos h1] at h
        obtain ⟨t', ht, hk⟩ := Tr.put_spec f .nil _ _ h
        refine ⟨_, fun j => ?_, hk⟩
        rw [Tr.get_node, ht]
        change (if j = 0 then none else if j % 2 = 1 then (if j / 2 = n / 2 then v else Tr.nil.get (j / 2)) else Tr.nil.get (j / 2 - 1)) = _
        simp only [Tr.get_nil]
        by_cases hj : j = n
        · subst hj; rw [if_neg h0, if_pos h1, if_pos rfl, if_pos rfl]
        · rw [if_neg hj]
          split
          · rfl
          · split
            · rw [if_neg (by omega)]
            · rfl
      · rw [if_neg h1] at h
        obtain ⟨t', ht, hk⟩ := Tr.put_spec f .nil _ _ h
        refine ⟨_, fun j => ?_, hk⟩
        rw [Tr.get_node, ht]
        change (if j = 0 then none else if j % 2 = 1 then Tr.nil.get (j / 2) else (if j / 2 - 1 = n / 2 - 1 then v else Tr.nil.get (j / 2 - 1))) = _
        simp only [Tr.get_nil]
        by_cases hj : j = n
        · subst hj; rw [if_neg h0, if_neg h1, if_pos rfl, if_pos rfl]
        · rw [if_neg hj]
          split
          · rfl
          · split
            · rfl
            · rw [if_neg (by omega)]
  | f + 1, .node l x r, n, k, h => by
    have e1 : Nat.beq n 0 = decide (n = 0) := by rw [Bool.eq_iff_iff]; simp
    have e2 : Nat.beq (Nat.mod n 2) 1 = decide (n % 2 = 1) := by rw [Bool.eq_iff_iff]; simp; rfl
    simp only [Tr.put, e1, e2, Bool.cond_decide] at h
    by_cases h0 : n = 0
    · rw [if_pos h0] at h
      refine ⟨_, fun j => ?_, h⟩
      subst h0
      rw [Tr.get_node, Tr.get_node]; split <;> rfl
    · rw [if_neg h0] at h
      by_cases h1 : n % 2 = 1
      · rw [if_pos h1] at h
        obtain ⟨t', ht, hk⟩ := Tr.put_spec f l _ _ h
        refine ⟨_, fun j => ?_, hk⟩
        rw [Tr.get_node, Tr.get_node, ht]
        change (if j = 0 then x else if j % 2 = 1 then (if j / 2 = n / 2 then v else l.get (j / 2)) else r.get (j / 2 - 1)) = _
        by_cases hj : j = n
        · subst hj; rw [if_neg h0, if_pos h1, if_pos rfl, if_pos rfl]
        · rw [if_neg hj]
          split
          · rfl
          · split
            · rw [if_neg (by omega)]
            · rfl
      · rw [if_neg h1] at h
        obtain ⟨t', ht, hk⟩ := Tr.put_spec f r _ _ h
        refine ⟨_, fun j => ?_, hk⟩
        rw [Tr.get_node, Tr.get_node, ht]
        change (if j = 0 then x else if j % 2 = 1 then l.get (j / 2) else (if j / 2 - 1 = n / 2 - 1 then v else r.get (j / 2 - 1))) = _
        by_cases hj : j = n
        · subst hj; rw [if_neg h0, if_neg h1, if_pos rfl, if_pos rfl]
        · rw [if_neg hj]
          split
          · rfl
          · split
            · rfl
            · rw [if_neg (by omega)]
theorem readCells_spec {c : Tr EV} : ∀ (n off : Nat) (k : EVs → β), G (readCells fail c n off k) → ∃ l : EVs, l.toL.length = n ∧ (∀ i, i < n → c.get (off + i) = l.toL[i]?) ∧ G (k l)
  | 0, off, k, h => ⟨.nil, rfl, fun i hi => by omega, h⟩
  | n + 1, off, k, h => by
    simp only [readCells] at h
    cases hc : c.get off with
    | none => rw [hc] at h; exact absurd h hf
    | some v =>
      rw [hc] at h
      obtain ⟨l, h1, h2, h3⟩ := readCells_spec n _ _ h
      refine ⟨.cons v l, by simp [EVs.toL, h1], fun i hi => ?_, h3⟩
      cases i with
      | zero => simp [EVs.toL, hc]
      | succ i =>
        simp only [EVs.toL, List.getElem?_cons_succ]
        rw [← h2 i (by omega)]
        congr 1
        omega
theorem writeCells_spec : ∀ (l : EVs) (c : Tr EV) (off : Nat) (k : Tr EV → β), G (writeCells fail l c off k) → ∃ c' : Tr EV, (∀ i, c'.get i = if off ≤ i ∧ i < off + l.toL.length then l.toL[i - off]? else c.get i) ∧ G (k c')
  | .nil, c, off, k, h => ⟨c, fun i => by rw [if_neg (by simp [EVs.toL])], h⟩
  | .cons v l, c, off, k, h => by
    simp only [writeCells] at h
    obtain ⟨t, ht, h⟩ := Tr.put_spec hf _ _ _ _ h
    obtain ⟨c', hc, h⟩ := writeCells_spec l t _ _ h
    refine ⟨c', fun i => ?_, h⟩
    have hlen : (EVs.cons v l).toL.length = l.toL.length + 1 := rfl
    rw [hc, ht]
    by_cases e : i = off
    · subst e
      rw [if_neg (by omega), if_pos rfl, if_pos (by omega), Nat.sub_self]
      rfl
    · by_cases h2 : off.succ ≤ i ∧ i < off.succ + l.toL.length
      · rw [if_pos h2, if_pos (by omega), show i - off = (i - off.succ) + 1 by omega]
        rfl
      · rw [if_neg h2, if_neg e, if_neg (by omega)]
end
theorem forceI_spec {β : Type} {fail : β} {G : β → Prop} {n : Int} {k : Int → β} (h : G (forceI fail n k)) : G (k n) := by
  cases n <;> simp only [forceI, Nat.beq_refl, cond_true] at h <;> exact h

theorem eqInt_eq (a b : Int) : eqInt a b = (a == b) := by
  rw [Bool.eq_iff_iff]
  cases a <;> cases b <;> simp [eqInt] <;> omega
theorem ltInt_eq (a b : Int) : ltInt a b = decide (a < b) := by
  rw [Bool.eq_iff_iff]
  cases a <;> cases b <;> simp only [ltInt, Nat.blt, Nat.ble_eq, decide_eq_true_eq] <;> (try simp only [Int.ofNat_eq_natCast, Int.negSucc_eq]) <;> (try simp) <;> omega
theorem eqBytes_eq : ∀ a b : List UInt8, eqBytes a b = (a == b)
  | [], [] => rfl
  | [], b :: m => by simp [eqBytes]
  | a :: l, [] => by simp [eqBytes]
  | a :: l, b :: m => by
    have e : Nat.beq a.toNat b.toNat = (a == b) := by rw [Bool.eq_iff_iff]; simp [UInt8.toNat_inj]
    simp only [eqBytes, e, eqBytes_eq l m]
    cases h : a == b <;> simp_all
theorem ltBytes_eq : ∀ a b : List UInt8, ltBytes a b = Op.bytesLess a b
  | a, [] => by cases a <;> rfl
  | [], b :: m => rfl
  | a :: l, b :: m => by
    have e : Nat.beq a.toNat b.toNat = (a == b) := by rw [Bool.eq_iff_iff]; simp [UInt8.toNat_inj]
    have e2 : Nat.blt a.toNat b.toNat = decide (a < b) := by rw [Bool.eq_iff_iff]; simp [Nat.blt, UInt8.lt_iff_toNat_lt, Nat.succ_le_iff]
    simp only [ltBytes, Op.bytesLess, e, e2, ltBytes_eq l m]
    cases decide (a < b) <;> cases (a == b) <;> simp
theorem ikEq_eq {a b : IntKind} (h : ikEq a b = true) : a = b := by
  cases a <;> cases b <;> first | rfl | exact absurd h (by decide)
end Go.Proofs.YtmlkfgoiakcnhaaGreatDoor
