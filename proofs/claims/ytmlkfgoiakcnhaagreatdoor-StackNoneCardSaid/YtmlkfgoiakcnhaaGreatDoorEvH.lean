/- Operations that make or write blocks. -/
import Derived.Test.YtmlkfgoiakcnhaaGreatDoorEvG
import Derived.ArgAppend
import Derived.Laws.Tables
namespace Go.Proofs.YtmlkfgoiakcnhaaGreatDoor
open Go Go.RowKit

/-- a run of cells laid over others -/
theorem setCells_heap (b : Nat) : ∀ (vs : List Value) (o : Nat) (w : World) (arr : Array Value) (t : TypeId) (fr : Nat × Nat), w.heap[b]? = some (.cells arr t fr) →
    ∃ arr', (w.setCells b o vs).heap[b]? = some (.cells arr' t fr) ∧ arr'.size = arr.size ∧ (∀ i, arr'[i]? = if o ≤ i ∧ i < o + vs.length ∧ i < arr.size then vs[i - o]? else arr[i]?) ∧
      (∀ k, k ≠ b → (w.setCells b o vs).heap[k]? = w.heap[k]?) ∧ (w.setCells b o vs).heap.size = w.heap.size ∧ (w.setCells b o vs).os = w.os ∧ (w.setCells b o vs).tape = w.tape ∧ (w.setCells b o vs).output = w.output
  | [], o, w, arr, t, fr, h => ⟨arr, h, rfl, fun i => by rw [if_neg (by simp; omega)], fun _ _ => rfl, rfl, rfl, rfl, rfl⟩
  | v :: vs, o, w, arr, t, fr, h => by
    have h1 : (w.setCell ⟨b, o, none⟩ v).heap[b]? = some (.cells (arr.setIfInBounds o v) t fr) := by
      simp [World.setCell, Array.getElem?_modify, h]
    obtain ⟨arr', a1, a2, a3, a4, a5, a6, a7, a8⟩ := setCells_heap b vs (o + 1) (w.setCell ⟨b, o, none⟩ v) _ t fr h1
    refine ⟨arr', a1, by rw [a2]; simp, fun i => ?_, fun k hk => ?_, ?_, a6, a7, a8⟩
    · rw [a3, Array.size_setIfInBounds, Array.getElem?_setIfInBounds]
      simp only [List.length_cons]
      by_cases e : i = o
      · subst e
        rw [if_neg (by omega), if_pos rfl]
        by_cases hi : i < arr.size
        · rw [if_pos hi, if_pos ⟨by omega, by omega, hi⟩]; simp
        · rw [if_neg hi, if_neg (fun h => hi h.2.2)]
          simp only [Array.getElem?_eq_none (Nat.le_of_not_lt hi)]
      · by_cases hi : o + 1 ≤ i ∧ i < o + 1 + vs.length ∧ i < arr.size
        · rw [if_pos hi, if_pos ⟨by omega, by omega, hi.2.2⟩, show i - o = (i - (o + 1)) + 1 by omega, List.getElem?_cons_succ]
        · rw [if_neg hi, if_neg (fun h => e h.symm), if_neg (fun h => hi ⟨by omega, by omega, h.2.2⟩)]
    · exact (a4 k hk).trans (Below.heap_setCell w ⟨b, o, none⟩ v k hk)
    · exact a5.trans (by simp [World.setCell])

section
variable {P : Program} {tab : Tab} {β : Type} {fail : β} {G : β → Prop} (hf : ¬ G fail)
include hf
theorem newCells_spec {h : Tr EO} {nx : Nat} {l : EVs} {z : Nat} {k : Tr EO → Nat → β} {fl : Nat} {σ : Sg} {w : World} (hg : G (newCells fail h nx l z k)) (H : Holds σ h w) (F : Fresh σ nx) (hfl : fl ≤ nx) :
    ∃ h', G (k h' (Nat.succ nx)) ∧ ∀ (w' : World) (arr : Array Value) (t : TypeId) (esz : Nat), VRs σ l (arr.toList.take l.toL.length) → (z = 0 → l.len = arr.size) → (0 < z → esz = z) →
      w'.heap = w.heap.push (.cells arr t) → w'.os = w.os → w'.tape = w.tape → w'.output = w.output → Post fl σ h nx w (upd σ nx ⟨w.heap.size, arr.size, esz⟩) h' (Nat.succ nx) w' := by
  unfold newCells newB at hg
  obtain ⟨c, hc, hg⟩ := writeCells_spec hf _ _ _ _ hg
  obtain ⟨h', hh, hg⟩ := Tr.put_spec hf _ _ _ _ hg
  refine ⟨h', hg, fun w' arr t esz hl hz hz' hheap hos htape hout => ?_⟩
  have hlen : l.toL.length ≤ arr.size := by
    have := (VRs.iff.1 hl).1
    simp at this; omega
  have hle : Le σ (upd σ nx ⟨w.heap.size, arr.size, esz⟩) := Le.upd (F nx (Nat.le_refl _)) _
  refine Post.mk_new H F hfl hh hheap hos htape hout ⟨arr, t, rfl, rfl, by rw [EVs.len_toL]; exact hlen, hz, hz', fun i e he => ?_⟩
  rw [hc] at he
  split at he
  · rename_i hi
    simp only [Nat.sub_zero] at he
    obtain ⟨v, hv, hr⟩ := hl.get he
    rw [List.getElem?_take_of_lt (by omega), Array.getElem?_toList] at hv
    exact ⟨v, hv, hr.mono hle⟩
  · simp [Tr.get_nil] at he
/-- the whole of a new block is known -/
theorem newCells_all {h : Tr EO} {nx : Nat} {l : EVs} {k : Tr EO → Nat → β} {fl : Nat} {σ : Sg} {w : World} (hg : G (newCells fail h nx l 0 k)) (H : Holds σ h w) (F : Fresh σ nx) (hfl : fl ≤ nx) {vs : List Value} (hl : VRs σ l vs) :
    ∃ h', G (k h' (Nat.succ nx)) ∧ ∀ (t : TypeId), Post fl σ h nx w (upd σ nx ⟨w.heap.size, vs.length, 0⟩) h' (Nat.succ nx) (w.alloc (.cells vs.toArray t)) := by
  obtain ⟨h', hg, hp⟩ := newCells_spec hf hg H F hfl
  refine ⟨h', hg, fun t => ?_⟩
  have := hp (w.alloc (.cells vs.toArray t)) vs.toArray t 0 (by rw [show l.toL.length = vs.length from (VRs.iff.1 hl).1]; simpa using hl) (fun _ => by rw [EVs.len_toL, (VRs.iff.1 hl).1]; simp) (by omega) rfl rfl rfl rfl
  simpa using this
omit hf in
theorem run_newRow (t : TypeId) (cs : Array Value) (w : World) : (newRow t cs).run P w = .ok ⟨w.heap.size, 0, none⟩ (w.alloc (.cells cs t)) := by
  simp [newRow, newObj, Sem.run]
theorem allocE_spec (hT : TabOk P tab) {e : TypeId} {h : Tr EO} {nx : Nat} {k : EV → Tr EO → Nat → β} {fl : Nat} {σ : Sg} {w : World} (hg : G (allocE tab fail e h nx k)) (H : Holds σ h w) (F : Fresh σ nx) (hfl : fl ≤ nx) :
    ∃ v h' nx' σ' v' w', (Instr.alloc e true (.tuple #[])).run P w = .ok v' w' ∧ VR σ' v v' ∧ Post fl σ h nx w σ' h' nx' w' ∧ G (k v h' nx') := by
  unfold allocE at hg
  cases hi : tab.ty.get e with
  | none => simp only [hi] at hg; exact absurd hg hf
  | some i =>
    simp only [hi] at hg
    have hty := hT.ty e i hi
    obtain ⟨z, z1, z2, z3, z4⟩ := hty.run_zero w
    obtain ⟨h', hg, hp⟩ := newCells_all hf hg H F hfl (z4 σ)
    refine ⟨_, _, _, _, .pointer (some ⟨w.heap.size, 0, none⟩), _, ?_, ?_, hp e, hg⟩
    · simp only [Instr.alloc, Sem.run_bind, z1, Result.andThen_ok, newVar, run_newRow, Sem.run_pure, Array.toArray_toList]
    · simp only [VR]; exact ⟨_, upd_same _ _ _, rfl⟩
theorem boxE_spec {t : TypeId} {v : EV} {h : Tr EO} {nx : Nat} {k : EV → Tr EO → Nat → β} {fl : Nat} {σ : Sg} {w : World} {v' : Value} (hg : G (boxE fail v h nx k)) (hv : VR σ v v') (H : Holds σ h w) (F : Fresh σ nx) (hfl : fl ≤ nx) :
    ∃ e h' nx' σ' e' w', (Instr.box t v').run P w = .ok e' w' ∧ VR σ' e e' ∧ Post fl σ h nx w σ' h' nx' w' ∧ G (k e h' nx') := by
  unfold boxE at hg
  obtain ⟨h', hg, hp⟩ := newCells_all hf hg H F hfl hv.cells
  refine ⟨_, _, _, _, .pointer (some ⟨w.heap.size, 0, none⟩), _, ?_, ?_, hp t, hg⟩
  · simp only [Instr.box, Sem.run_bind, newVar, run_newRow, Result.andThen_ok, Sem.run_pure, Array.toArray_toList]
  · simp only [VR]; exact ⟨_, upd_same _ _ _, rfl⟩

omit hf in
theorem over_toL : ∀ l m : EVs, l.toL.length ≤ m.toL.length → (overE l m).toL = l.toL ++ m.toL.drop l.toL.length
  | .nil, m, _ => by simp [overE, EVs.toL]
  | .cons v l, .nil, h => by simp [EVs.toL] at h
  | .cons v l, .cons _ m, h => by
    simp only [EVs.toL, List.length_cons] at h
    simp only [overE, EVs.toL, over_toL l m (by omega), List.cons_append, List.length_cons, List.drop_succ_cons]
omit hf in
/-- the machine's way to lay a part over cells -/
theorem fold_over (off : Nat) : ∀ (vs : List Value) (k : Nat) (cells : Array Value),
    ((vs.zipIdx k).foldl (fun cs (p : Value × Nat) => cs.setIfInBounds (off + p.2) p.1) cells).size = cells.size ∧
      ∀ i, ((vs.zipIdx k).foldl (fun cs (p : Value × Nat) => cs.setIfInBounds (off + p.2) p.1) cells)[i]? = if off + k ≤ i ∧ i < off + k + vs.length ∧ i < cells.size then vs[i - (off + k)]? else cells[i]?
  | [], k, cells => ⟨rfl, fun i => by simp only [List.zipIdx_nil, List.foldl_nil, List.length_nil]; rw [if_neg (by omega)]⟩
  | v :: vs, k, cells => by
    simp only [List.zipIdx_cons, List.foldl_cons]
    obtain ⟨h1, h2⟩ := fold_over off vs (k + 1) (cells.setIfInBounds (off + k) v)
    refine ⟨h1.trans (by simp), fun i => ?_⟩
    rw [h2, Array.size_setIfInBounds, Array.getElem?_setIfInBounds]
    simp only [List.length_cons]
    by_cases e : i = off + k
    · subst e
      rw [if_neg (by omega), if_pos rfl]
      by_cases hi : off + k < cells.size
      · rw [if_pos hi, if_pos ⟨by omega, by omega, hi⟩]; simp
      · rw [if_neg hi, if_neg (fun h => hi h.2.2)]
        simp only [Array.getElem?_eq_none (Nat.le_of_not_lt hi)]
    · by_cases hi : off + (k + 1) ≤ i ∧ i < off + (k + 1) + vs.length ∧ i < cells.size
      · rw [if_pos hi, if_pos ⟨by omega, by omega, hi.2.2⟩, show i - (off + k) = (i - (off + (k + 1))) + 1 by omega, List.getElem?_cons_succ]
      · rw [if_neg hi, if_neg (fun h => e h.symm), if_neg (fun h => hi ⟨by omega, by omega, h.2.2⟩)]
def PartsR (σ : Sg) : List (Nat × EV) → List (Nat × Value) → Prop
  | [], m => m = []
  | (i, e) :: l, m => ∃ v r, m = (i, v) :: r ∧ VR σ e v ∧ PartsR σ l r
theorem fillE_spec {placeE place : Nat → Option (Nat × Nat)} {σ : Sg} (hp : ∀ i x, placeE i = some x → place i = some x) : ∀ {ps : List (Nat × EV)} {c : EVs} {k : EVs → β} {ps' : List (Nat × Value)} {cells : Array Value},
    G (fillE fail placeE c ps k) → PartsR σ ps ps' → VRs σ c cells.toList → ∃ c' cells', Instr.fill place cells ps' = some cells' ∧ VRs σ c' cells'.toList ∧ G (k c')
  | [], c, k, ps', cells, hg, hps, hc => by
    simp only [PartsR] at hps
    subst hps
    exact ⟨c, cells, rfl, hc, hg⟩
  | (i, e) :: ps, c, k, ps', cells, hg, hps, hc => by
    obtain ⟨v, r, rfl, hv, hr⟩ := hps
    simp only [fillE] at hg
    cases hpl : placeE i with
    | none => simp only [hpl] at hg; exact absurd hg hf
    | some x =>
      obtain ⟨off, size⟩ := x
      simp only [hpl] at hg
      cases hb : (Nat.beq e.cells.len size && Nat.ble (Nat.add off size) c.len) with
      | false => rw [hb] at hg; exact absurd hg hf
      | true =>
        rw [hb] at hg
        rw [Bool.and_eq_true] at hb
        have b1 : e.cells.len = size := Nat.eq_of_beq_eq_true hb.1
        have b2 : off + size ≤ c.len := Nat.le_of_ble_eq_true hb.2
        have hvc := hv.cells
        have l1 := (VRs.iff.1 hvc).1
        have l2 := (VRs.iff.1 hc).1
        rw [EVs.len_toL] at b1 b2
        have s1 : v.cells.size = size := by rw [← b1, l1]; simp
        have s2 : cells.size = c.toL.length := by rw [l2]; simp
        obtain ⟨f1, f2⟩ := fold_over off v.cells.toList 0 cells
        obtain ⟨c', cells', h1, h2, h3⟩ := fillE_spec hp hg hr (cells := (v.cells.toList.zipIdx.foldl (fun cs (p : Value × Nat) => cs.setIfInBounds (off + p.2) p.1) cells)) (by
          have ho := over_toL e.cells (c.drop off) (by rw [EVs.drop_toL, List.length_drop]; omega)
          refine VRs.iff.2 ⟨?_, fun j a u ha hu => ?_⟩
          · have hsz := f1
            rw [← Array.length_toList] at hsz
            rw [EVs.app_toL, EVs.take_toL, ho, EVs.drop_toL, hsz]
            simp; omega
          · rw [Array.getElem?_toList, f2] at hu
            rw [EVs.app_toL, EVs.take_toL, ho, EVs.drop_toL, List.drop_drop] at ha
            have ht : (c.toL.take off).length = off := by simp; omega
            simp only [Nat.add_zero, Array.length_toList] at hu
            by_cases a1 : j < off
            · rw [if_neg (by omega)] at hu
              rw [List.getElem?_append_left (by omega), List.getElem?_take_of_lt a1] at ha
              exact (VRs.iff.1 hc).2 j a u ha (by simpa using hu)
            · rw [List.getElem?_append_right (by omega), ht] at ha
              by_cases a2 : j < off + size
              · rw [if_pos ⟨by omega, by omega, by omega⟩] at hu
                rw [List.getElem?_append_left (by omega)] at ha
                exact (VRs.iff.1 hvc).2 (j - off) a u ha hu
              · rw [if_neg (by omega)] at hu
                rw [List.getElem?_append_right (by omega), List.getElem?_drop, b1, show off + size + (j - off - size) = j by omega] at ha
                exact (VRs.iff.1 hc).2 j a u ha (by simpa using hu))
        refine ⟨c', cells', ?_, h2, h3⟩
        unfold Instr.fill
        simp only [hp i _ hpl]
        rw [if_neg (by simp [s1]; omega), ← Array.foldl_toList, Array.toList_zipIdx]
        exact h1
end
end Go.Proofs.YtmlkfgoiakcnhaaGreatDoor
