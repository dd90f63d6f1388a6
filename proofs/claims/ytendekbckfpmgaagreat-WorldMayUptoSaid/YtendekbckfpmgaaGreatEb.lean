/- An abstract run of Go code, sound (2). -/
import Derived.Test.YtendekbckfpmgaaGreatEa
import Derived.ArgAppend
import Derived.Laws.Tables
import Derived.Laws.IdiomStrings
import Derived.RangeFuncLeaves
import Derived.TacticsIn
import Derived.OrdersIn
import Derived.LoopNIn
import Derived.Maps.RangeRun
namespace Go.Proofs.YtendekbckfpmgaaGreat
open Go Go.RowKit
theorem setCells_heap (b : Nat) : ∀ (vs : List Value) (o : Nat) (w : World) (arr : Array Value) (t : TypeId) (fr : Nat × Nat), w.heap[b]? = some (.cells arr t fr) →
 ∃ arr', (w.setCells b o vs).heap[b]? = some (.cells arr' t fr) ∧ arr'.size = arr.size ∧ (∀ i, arr'[i]? = if o ≤ i ∧ i < o + vs.length ∧ i < arr.size then vs[i - o]? else arr[i]?) ∧
  (∀ k, k ≠ b → (w.setCells b o vs).heap[k]? = w.heap[k]?) ∧ (w.setCells b o vs).heap.size = w.heap.size ∧ (w.setCells b o vs).os = w.os ∧ (w.setCells b o vs).tape = w.tape ∧ (w.setCells b o vs).output = w.output
 | [], o, w, arr, t, fr, h => ⟨arr, h, rfl, fun i => by rw [if_neg (by simp; omega)], fun _ _ => rfl, rfl, rfl, rfl, rfl⟩
 | v :: vs, o, w, arr, t, fr, h => by
  have h1 : (w.setCell ⟨b, o, none⟩ v).heap[b]? = some (.cells (arr.setIfInBounds o v) t fr) := by
   simp [World.setCell, Array.getElem?_modify, h]
  obtain ⟨arr', a1, a2, a3, a4, a5, a6, a7, a8⟩ := setCells_heap b vs (o + 1) (w.setCell ⟨b, o, none⟩ v) _ t fr h1
  refine ⟨arr', a1, by rw [a2]; simp, fun i => ?_, fun k hk => ?_, ?_, a6, a7, a8⟩
  · rw [a3, Array.size_setIfInBounds, Array.getElem?_setIfInBounds]
    simp only [List.length_cons]
    by_cases e : i = o
    · subst e
      rw [if_neg (by omega), if_pos rfl]
      by_cases hi : i < arr.size
      · rw [if_pos hi, if_pos ⟨by omega, by omega, hi⟩]; simp
      · rw [if_neg hi, if_neg (fun h => hi h.2.2)]
        simp only [Array.getElem?_eq_none (Nat.le_of_not_lt hi)]
    · by_cases hi : o + 1 ≤ i ∧ i < o + 1 + vs.length ∧ i < arr.size
      · rw [if_pos hi, if_pos ⟨by omega, by omega, hi.2.2⟩, show i - o = (i - (o + 1)) + 1 by omega, List.getElem?_cons_succ]
      · rw [if_neg hi, if_neg (fun h => e h.symm), if_neg (fun h => hi ⟨by omega, by omega, h.2.2⟩)]
  · exact (a4 k hk).trans (Below.heap_setCell w ⟨b, o, none⟩ v k hk)
  · exact a5.trans (by simp [World.setCell])
section
variable {P : Program} {tab : Tab} {β : Type} {fail : β} {G : β → Prop} (hf : ¬ G fail)
include hf
theorem newCells_spec {h : Tr EO} {nx : Nat} {l : EVs} {z : Nat} {k : Tr EO → Nat → β} {fl : Nat} {σ : Sg} {w : World} (hg : G (newCells fail h nx l z k)) (H : Holds σ h w) (F : Fresh σ nx) (hfl : fl ≤ nx) :
 ∃ h', G (k h' (Nat.succ nx)) ∧ ∀ (w' : World) (arr : Array Value) (t : TypeId) (esz : Nat), VRs σ l (arr.toList.take l.toL.length) → (z = 0 → l.len = arr.size) → (0 < z → esz = z) →
  w'.heap = w.heap.push (.cells arr t) → w'.os = w.os → w'.tape = w.tape → w'.output = w.output → Post fl σ h nx w (upd σ nx ⟨w.heap.size, arr.size, esz⟩) h' (Nat.succ nx) w' := by
 unfold newCells newB at hg
 obtain ⟨c, hc, hg⟩ := writeCells_spec hf _ _ _ _ hg
 obtain ⟨h', hh, hg⟩ := Tr.put_spec hf _ _ _ _ hg
 refine ⟨h', hg, fun w' arr t esz hl hz hz' hheap hos htape hout => ?_⟩
 have hlen : l.toL.length ≤ arr.size := by
  have := (VRs.iff.1 hl).1
  simp at this; omega
 have hle : Le σ (upd σ nx ⟨w.heap.size, arr.size, esz⟩) := Le.upd (F nx (Nat.le_refl _)) _
 refine Post.mk_new H F hfl hh hheap hos htape hout ⟨arr, t, rfl, rfl, by rw [EVs.len_toL]; exact hlen, hz, hz', fun i e he => ?_⟩
 rw [hc] at he
 split at he
 · rename_i hi
   simp only [Nat.sub_zero] at he
   obtain ⟨v, hv, hr⟩ := hl.get he
   rw [List.getElem?_take_of_lt (by omega), Array.getElem?_toList] at hv
   exact ⟨v, hv, hr.mono hle⟩
 · simp [Tr.get_nil] at he
theorem newCells_all {h : Tr EO} {nx : Nat} {l : EVs} {k : Tr EO → Nat → β} {fl : Nat} {σ : Sg} {w : World} (hg : G (newCells fail h nx l 0 k)) (H : Holds σ h w) (F : Fresh σ nx) (hfl : fl ≤ nx) {vs : List Value} (hl : VRs σ l vs) :
 ∃ h', G (k h' (Nat.succ nx)) ∧ ∀ (t : TypeId), Post fl σ h nx w (upd σ nx ⟨w.heap.size, vs.length, 0⟩) h' (Nat.succ nx) (w.alloc (.cells vs.toArray t)) := by
 obtain ⟨h', hg, hp⟩ := newCells_spec hf hg H F hfl
 refine ⟨h', hg, fun t => ?_⟩
 have := hp (w.alloc (.cells vs.toArray t)) vs.toArray t 0 (by rw [show l.toL.length = vs.length from (VRs.iff.1 hl).1]; simpa using hl) (fun _ => by rw [EVs.len_toL, (VRs.iff.1 hl).1]; simp) (by omega) rfl rfl rfl rfl
 simpa using this
omit hf in
theorem run_newRow (t : TypeId) (cs : Array Value) (w : World) : (newRow t cs).run P w = .ok ⟨w.heap.size, 0, none⟩ (w.alloc (.cells cs t)) := by
 simp [newRow, newObj, Sem.run]
theorem allocE_spec (hT : TabOk P tab) {e : TypeId} {h : Tr EO} {nx : Nat} {k : EV → Tr EO → Nat → β} {fl : Nat} {σ : Sg} {w : World} (hg : G (allocE tab fail e h nx k)) (H : Holds σ h w) (F : Fresh σ nx) (hfl : fl ≤ nx) :
 ∃ v h' nx' σ' v' w', (Instr.alloc e true (.tuple #[])).run P w = .ok v' w' ∧ VR σ' v v' ∧ Post fl σ h nx w σ' h' nx' w' ∧ G (k v h' nx') := by
 unfold allocE at hg
 cases hi : tab.ty.get e with
 | none => simp only [hi] at hg; exact absurd hg hf
 | some i =>
  simp only [hi] at hg
  have hty := hT.ty e i hi
  obtain ⟨z, z1, z2, z3, z4⟩ := hty.run_zero w
  obtain ⟨h', hg, hp⟩ := newCells_all hf hg H F hfl (z4 σ)
  refine ⟨_, _, _, _, .pointer (some ⟨w.heap.size, 0, none⟩), _, ?_, ?_, hp e, hg⟩
  · simp only [Instr.alloc, Sem.run_bind, z1, Result.andThen_ok, newVar, run_newRow, Sem.run_pure, Array.toArray_toList]
  · simp only [VR]; exact ⟨_, upd_same _ _ _, rfl⟩
theorem boxE_spec {t : TypeId} {v : EV} {h : Tr EO} {nx : Nat} {k : EV → Tr EO → Nat → β} {fl : Nat} {σ : Sg} {w : World} {v' : Value} (hg : G (boxE fail v h nx k)) (hv : VR σ v v') (H : Holds σ h w) (F : Fresh σ nx) (hfl : fl ≤ nx) :
 ∃ e h' nx' σ' e' w', (Instr.box t v').run P w = .ok e' w' ∧ VR σ' e e' ∧ Post fl σ h nx w σ' h' nx' w' ∧ G (k e h' nx') := by
 unfold boxE at hg
 obtain ⟨h', hg, hp⟩ := newCells_all hf hg H F hfl hv.cells
 refine ⟨_, _, _, _, .pointer (some ⟨w.heap.size, 0, none⟩), _, ?_, ?_, hp t, hg⟩
 · simp only [Instr.box, Sem.run_bind, newVar, run_newRow, Result.andThen_ok, Sem.run_pure, Array.toArray_toList]
 · simp only [VR]; exact ⟨_, upd_same _ _ _, rfl⟩
omit hf in
theorem over_toL : ∀ l m : EVs, l.toL.length ≤ m.toL.length → (overE l m).toL = l.toL ++ m.toL.drop l.toL.length
 | .nil, m, _ => by simp [overE, EVs.toL]
 | .cons v l, .nil, h => by simp [EVs.toL] at h
 | .cons v l, .cons _ m, h => by
  simp only [EVs.toL, List.length_cons] at h
  simp only [overE, EVs.toL, over_toL l m (by omega), List.cons_append, List.length_cons, List.drop_succ_cons]
omit hf in
theorem fold_over (off : Nat) : ∀ (vs : List Value) (k : Nat) (cells : Array Value),
 ((vs.zipIdx k).foldl (fun cs (p : Value × Nat) => cs.setIfInBounds (off + p.2) p.1) cells).size = cells.size ∧
  ∀ i, ((vs.zipIdx k).foldl (fun cs (p : Value × Nat) => cs.setIfInBounds (off + p.2) p.1) cells)[i]? = if off + k ≤ i ∧ i < off + k + vs.length ∧ i < cells.size then vs[i - (off + k)]? else cells[i]?
 | [], k, cells => ⟨rfl, fun i => by simp only [List.zipIdx_nil, List.foldl_nil, List.length_nil]; rw [if_neg (by omega)]⟩
 | v :: vs, k, cells => by
  simp only [List.zipIdx_cons, List.foldl_cons]
  obtain ⟨h1, h2⟩ := fold_over off vs (k + 1) (cells.setIfInBounds (off + k) v)
  refine ⟨h1.trans (by simp), fun i => ?_⟩
  rw [h2, Array.size_setIfInBounds, Array.getElem?_setIfInBounds]
  simp only [List.length_cons]
  by_cases e : i = off + k
  · subst e
    rw [if_neg (by omega), if_pos rfl]
    by_cases hi : off + k < cells.size
    · rw [if_pos hi, if_pos ⟨by omega, by omega, hi⟩]; simp
    · rw [if_neg hi, if_neg (fun h => hi h.2.2)]
      simp only [Array.getElem?_eq_none (Nat.le_of_not_lt hi)]
  · by_cases hi : off + (k + 1) ≤ i ∧ i < off + (k + 1) + vs.length ∧ i < cells.size
    · rw [if_pos hi, if_pos ⟨by omega, by omega, hi.2.2⟩, show i - (off + k) = (i - (off + (k + 1))) + 1 by omega, List.getElem?_cons_succ]
    · rw [if_neg hi, if_neg (fun h => e h.symm), if_neg (fun h => hi ⟨by omega, by omega, h.2.2⟩)]
def PartsR (σ : Sg) : List (Nat × EV) → List (Nat × Value) → Prop
 | [], m => m = []
 | (i, e) :: l, m => ∃ v r, m = (i, v) :: r ∧ VR σ e v ∧ PartsR σ l r
theorem fillE_spec {placeE place : Nat → Option (Nat × Nat)} {σ : Sg} (hp : ∀ i x, placeE i = some x → place i = some x) : ∀ {ps : List (Nat × EV)} {c : EVs} {k : EVs → β} {ps' : List (Nat × Value)} {cells : Array Value},
 G (fillE fail placeE c ps k) → PartsR σ ps ps' → VRs σ c cells.toList → ∃ c' cells', Instr.fill place cells ps' = some cells' ∧ VRs σ c' cells'.toList ∧ G (k c')
 | [], c, k, ps', cells, hg, hps, hc => by
  simp only [PartsR] at hps
  subst hps
  exact ⟨c, cells, rfl, hc, hg⟩
 | (i, e) :: ps, c, k, ps', cells, hg, hps, hc => by
  obtain ⟨v, r, rfl, hv, hr⟩ := hps
  simp only [fillE] at hg
  cases hpl : placeE i with
  | none => simp only [hpl] at hg; exact absurd hg hf
  | some x =>
   obtain ⟨off, size⟩ := x
   simp only [hpl] at hg
   cases hb : (Nat.beq e.cells.len size && Nat.ble (Nat.add off size) c.len) with
   | false => rw [hb] at hg; exact absurd hg hf
   | true =>
    rw [hb] at hg
    rw [Bool.and_eq_true] at hb
    have b1 : e.cells.len = size := Nat.eq_of_beq_eq_true hb.1
    have b2 : off + size ≤ c.len := Nat.le_of_ble_eq_true hb.2
    have hvc := hv.cells
    have l1 := (VRs.iff.1 hvc).1
    have l2 := (VRs.iff.1 hc).1
    rw [EVs.len_toL] at b1 b2
    have s1 : v.cells.size = size := by rw [← b1, l1]; simp
    have s2 : cells.size = c.toL.length := by rw [l2]; simp
    obtain ⟨f1, f2⟩ := fold_over off v.cells.toList 0 cells
    obtain ⟨c', cells', h1, h2, h3⟩ := fillE_spec hp hg hr (cells := (v.cells.toList.zipIdx.foldl (fun cs (p : Value × Nat) => cs.setIfInBounds (off + p.2) p.1) cells)) (by
     have ho := over_toL e.cells (c.drop off) (by rw [EVs.drop_toL, List.length_drop]; omega)
     refine VRs.iff.2 ⟨?_, fun j a u ha hu => ?_⟩
     · have hsz := f1
       rw [← Array.length_toList] at hsz
       rw [EVs.app_toL, EVs.take_toL, ho, EVs.drop_toL, hsz]
       simp; omega
     · rw [Array.getElem?_toList, f2] at hu
       rw [EVs.app_toL, EVs.take_toL, ho, EVs.drop_toL, List.drop_drop] at ha
       have ht : (c.toL.take off).length = off := by simp; omega
       simp only [Nat.add_zero, Array.length_toList] at hu
       by_cases a1 : j < off
       · rw [if_neg (by omega)] at hu
         rw [List.getElem?_append_left (by omega), List.getElem?_take_of_lt a1] at ha
         exact (VRs.iff.1 hc).2 j a u ha (by simpa using hu)
       · rw [List.getElem?_append_right (by omega), ht] at ha
         by_cases a2 : j < off + size
         · rw [if_pos ⟨by omega, by omega, by omega⟩] at hu
           rw [List.getElem?_append_left (by omega)] at ha
           exact (VRs.iff.1 hvc).2 (j - off) a u ha hu
         · rw [if_neg (by omega)] at hu
           rw [List.getElem?_append_right (by omega), List.getElem?_drop, b1, show off + size + (j - off - size) = j by omega] at ha
           exact (VRs.iff.1 hc).2 j a u ha (by simpa using hu))
    refine ⟨c', cells', ?_, h2, h3⟩
    unfold Instr.fill
    simp only [hp i _ hpl]
    rw [if_neg (by simp [s1]; omega), ← Array.foldl_toList, Array.toList_zipIdx]
    exact h1
end
end Go.Proofs.YtendekbckfpmgaaGreat
namespace Go.Proofs.YtendekbckfpmgaaGreat
open Go Go.RowKit
theorem rep_get (z : EVs) : ∀ (n i : Nat), i < n * z.toL.length → (repCells z n).toL[i]? = z.toL[i % z.toL.length]?
 | 0, i, h => by omega
 | n + 1, i, h => by
  have h' : i < n * z.toL.length + z.toL.length := by rw [Nat.add_mul, Nat.one_mul] at h; exact h
  simp only [repCells, EVs.app_toL]
  by_cases e : i < z.toL.length
  · rw [List.getElem?_append_left e, Nat.mod_eq_of_lt e]
  · rw [List.getElem?_append_right (by omega), rep_get z n _ (by omega)]
    congr 1
    conv => rhs; rw [show i = (i - z.toL.length) + z.toL.length by omega, Nat.add_mod_right]
theorem rep_len (z : EVs) : ∀ n : Nat, (repCells z n).toL.length = n * z.toL.length
 | 0 => by simp [repCells, EVs.toL]
 | n + 1 => by simp only [repCells, EVs.app_toL, List.length_append, rep_len z n]; rw [Nat.add_mul, Nat.one_mul, Nat.add_comm]
theorem rep_cells {σ : Sg} {z : EVs} {zc : Array Value} {n size : Nat} (hz : VRs σ z zc.toList) (hs : zc.size = size) : VRs σ (repCells z n) ((Array.range (n * size)).map (zc[· % zc.size]!)).toList := by
 have hl := (VRs.iff.1 hz).1
 have hl' : z.toL.length = size := by rw [hl, ← hs]; simp
 refine VRs.iff.2 ⟨by rw [rep_len, hl']; simp, fun i e v he hv => ?_⟩
 have hi : i < n * z.toL.length := by rw [← rep_len]; exact (List.getElem?_eq_some_iff.1 he).1
 rw [rep_get z n i hi, hl'] at he
 have hpos : 0 < size := by
  rcases Nat.eq_zero_or_pos size with h0 | h0
  · rw [hl', h0] at hi; omega
  · exact h0
 have hlt : i % size < zc.size := by rw [hs]; exact Nat.mod_lt _ hpos
 rw [Array.getElem?_toList, Array.getElem?_map, Array.getElem?_range, if_pos (by rw [← hl']; exact hi)] at hv
 simp only [Option.map_some, Option.some.injEq] at hv
 refine (VRs.iff.1 hz).2 (i % size) e v he ?_
 rw [Array.getElem?_toList, Array.getElem?_eq_getElem hlt, ← hv, hs, getElem!_pos zc (i % size) hlt]
theorem places_of {P : Program} : ∀ (fs : List Field), (∀ f ∈ fs, (P.info? f.type).isSome) → ∃ places : List (Nat × Nat), fs.mapM (fun f => (P.info? f.type).map fun i => (f.offset, i.size)) = some places ∧
 ∀ (x : Nat) (f : Field) (i : TypeInfo), fs[x]? = some f → P.info? f.type = some i → places[x]? = some (f.offset, i.size)
 | [], _ => ⟨[], by simp, fun x f i h => by simp at h⟩
 | f :: fs, h => by
  obtain ⟨i, hi⟩ := Option.isSome_iff_exists.1 (h f (by simp))
  obtain ⟨ps, h1, h2⟩ := places_of fs (fun g hg => h g (by simp [hg]))
  refine ⟨(f.offset, i.size) :: ps, by simp [List.mapM_cons, hi, h1], fun x g j hx hj => ?_⟩
  cases x with
  | zero => simp at hx; subst hx; rw [hi] at hj; cases hj; rfl
  | succ x => simpa using h2 x g j (by simpa using hx) hj
theorem TyOk.size_eq {P : Program} {t : TypeId} {e : TyE} (h : TyOk P t e) {i : TypeInfo} (hi : P.info? t = some i) : i.size = e.size := by
 obtain ⟨j, z, h1, h2, _⟩ := h.info
 rw [hi] at h1; cases h1; exact h2
section
variable {P : Program} {tab : Tab} {β : Type} {fail : β} {G : β → Prop} (hf : ¬ G fail)
include hf
theorem buildE_spec (hT : TabOk P tab) {t : TypeId} {ps : List (Nat × EV)} {k : EV → β} {σ : Sg} {w : World} {ps' : Array (Nat × Value)} (hg : G (buildE tab fail t ps k)) (hps : PartsR σ ps ps'.toList) :
 ∃ e e', (Instr.build t ps').run P w = .ok e' w ∧ VR σ e e' ∧ G (k e) := by
 unfold buildE at hg
 cases hi : tab.ty.get t with
 | none => simp only [hi] at hg; exact absurd hg hf
 | some i =>
  simp only [hi] at hg
  have hty := hT.ty t i hi
  obtain ⟨it, z, i1, i2, i3, i4, i5, i6, i7⟩ := hty.info
  have hu := hty.und
  cases hd : i.desc with
  | struct fs =>
   simp only [hd] at hg
   rw [hd] at hu
   obtain ⟨places, p1, p2⟩ := places_of (P := P) fs.toList (hty.flds fs hd)
   obtain ⟨c', cells', c1, c2, c3⟩ := fillE_spec (place := (places.toArray[·]?)) (σ := σ) (cells := z.cells) hf (fun j x hx => by
    cases hfj : fs[j]? with
    | none => simp only [hfj] at hx; cases hx
    | some f =>
     simp only [hfj] at hx
     cases hft : tab.ty.get f.type with
     | none => simp only [hft] at hx; cases hx
     | some fi =>
      simp only [hft, Option.some.injEq] at hx
      subst hx
      have hfm : f ∈ fs.toList := by
       obtain ⟨hlt, he⟩ := Array.getElem?_eq_some_iff.1 hfj
       rw [← he]; exact Array.mem_toList_iff.2 (Array.getElem_mem hlt)
      obtain ⟨fj, hfj'⟩ := Option.isSome_iff_exists.1 (hty.flds fs hd f hfm)
      have := p2 j f fj (by rw [Array.getElem?_toList]; exact hfj) hfj'
      rw [← (hT.ty _ _ hft).size_eq hfj']
      simpa using this) hg hps (i7 σ)
   refine ⟨_, .agg cells', run_build w t ps' cells' ?_, by simp only [VR]; exact ⟨_, rfl, c2⟩, c3⟩
   simp only [Program.built, i1, hu, i4, p1]
   exact c1
  | array n e =>
   simp only [hd] at hg
   rw [hd] at hu
   cases he : tab.ty.get e with
   | none => simp only [he] at hg; exact absurd hg hf
   | some ei =>
    simp only [he] at hg
    obtain ⟨ie, _, j1, j2, _⟩ := (hT.ty e ei he).info
    obtain ⟨c', cells', c1, c2, c3⟩ := fillE_spec (place := fun i => some (i * ie.size, ie.size)) (σ := σ) (cells := z.cells) hf (fun j x hx => by rw [j2]; exact hx) hg hps (i7 σ)
    refine ⟨_, .agg cells', run_build w t ps' cells' ?_, by simp only [VR]; exact ⟨_, rfl, c2⟩, c3⟩
    simp only [Program.built, i1, hu, i4, j1]
    exact c1
  | _ => simp only [hd] at hg; exact absurd hg hf
theorem buildSliceE_spec (hT : TabOk P tab) {t : TypeId} {len : Nat} {ps : List (Nat × EV)} {h : Tr EO} {nx : Nat} {k : EV → Tr EO → Nat → β} {fl : Nat} {σ : Sg} {w : World} {ps' : Array (Nat × Value)}
 (hg : G (buildSliceE tab fail t len ps h nx k)) (hps : PartsR σ ps ps'.toList) (H : Holds σ h w) (F : Fresh σ nx) (hfl : fl ≤ nx) :
 ∃ e h' nx' σ' e' w', (Instr.buildSlice t len ps').run P w = .ok e' w' ∧ VR σ' e e' ∧ Post fl σ h nx w σ' h' nx' w' ∧ G (k e h' nx') := by
 unfold buildSliceE at hg
 obtain ⟨e, ei, hu, _, hty, hg⟩ := elemE_spec hf hT hg
 cases hb : Nat.ble (Nat.mul len ei.size) 16777216 with
 | false => simp only [hb] at hg; exact absurd hg hf
 | true =>
  simp only [hb, cond_true] at hg
  have hle : len * ei.size ≤ 16777216 := Nat.le_of_ble_eq_true hb
  obtain ⟨z, z1, z2, z3, z4⟩ := hty.run_zero w
  obtain ⟨c', cells', c1, c2, hg⟩ := fillE_spec (place := fun i => some (i * ei.size, ei.size)) (σ := σ) hf (fun j x hx => hx) hg hps (rep_cells (n := len) (z4 σ) z2)
  obtain ⟨h', hg, hp⟩ := newCells_all hf hg H F hfl c2
  refine ⟨_, _, _, _, .slice (some ⟨w.heap.size, 0, none⟩) len len, _, ?_, ?_, hp e, hg⟩
  · simp only [Instr.buildSlice, Sem.run_bind, run_underlying hu, Result.andThen_ok, hty.run_size]
    rw [if_neg (by omega)]
    by_cases h0 : len * ei.size = 0
    · have hz0 : (Array.range (len * ei.size)).map (z.cells[· % z.cells.size]!) = (Array.range (len * ei.size)).map ((#[] : Array Value)[· % (#[] : Array Value).size]!) := by rw [h0]; simp
      rw [hz0] at c1
      simp only [h0] at c1 ⊢
      simp only [if_true, c1, Sem.run_bind, run_newRow, Result.andThen_ok, Sem.run_pure, Array.toArray_toList]
    · simp only [h0, if_false, Sem.run_bind, z1, Result.andThen_ok, Sem.run_pure, c1, run_newRow, Array.toArray_toList]
  · simp only [VR, Option.getD_some]; exact ⟨_, upd_same _ _ _, rfl, Nat.le_refl _⟩
omit hf in
theorem run_askRoom (n : Nat) (w : World) : (askRoom n).run P w = .ok () w := by
 unfold askRoom
 split <;> simp [mark, Sem.run]
theorem makeSliceE_spec (hT : TabOk P tab) {t : TypeId} {l c : EV} {h : Tr EO} {nx : Nat} {k : EV → Tr EO → Nat → β} {fl : Nat} {σ : Sg} {w : World} {l' c' : Value}
 (hg : G (makeSliceE tab fail t l c h nx k)) (hl : VR σ l l') (hc : VR σ c c') (H : Holds σ h w) (F : Fresh σ nx) (hfl : fl ≤ nx) :
 ∃ e h' nx' σ' e' w', (Instr.makeSlice t l' c').run P w = .ok e' w' ∧ VR σ' e e' ∧ Post fl σ h nx w σ' h' nx' w' ∧ G (k e h' nx') := by
 unfold makeSliceE at hg
 split at hg
 · rename_i k1 n k2 m
   simp only [VR] at hl hc
   subst hl; subst hc
   obtain ⟨e, ei, hu, _, hty, hg⟩ := elemE_spec hf hT hg
   cases hb : (Nat.ble n m && Nat.ble (Nat.mul ei.bytes m) 281474976710656 && Nat.ble m 4611686018427387904) with
   | false => simp only [hb] at hg; exact absurd hg hf
   | true =>
    simp only [hb, cond_true] at hg
    rw [Bool.and_eq_true, Bool.and_eq_true] at hb
    have b1 : n ≤ m := Nat.le_of_ble_eq_true hb.1.1
    have b2 : ei.bytes * m ≤ 281474976710656 := Nat.le_of_ble_eq_true hb.1.2
    have b3 : m ≤ 4611686018427387904 := Nat.le_of_ble_eq_true hb.2
    obtain ⟨i, z, i1, i2, i3, i4, i5, i6, i7⟩ := hty.info
    obtain ⟨h', hg, hp⟩ := newCells_all hf hg H F hfl (rep_cells (n := m) (i7 σ) i5)
    refine ⟨_, _, _, _, .slice (some ⟨w.heap.size, 0, none⟩) n m, _, ?_, ?_, hp e, hg⟩
    · have wr : ∀ x : Nat, x ≤ 4611686018427387904 → IntKind.i64.wrap (Int.ofNat x) = (x : Int) := fun x hx => IntWalk.i64_in (x : Int) (by constructor <;> omega)
      have t1 : (typeInfo e).run P w = .ok i w := by simp [typeInfo, i1]
      have n1 : ¬ ((m : Int) < 0) := by omega
      have n2 : ¬ ((n : Int) < 0) := by omega
      have n3 : ¬ ((n : Int) > (m : Int)) := by omega
      have n4 : ¬ ((i.bytes : Int) * (m : Int) > 2 ^ 48) := by
       rw [i3, ← Int.natCast_mul]
       generalize ei.bytes * m = q at b2
       omega
      have zv : (zeroValue e).run P w = .ok z w := by simp [zeroValue, typeInfo, i1, i4]
      simp only [Instr.makeSlice, Sem.run_bind, run_underlying hu, Result.andThen_ok, asInt, asIntOf, Sem.run_pure, t1, wr n (by omega), wr m b3]
      simp only [n1, n2, n3, n4, decide_false, Bool.or_false, Bool.or_self, Bool.false_eq_true, if_false, Int.toNat_natCast]
      simp only [Sem.run_bind]
      rw [run_askRoom]
      simp only [Result.andThen_ok, hty.run_size]
      by_cases h0 : m * ei.size = 0
      · have hz0 : (Array.range (m * ei.size)).map (z.cells[· % z.cells.size]!) = (Array.range (m * ei.size)).map ((#[] : Array Value)[· % (#[] : Array Value).size]!) := by rw [h0]; simp
        rw [hz0]
        simp only [h0, if_true, Sem.run_pure, Result.andThen_ok, Sem.run_bind, run_newRow, Array.toArray_toList]
      · simp only [h0, if_false, Sem.run_bind, zv, Result.andThen_ok, Sem.run_pure, run_newRow, Array.toArray_toList]
    · simp only [VR, Option.getD_some]; exact ⟨_, upd_same _ _ _, rfl, b1⟩
 · exact absurd hg hf
theorem setB_spec {fl : Nat} {h : Tr EO} {b : Nat} {o : Option EO} {k : Tr EO → β} (hg : G (setB fail fl h b o k)) : fl ≤ b ∧ ∃ h', (∀ j, h'.get j = if j = b then o else h.get j) ∧ G (k h') := by
 unfold setB at hg
 cases hb : Nat.ble fl b with
 | false => rw [hb] at hg; exact absurd hg hf
 | true =>
  rw [hb] at hg
  obtain ⟨h', h1, h2⟩ := Tr.put_spec hf _ _ _ _ hg
  exact ⟨Nat.le_of_ble_eq_true hb, h', h1, h2⟩
omit hf in
theorem Post.mk_write {fl : Nat} {σ : Sg} {h h' : Tr EO} {nx : Nat} {w : World} {b : Nat} {c c' : Tr EV} {n z off : Nat} {es : EVs} {vs : List Value} (H : Holds σ h w) (F : Fresh σ nx) (hfl : fl ≤ b) (hb : h.get b = some (.cells c n z))
 (hc : ∀ i, c'.get i = if off ≤ i ∧ i < off + es.toL.length then es.toL[i - off]? else c.get i) (hp : ∀ j, h'.get j = if j = b then some (.cells c' n z) else h.get j) (hes : VRs σ es vs) (hin : off + vs.length ≤ n) :
 ∃ l, σ b = some l ∧ Post fl σ h nx w σ h' nx (w.setCells l.blk off vs) ∧ (∀ j, j < vs.length → (w.cell? ⟨l.blk, off + j, none⟩).isSome = true) ∧ (∀ j, j < vs.length → w.frozen? ⟨l.blk, off + j, none⟩ = false) := by
 obtain ⟨l, ob, h1, h2, h3⟩ := H.there b _ hb
 obtain ⟨arr, t, rfl, a1, a2, a3, a4, a5⟩ := h3
 obtain ⟨arr', b1, b2, b3, b4, b5, b6, b7, b8⟩ := setCells_heap l.blk vs off w arr t (0, 0) h2
 have hlen := (VRs.iff.1 hes).1
 refine ⟨l, h1, Post.mk_set H F hfl (by rw [hb]; rfl) h1 hp b1 b4 b5 b6 b7 b8 ⟨arr', t, rfl, by rw [b2, a1], a2, a3, a4, fun i e he => ?_⟩, fun j hj => ?_, fun j hj => ?_⟩
 · rw [hc] at he
   rw [b3]
   by_cases hi : off ≤ i ∧ i < off + es.toL.length
   · rw [if_pos hi] at he
     obtain ⟨v, hv, hr⟩ := hes.get he
     exact ⟨v, by rw [if_pos ⟨hi.1, by omega, by omega⟩]; exact hv, hr⟩
   · rw [if_neg hi] at he
     rw [if_neg (fun h => hi ⟨h.1, by omega⟩)]
     exact a5 i e he
 · have hlt : off + j < arr.size := by omega
   simp [World.cell?, h2, hlt]
 · simp [World.frozen?, h2]
theorem storeE_spec (hT : TabOk P tab) {fl : Nat} {t : TypeId} {v y : EV} {h : Tr EO} {nx : Nat} {k : Tr EO → β} {σ : Sg} {w : World} {v' y' : Value} (hg : G (storeE tab fail fl t v y h k)) (hv : VR σ v v') (hy : VR σ y y') (H : Holds σ h w) (F : Fresh σ nx) :
 ∃ h' w', (Instr.storeAt t v' y').run P w = .ok () w' ∧ Post fl σ h nx w σ h' nx w' ∧ G (k h') := by
 unfold storeE at hg
 split at hg
 · rename_i b off
   split at hg
   · rename_i c m z hb
     cases hi : tab.ty.get t with
     | none => simp only [hi] at hg; exact absurd hg hf
     | some i =>
      simp only [hi] at hg
      cases hq : (Nat.beq i.size y.cells.len && Nat.ble (Nat.add off i.size) m && y.cells.flat) with
      | false => simp only [hq] at hg; exact absurd hg hf
      | true =>
       simp only [hq, cond_true] at hg
       rw [Bool.and_eq_true, Bool.and_eq_true] at hq
       have q1 : i.size = y.cells.len := Nat.eq_of_beq_eq_true hq.1.1
       have q2 : off + i.size ≤ m := Nat.le_of_ble_eq_true hq.1.2
       obtain ⟨c', hc, hg⟩ := writeCells_spec hf _ _ _ _ hg
       obtain ⟨hfl, h', hp, hg⟩ := setB_spec hf hg
       have hyc := hy.cells
       have hlen := (VRs.iff.1 hyc).1
       rw [EVs.len_toL, hlen] at q1
       obtain ⟨l, l1, l2, l3, l4⟩ := Post.mk_write (fl := fl) (nx := nx) H F hfl hb hc hp hyc (by omega)
       simp only [VR] at hv
       obtain ⟨l', e1, rfl⟩ := hv
       rw [l1] at e1; cases e1
       refine ⟨h', _, ?_, l2, hg⟩
       have hsz : y'.cells.size = i.size := by rw [q1]; simp
       have hst := run_storeCells_cells (P := P) l.blk off y'.cells.toList 0 w (by simpa using l3) (by simpa using l4) (hyc.flat hq.2)
       simp only [Nat.add_zero] at hst
       simp only [Instr.storeAt, Sem.run_bind, Instr.sureAddr, Sem.run_pure, Result.andThen_ok, storeVar, (hT.ty t i hi).run_size, hsz, ne_eq, not_true_eq_false, if_false, hst]
   · exact absurd hg hf
 · exact absurd hg hf
end
end Go.Proofs.YtendekbckfpmgaaGreat
namespace Go.Proofs.YtendekbckfpmgaaGreat
open Go Go.RowKit
theorem ER.at_ {σ : Sg} : ∀ {l : List (EV × EV × Nat)} {m : List MapEntry} {i : Nat} {a v : EV} {b : Nat}, ER σ l m → l[i]? = some (a, v, b) → ∃ e, m[i]? = some e ∧ VR σ a e.key ∧ VR σ v e.val ∧ e.born = b
 | [], _, i, _, _, _, _, h => by simp at h
 | (x1, x2, x3) :: l, m, i, a, v, b, ⟨e, es', he, q1, q2, q3, q4⟩, h => by
  subst he
  cases i with
  | zero => simp at h; obtain ⟨rfl, rfl, rfl⟩ := h; exact ⟨e, rfl, q1, q2, q3⟩
  | succ i => simpa using ER.at_ q4 (by simpa using h)
theorem ER.set {σ : Sg} : ∀ {l : List (EV × EV × Nat)} {m : List MapEntry} (i : Nat) {a v : EV} {b : Nat} {e : MapEntry}, ER σ l m → VR σ a e.key → VR σ v e.val → e.born = b → ER σ (l.set i (a, v, b)) (m.set i e)
 | [], m, i, a, v, b, e, h, _, _, _ => by simp only [ER] at h; subst h; simp [ER]
 | (x1, x2, x3) :: l, m, i, a, v, b, e, ⟨e', es', he, q1, q2, q3, q4⟩, h1, h2, h3 => by
  subst he
  cases i with
  | zero => exact ⟨e, es', rfl, h1, h2, h3, q4⟩
  | succ i => exact ⟨e', es'.set i e, rfl, q1, q2, q3, ER.set i q4 h1 h2 h3⟩
theorem ER.snoc {σ : Sg} : ∀ {l : List (EV × EV × Nat)} {m : List MapEntry} {a v : EV} {b : Nat} {e : MapEntry}, ER σ l m → VR σ a e.key → VR σ v e.val → e.born = b → ER σ (l ++ [(a, v, b)]) (m ++ [e])
 | [], m, a, v, b, e, h, h1, h2, h3 => by simp only [ER] at h; subst h; exact ⟨e, [], rfl, h1, h2, h3, rfl⟩
 | (x1, x2, x3) :: l, m, a, v, b, e, ⟨e', es', he, q1, q2, q3, q4⟩, h1, h2, h3 => by
  subst he
  exact ⟨e', es' ++ [e], rfl, q1, q2, q3, ER.snoc q4 h1 h2 h3⟩
theorem ER.erase {σ : Sg} : ∀ {l : List (EV × EV × Nat)} {m : List MapEntry} (i : Nat), ER σ l m → ER σ (l.eraseIdx i) (m.eraseIdx i)
 | [], m, i, h => by simp only [ER] at h; subst h; simp [ER]
 | (x1, x2, x3) :: l, m, i, ⟨e', es', he, q1, q2, q3, q4⟩ => by
  subst he
  cases i with
  | zero => exact q4
  | succ i => exact ⟨e', es'.eraseIdx i, rfl, q1, q2, q3, ER.erase i q4⟩
theorem keyT_und {P : Program} {tab : Tab} (hT : TabOk P tab) {kt : TypeId} {key : EV} (hkt : keyT tab 20 kt key = true) : ∃ d, P.underlying kt = some d := by
 unfold keyT at hkt
 cases hi : tab.ty.get kt with
 | none => rw [hi] at hkt; cases hkt
 | some i => exact ⟨_, (hT.ty kt i hi).und⟩
section
variable {P : Program} {tab : Tab} {β : Type} {fail : β} {G : β → Prop} (hf : ¬ G fail)
include hf
omit hf in
theorem Post.mk_map {fl : Nat} {σ : Sg} {h h' : Tr EO} {nx : Nat} {w w' : World} {b : Nat} {l l' : List (EV × EV × Nat)} {clock clock' : Nat} {ms : Array MapEntry} {lc : Loc} (H : Holds σ h w) (F : Fresh σ nx) (hfl : fl ≤ b) (hb : h.get b = some (.map l clock)) (hl : σ b = some lc)
 (hp : ∀ j, h'.get j = if j = b then some (.map l' clock') else h.get j) (he : ER σ l' ms.toList) (hheap : w'.heap = w.heap.setIfInBounds lc.blk (.map ms clock')) (hos : w'.os = w.os) (htape : w'.tape = w.tape) (hout : w'.output = w.output) : Post fl σ h nx w σ h' nx w' := by
 have hlt := H.lt (by rw [hb]; rfl) hl
 exact Post.mk_set H F hfl (by rw [hb]; rfl) hl hp (by rw [hheap]; simp [hlt]) (fun k hk => by rw [hheap, Array.getElem?_setIfInBounds, if_neg (fun e => hk e.symm)]) (by rw [hheap]; simp) hos htape hout ⟨ms, rfl, he⟩
omit hf in
theorem run_keyThatStays (old new : Value) (w : World) : ∃ k w', (Instr.keyThatStays old new).run P w = .ok k w' ∧ (k = new ∨ k = old) ∧ w'.heap = w.heap ∧ w'.os = w.os ∧ w'.tape = w.tape ∧ w'.output = w.output := by
 unfold Instr.keyThatStays
 split
 · exact ⟨new, w, rfl, .inl rfl, rfl, rfl, rfl, rfl⟩
 · simp only [Sem.run_bind, choose, Sem.run, Question.forced]
   simp only [show (decide (2 = 1)) = false from rfl, Bool.false_eq_true, if_false, Result.andThen_ok, Sem.run_pure]
   refine ⟨_, _, rfl, ?_, rfl, rfl, rfl, rfl⟩
   split
   · exact .inl rfl
   · exact .inr rfl
theorem mapUpdateE_spec (hT : TabOk P tab) {fl : Nat} {t : TypeId} {m key y : EV} {h : Tr EO} {nx : Nat} {k : Tr EO → β} {σ : Sg} {w : World} {m' key' y' : Value} (hg : G (mapUpdateE tab fail fl t m key y h k))
 (hm : VR σ m m') (hk : VR σ key key') (hy : VR σ y y') (H : Holds σ h w) (F : Fresh σ nx) : ∃ h' w', (Instr.mapUpdate t m' key' y').run P w = .ok () w' ∧ Post fl σ h nx w σ h' nx w' ∧ G (k h') := by
 unfold mapUpdateE at hg
 split at hg
 · rename_i b
   obtain ⟨kt, et, ei, hu, hty, hg⟩ := mapT_spec hf hT hg
   cases hkt : keyT tab 20 kt key with
   | false => simp only [hkt] at hg; exact absurd hg hf
   | true =>
    simp only [hkt, cond_true] at hg
    split at hg
    · rename_i l clock hb
      cases hue : updE tab kt key y clock l with
      | none => simp only [hue] at hg; exact absurd hg hf
      | some p =>
       obtain ⟨l', clock'⟩ := p
       simp only [hue] at hg
       obtain ⟨hfl, h', hp, hg2⟩ := setB_spec hf hg
       obtain ⟨lc, ob, h1, h2, ms, rfl, h4⟩ := H.there b _ hb
       simp only [VR] at hm
       obtain ⟨lc', h5, rfl⟩ := hm
       rw [h1] at h5; cases h5
       obtain ⟨d, hd⟩ := keyT_und hT hkt
       have hck : (Instr.checkKey false 10000 kt key').run P w = .ok () w := keyT_spec hT 20 kt key hkt false σ 10000 key' w (by omega) hk
       have hgo : (getObj lc.blk).run P w = .ok (.map ms clock) w := by simp [getObj, Sem.run, h2]
       have hso : ∀ (w1 : World) (o : Obj), w1.heap = w.heap → (setObj lc.blk o).run P w1 = .ok () { w1 with heap := w1.heap.setIfInBounds lc.blk o } := fun w1 o hw1 => by
        simp [setObj, Sem.run, hw1, h2]
       rcases updE_pos hue with ⟨hpos, rfl, rfl⟩ | ⟨i, v, bn, hpos, hli, rfl, rfl⟩
       · have hfk := findKey_spec hT hd hk w hpos h4
         simp only [keyAt, Option.bind_none] at hfk
         refine ⟨h', { w with heap := w.heap.setIfInBounds lc.blk (.map (ms.push { key := key', val := y', born := clock }) (clock + 1)) }, ?_, ?_, hg2⟩
         · simp only [Instr.mapUpdate, Sem.run_bind, run_underlying hu, Result.andThen_ok, hgo, hck, hfk]
           rw [hso w _ rfl]
         · refine Post.mk_map (ms := ms.push { key := key', val := y', born := clock }) H F hfl hb h1 hp ?_ rfl rfl rfl rfl
           rw [Array.toList_push]
           exact h4.snoc hk hy rfl
       · have hfk := findKey_spec hT hd hk w hpos h4
         obtain ⟨e, he, q1, q2, q3⟩ := h4.at_ hli
         simp only [keyAt, Option.bind_some, he, Option.map_some] at hfk
         rw [Array.getElem?_toList] at he
         obtain ⟨k', w1, r1, r2, r3, r4, r5, r6⟩ := run_keyThatStays (P := P) e.key key' w
         refine ⟨h', { w1 with heap := w1.heap.setIfInBounds lc.blk (.map (ms.modify i fun e => { e with key := k', val := y' }) clock') }, ?_, ?_, hg2⟩
         · simp only [Instr.mapUpdate, Sem.run_bind, run_underlying hu, Result.andThen_ok, hgo, hck, hfk, he, Option.map_some, Option.getD_some, r1]
           rw [hso w1 _ r3]
         · refine Post.mk_map (ms := ms.modify i fun e => { e with key := k', val := y' }) H F hfl hb h1 hp ?_ (by rw [r3]) r4 r5 r6
           have hmod : (ms.modify i fun e => { e with key := k', val := y' }).toList = ms.toList.set i { e with key := k', val := y' } := by
            apply List.ext_getElem?
            intro j
            have hlt : i < ms.size := (Array.getElem?_eq_some_iff.1 he).1
            rw [Array.getElem?_toList, Array.getElem?_modify, List.getElem?_set]
            by_cases e2 : i = j
            · subst e2
              rw [if_pos rfl, if_pos rfl, he, if_pos (by simpa using hlt)]
              rfl
            · rw [if_neg e2, if_neg e2, Array.getElem?_toList]
           rw [hmod]
           refine h4.set i ?_ hy q3
           rcases r2 with rfl | rfl
           · exact hk
           · exact q1
    · exact absurd hg hf
 · exact absurd hg hf
theorem deleteE_spec (hT : TabOk P tab) {fl : Nat} {t ty : TypeId} {m key : EV} {h : Tr EO} {nx : Nat} {k : Tr EO → β} {σ : Sg} {w : World} {m' key' : Value} {ts : Array TypeId} (hts : ts[0]? = some t) (hg : G (deleteE tab fail fl t m key h k))
 (hm : VR σ m m') (hk : VR σ key key') (H : Holds σ h w) (F : Fresh σ nx) : ∃ h' w', (Builtin.delete_ ts ty #[m', key']).run P w = .ok (.tuple #[]) w' ∧ Post fl σ h nx w σ h' nx w' ∧ G (k h') := by
 unfold deleteE at hg
 split at hg
 · rename_i b
   obtain ⟨kt, et, ei, hu, hty, hg⟩ := mapT_spec hf hT hg
   cases hkt : keyT tab 20 kt key with
   | false => simp only [hkt] at hg; exact absurd hg hf
   | true =>
    simp only [hkt, cond_true] at hg
    split at hg
    · rename_i l clock hb
      cases hue : delE tab kt key l with
      | none => simp only [hue] at hg; exact absurd hg hf
      | some l' =>
       simp only [hue] at hg
       obtain ⟨hfl, h', hp, hg2⟩ := setB_spec hf hg
       obtain ⟨lc, ob, h1, h2, ms, rfl, h4⟩ := H.there b _ hb
       simp only [VR] at hm
       obtain ⟨lc', h5, rfl⟩ := hm
       rw [h1] at h5; cases h5
       obtain ⟨d, hd⟩ := keyT_und hT hkt
       have hck : ∀ em, (Instr.checkKey em 10000 kt key').run P w = .ok () w := fun em => keyT_spec hT 20 kt key hkt em σ 10000 key' w (by omega) hk
       have hgo : (getObj lc.blk).run P w = .ok (.map ms clock) w := by simp [getObj, Sem.run, h2]
       have hso : ∀ (o : Obj), (setObj lc.blk o).run P w = .ok () { w with heap := w.heap.setIfInBounds lc.blk o } := fun o => by
        simp [setObj, Sem.run, h2]
       rcases delE_pos hue with ⟨hpos, rfl⟩ | ⟨i, hpos, hlt, rfl⟩
       · have hfk := findKey_spec hT hd hk w hpos h4
         simp only [keyAt, Option.bind_none] at hfk
         refine ⟨h', { w with heap := w.heap.setIfInBounds lc.blk (.map ms clock) }, ?_, ?_, hg2⟩
         · simp only [Builtin.delete_, hts, List.getElem?_toArray, List.getElem?_cons_zero, List.getElem?_cons_succ, Sem.run_bind, run_underlying hu, Result.andThen_ok, hgo, hck, hfk]
           rw [hso]
           rfl
         · exact Post.mk_map (ms := ms) H F hfl hb h1 hp h4 rfl rfl rfl rfl
       · have hfk := findKey_spec hT hd hk w hpos h4
         have hi : i < ms.toList.length := by rw [← h4.len]; exact hlt
         simp only [keyAt, Option.bind_some, List.getElem?_eq_getElem hi, Option.map_some] at hfk
         refine ⟨h', { w with heap := w.heap.setIfInBounds lc.blk (.map (ms.eraseIdxIfInBounds i) clock) }, ?_, ?_, hg2⟩
         · simp only [Builtin.delete_, hts, List.getElem?_toArray, List.getElem?_cons_zero, List.getElem?_cons_succ, Sem.run_bind, run_underlying hu, Result.andThen_ok, hgo, hck, hfk]
           rw [hso]
           rfl
         · refine Post.mk_map (ms := ms.eraseIdxIfInBounds i) H F hfl hb h1 hp ?_ rfl rfl rfl rfl
           have : (ms.eraseIdxIfInBounds i).toList = ms.toList.eraseIdx i := by
            rw [Array.toList_eraseIdxIfInBounds]
           rw [this]
           exact h4.erase i
    · exact absurd hg hf
 · exact absurd hg hf
end
end Go.Proofs.YtendekbckfpmgaaGreat
namespace Go.Proofs.YtendekbckfpmgaaGreat
open Go Go.RowKit
theorem Post.mk_move {fl : Nat} {σ : Sg} {h h' : Tr EO} {nx : Nat} {w w' : World} {o : EO} {ob : Obj} {b : Nat} {l : Loc} (H : Holds σ h w) (F : Fresh σ nx) (hfl : fl ≤ b) (hfn : fl ≤ nx) (hb : (h.get b).isSome) (hl : σ b = some l)
 (hp : ∀ j, h'.get j = if j = nx then some o else if j = b then none else h.get j) (hget : w'.heap[l.blk]? = some ob) (hoth : ∀ k, k ≠ l.blk → w'.heap[k]? = w.heap[k]?) (hsize : w'.heap.size = w.heap.size)
 (hos : w'.os = w.os) (htape : w'.tape = w.tape) (hout : w'.output = w.output) (hob : OR (upd σ nx l) l o ob) : Post fl σ h nx w (upd σ nx l) h' (Nat.succ nx) w' := by
 have hle : Le σ (upd σ nx l) := Le.upd (F nx (Nat.le_refl _)) _
 have hbn : b ≠ nx := fun e => by rw [e, F nx (Nat.le_refl _)] at hl; cases hl
 have hs : ∀ id, id ≠ nx → (h'.get id).isSome → (h.get id).isSome ∧ id ≠ b := fun id hn hs => by
  rw [hp, if_neg hn] at hs
  by_cases e : id = b
  · rw [if_pos e] at hs; cases hs
  · rw [if_neg e] at hs; exact ⟨hs, e⟩
 refine ⟨hle, fun id hi => upd_other _ _ (by omega), Nat.le_succ _, fun id hi => ?_, fun id hi => ?_, ⟨fun id o' ho' => ?_, fun i j li lj hi hj ei ej hq => ?_⟩, fun id hi => ?_, by rw [hsize]; exact Nat.le_refl _, fun k hk hne => hoth _ (fun e => hne b l hb hl e.symm), fun id l' hi he => ?_, hos, htape, hout⟩
 · rw [upd_other _ _ (by omega)]; exact F id (by omega)
 · by_cases e : id = nx
   · exact .inr (by omega)
   · exact .inl (hs id e hi).1
 · rw [hp] at ho'
   by_cases e : id = nx
   · rw [if_pos e] at ho'; cases ho'; subst e
     exact ⟨l, ob, upd_same _ _ _, hget, hob⟩
   · rw [if_neg e] at ho'
     by_cases e2 : id = b
     · rw [if_pos e2] at ho'; cases ho'
     · rw [if_neg e2] at ho'
       obtain ⟨l', ob', e1, e3, e4⟩ := H.there id o' ho'
       refine ⟨l', ob', hle _ _ e1, ?_, e4.mono hle⟩
       rw [hoth _ (fun hq => e2 (H.inj id b l' l (by rw [ho']; rfl) hb e1 hl hq))]
       exact e3
 · by_cases e : i = nx <;> by_cases e' : j = nx
   · rw [e, e']
   · rw [e, upd_same] at ei; cases ei
     rw [upd_other _ _ e'] at ej
     obtain ⟨h1, h2⟩ := hs j e' hj
     exact absurd (H.inj j b lj l h1 hb ej hl hq.symm) h2
   · rw [e', upd_same] at ej; cases ej
     rw [upd_other _ _ e] at ei
     obtain ⟨h1, h2⟩ := hs i e hi
     exact absurd (H.inj i b li l h1 hb ei hl hq) h2
   · rw [upd_other _ _ e] at ei; rw [upd_other _ _ e'] at ej
     exact H.inj i j li lj (hs i e hi).1 (hs j e' hj).1 ei ej hq
 · rw [hp, if_neg (by omega), if_neg (by omega)]
 · by_cases e : id = nx
   · rw [e, upd_same] at he; cases he; exact .inr ⟨b, l, hb, hl, rfl⟩
   · rw [upd_other _ _ e] at he
     exact .inr ⟨id, l', (hs id e hi).1, he, rfl⟩
theorem Post.mk_kill {fl : Nat} {σ : Sg} {h h' : Tr EO} {nx : Nat} {w : World} {b : Nat} (H : Holds σ h w) (F : Fresh σ nx) (hfl : fl ≤ b) (hp : ∀ j, h'.get j = if j = b then none else h.get j) : Post fl σ h nx w σ h' nx w := by
 have hs : ∀ id, (h'.get id).isSome → (h.get id).isSome := fun id hs => by
  rw [hp] at hs
  by_cases e : id = b
  · rw [if_pos e] at hs; cases hs
  · rw [if_neg e] at hs; exact hs
 refine ⟨Le.refl _, fun _ _ => rfl, Nat.le_refl _, F, fun id hi => .inl (hs id hi), ⟨fun id o' ho' => ?_, fun i j li lj hi hj ei ej hq => H.inj i j li lj (hs i hi) (hs j hj) ei ej hq⟩, fun id hi => ?_, Nat.le_refl _, fun _ _ _ => rfl, fun id l' hi he => .inr ⟨id, l', hs id hi, he, rfl⟩, rfl, rfl, rfl⟩
 · rw [hp] at ho'
   by_cases e : id = b
   · rw [if_pos e] at ho'; cases ho'
   · rw [if_neg e] at ho'; exact H.there id o' ho'
 · rw [hp, if_neg (by omega)]
section
variable {P : Program} {tab : Tab} {β : Type} {fail : β} {G : β → Prop} (hf : ¬ G fail)
include hf
theorem srcE_spec {sz : Nat} {x : EV} {h : Tr EO} {k : Nat → EVs → β} {σ : Sg} {w : World} {x' : Value} (hg : G (srcE fail sz x h k)) (hx : VR σ x x') (H : Holds σ h w) :
 ∃ m new vs, G (k m new) ∧ VRs σ new vs ∧ vs.length = m * sz ∧ ((x' = .slice none 0 0 ∧ m = 0 ∧ vs = []) ∨ ∃ a c, x' = .slice (some a) m c ∧ ∀ j u, vs[j]? = some u → w.cell? (a.add j) = some u) := by
 unfold srcE at hg
 split at hg
 · simp only [VR] at hx
   exact ⟨0, .nil, [], hg, VRs.nil, by simp, .inl ⟨hx, rfl, rfl⟩⟩
 · rename_i b off n cap
   obtain ⟨c, l, arr, t', fr, h1, h2, h3, hg2⟩ := rdB_spec hf hg H
   simp only [VR] at hx
   obtain ⟨l', e1, rfl, _⟩ := hx
   rw [h1] at e1; cases e1
   obtain ⟨es, a1, a2, hg3⟩ := readCells_spec hf _ _ _ hg2
   obtain ⟨vs, b1, b2, b3⟩ := cells_read h2 h3 (off := off) (es := es) (fun i hi => a2 i (by omega))
   exact ⟨n, es, vs, hg3, b1, by rw [b2, a1]; rfl, .inr ⟨_, _, rfl, b3⟩⟩
 · exact absurd hg hf
omit hf in
theorem run_lenOf (a : Option Addr) (n c : Nat) (w : World) : (Builtin.lenOf (.slice a n c)).run P w = .ok n w := by simp [Builtin.lenOf]
omit hf in
theorem run_append_nothing0 {t ty e : TypeId} {i : TypeInfo} {x : Value} {w : World} (ht : P.underlying t = some (.slice e)) (hi : P.info? e = some i) (hx1 : (Builtin.lenOf x).run P w = .ok 0 w) (hx2 : (Builtin.firstCells i.size 0 x).run P w = .ok #[] w) :
 (Builtin.append_ #[t, t] ty #[.slice none 0 0, x]).run P w = .ok (.slice none 0 0) w := by
 simp [Builtin.append_, run_underlying ht, sizeOf, typeInfo, hi, hx1, hx2]
omit hf in
theorem run_append_room_x {t ty e : TypeId} {i : TypeInfo} {x : Value} {w : World} {b off sLen sCap m : Nat} {news : List Value} (ht : P.underlying t = some (.slice e)) (hi : P.info? e = some i) (hx1 : (Builtin.lenOf x).run P w = .ok m w)
 (hx2 : (Builtin.firstCells i.size m x).run P w = .ok news.toArray w) (h1 : ∀ u ∈ news, u.oneCell' = true)
 (hroom : sLen + m ≤ sCap) (hc : ∀ j, j < news.length → (w.cell? ⟨b, off + sLen * i.size + j, none⟩).isSome = true) (hfz : ∀ j, j < news.length → w.frozen? ⟨b, off + sLen * i.size + j, none⟩ = false) :
 (Builtin.append_ #[t, t] ty #[.slice (some ⟨b, off, none⟩) sLen sCap, x]).run P w = .ok (.slice (some ⟨b, off, none⟩) (sLen + m) sCap) (w.setCells b (off + sLen * i.size) news) := by
 have hst := run_storeCells_cells (P := P) b (off + sLen * i.size) news 0 w (by simpa using hc) (by simpa using hfz) h1
 simp only [Nat.add_zero] at hst
 simp [Builtin.append_, run_underlying ht, sizeOf, typeInfo, hi, hx1, hx2, hroom, Addr.add_lit, hst]
omit hf in
theorem src_runs {x' : Value} {m sz : Nat} {vs : List Value} {w : World} (hl : vs.length = m * sz) (h : (x' = .slice none 0 0 ∧ m = 0 ∧ vs = []) ∨ ∃ a c, x' = .slice (some a) m c ∧ ∀ j u, vs[j]? = some u → w.cell? (a.add j) = some u) :
 (Builtin.lenOf x').run P w = .ok m w ∧ (Builtin.firstCells sz m x').run P w = .ok vs.toArray w := by
 rcases h with ⟨rfl, rfl, rfl⟩ | ⟨a, c, rfl, hc⟩
 · exact ⟨run_lenOf _ _ _ _, by simp [Builtin.firstCells]⟩
 · exact ⟨run_lenOf _ _ _ _, run_firstCells_some w sz m a m c vs hl hc⟩
omit hf in
theorem VRs.take_all {σ : Sg} {l : EVs} {vs rest : List Value} (h : VRs σ l vs) : VRs σ l ((vs ++ rest).take l.toL.length) := by
 rw [(VRs.iff.1 h).1, List.take_left]; exact h
theorem appendE_spec (hT : TabOk P tab) {fl : Nat} {t ty : TypeId} {s x : EV} {h : Tr EO} {nx : Nat} {k : EV → Tr EO → Nat → β} {σ : Sg} {w : World} {s' x' : Value} (hg : G (appendE tab fail fl t s x h nx k))
 (hs : VR σ s s') (hx : VR σ x x') (H : Holds σ h w) (F : Fresh σ nx) (hfl : fl ≤ nx) :
 ∃ e h' nx' σ' e' w', (Builtin.append_ #[t, t] ty #[s', x']).run P w = .ok e' w' ∧ VR σ' e e' ∧ Post fl σ h nx w σ' h' nx' w' ∧ G (k e h' nx') := by
 unfold appendE at hg
 obtain ⟨e, ei, hu, _, hty, hg⟩ := elemE_spec hf hT hg
 obtain ⟨m, new, vs, hg, hn1, hn2, hsrc⟩ := srcE_spec hf hg hx H
 obtain ⟨i, z, i1, i2, i3, i4, i5, i6, i7⟩ := hty.info
 cases hq : (new.flat && Nat.ble 1 ei.size) with
 | false => simp only [hq] at hg; exact absurd hg hf
 | true =>
  simp only [hq, cond_true] at hg
  rw [Bool.and_eq_true] at hq
  have hflat := hn1.flat hq.1
  have hsz : 1 ≤ ei.size := Nat.le_of_ble_eq_true hq.2
  obtain ⟨x1, x2⟩ := src_runs (P := P) hn2 hsrc
  have hnl : new.toL.length = m * ei.size := by rw [(VRs.iff.1 hn1).1, hn2]
  -- a new row
  have grow : ∀ (l : EVs) (vs' : List Value) (need sCap : Nat) (h1 : Tr EO), Holds σ h1 w → VRs σ l vs' → vs'.length = need * ei.size →
   G (newCells fail h1 nx l ei.size fun h nx' => k (.slice nx 0 need none) h nx') →
   ∃ h', G (k (.slice nx 0 need none) h' (Nat.succ nx)) ∧
    VR (upd σ nx ⟨w.heap.size, grownCap w need sCap e * ei.size, ei.size⟩) (.slice nx 0 need none) (.slice (some ⟨w.heap.size, 0, none⟩) need (grownCap w need sCap e)) ∧
    Post fl σ h1 nx w (upd σ nx ⟨w.heap.size, grownCap w need sCap e * ei.size, ei.size⟩) h' (Nat.succ nx) (w.drew.alloc (.cells (vs'.toArray ++ Builtin.zeroCells z.cells (grownCap w need sCap e - need)) e)) := by
   intro l vs' need sCap h1 H1 hl hlen hg
   obtain ⟨h', hg2, hp⟩ := newCells_spec hf hg H1 F hfl
   have hge := grownCap_ge w need sCap e
   have hasz : (vs'.toArray ++ Builtin.zeroCells z.cells (grownCap w need sCap e - need)).size = grownCap w need sCap e * ei.size := by
    simp only [Array.size_append, List.size_toArray, size_zeroCells, i5, hlen, ← Nat.add_mul]
    congr 1; omega
   have := hp (w.drew.alloc (.cells (vs'.toArray ++ Builtin.zeroCells z.cells (grownCap w need sCap e - need)) e)) _ e ei.size (by
    simp only [Array.toList_append]
    exact hl.take_all) (by omega) (fun _ => rfl) rfl rfl rfl rfl
   rw [hasz] at this
   refine ⟨h', hg2, ?_, this⟩
   simp only [VR, Option.getD_none]
   refine ⟨_, upd_same _ _ _, ?_, ?_⟩
   · simp only [Nat.sub_zero]; rw [Nat.mul_div_cancel _ hsz]
   · simp only [Nat.sub_zero]; rw [Nat.mul_div_cancel _ hsz]; exact hge
  cases s with
  | slice0 =>
   simp only [VR] at hs
   subst hs
   cases m with
   | zero =>
    have hv0 : vs = [] := List.eq_nil_of_length_eq_zero (by simpa using hn2)
    subst hv0
    exact ⟨_, _, _, σ, .slice none 0 0, w, run_append_nothing0 hu i1 x1 (by rw [i2]; exact x2), by simp only [VR], Post.refl H F, hg⟩
   | succ m =>
    simp only at hg
    cases hq2 : (Nat.ble (Nat.mul (m + 1) ei.bytes) 140737488355328 && Nat.ble (m + 1) 4611686018427387904) with
    | false => simp only [hq2] at hg; exact absurd hg hf
    | true =>
     simp only [hq2, cond_true] at hg
     rw [Bool.and_eq_true] at hq2
     have b1 : (m + 1) * ei.bytes ≤ 140737488355328 := Nat.le_of_ble_eq_true hq2.1
     have b2 : m + 1 ≤ 4611686018427387904 := Nat.le_of_ble_eq_true hq2.2
     obtain ⟨h', g1, g2, g3⟩ := grow new vs (m + 1) 0 h H hn1 hn2 hg
     rcases hsrc with ⟨_, h0, _⟩ | ⟨a, c, rfl, hc⟩
     · omega
     · have hr := run_append_nil (P := P) w t ty e i z hu i1 i4 a (m + 1) c vs (by rw [i2]; exact hn2) hc (by omega) (by omega) (by rw [i3]; omega)
       exact ⟨_, h', _, _, _, _, hr, g2, g3, g1⟩
  | slice b off n cap =>
   simp only [VR] at hs
   obtain ⟨l, hl, rfl, hlen⟩ := hs
   simp only at hg
   split at hg
   · rename_i c tot ex hb
     obtain ⟨l', ob, e1, e2, arr, t', rfl, a1, a2, a3, a4, a5⟩ := H.there b _ hb
     rw [hl] at e1; cases e1
     have fits : n + m ≤ cap.getD ((l.tot - off) / l.esz) → off + (n + m) * ei.size ≤ tot →
      G (writeCells fail new c (Nat.add off (Nat.mul n ei.size)) fun c => setB fail fl h b (some (.cells c tot ex)) fun h => k (.slice b off (Nat.add n m) cap) h nx) →
      ∃ e h' nx' σ' e' w', (Builtin.append_ #[t, t] ty #[.slice (some ⟨l.blk, off, none⟩) n (cap.getD ((l.tot - off) / l.esz)), x']).run P w = .ok e' w' ∧ VR σ' e e' ∧ Post fl σ h nx w σ' h' nx' w' ∧ G (k e h' nx') := by
      intro f1 f2 hg
      obtain ⟨c', hc, hg⟩ := writeCells_spec hf _ _ _ _ hg
      obtain ⟨hflb, h', hp, hg2⟩ := setB_spec hf hg
      obtain ⟨l', l1, l2, l3, l4⟩ := Post.mk_write (fl := fl) (nx := nx) (off := off + n * ei.size) H F hflb hb hc hp hn1 (by rw [hn2]; rw [Nat.add_mul] at f2; omega)
      rw [hl] at l1; cases l1
      refine ⟨_, h', _, σ, .slice (some ⟨l.blk, off, none⟩) (n + m) (cap.getD ((l.tot - off) / l.esz)), _, ?_, ?_, l2, hg2⟩
      · have := run_append_room_x (ty := ty) (sCap := cap.getD ((l.tot - off) / l.esz)) (b := l.blk) (off := off) (sLen := n) hu i1 x1 (by rw [i2]; exact x2) hflat f1 (by rw [i2]; exact l3) (by rw [i2]; exact l4)
        rw [i2] at this
        exact this
      · simp only [VR]; exact ⟨l, hl, rfl, f1⟩
     have bounds : ∀ (X : β), G (bif Nat.ble (Nat.mul (Nat.add n m) ei.bytes) 140737488355328 && Nat.ble (Nat.add n m) 4611686018427387904 then X else fail) →
      G X ∧ (n + m) * ei.bytes ≤ 140737488355328 ∧ n + m ≤ 4611686018427387904 := by
      intro X hg
      cases hq2 : (Nat.ble (Nat.mul (Nat.add n m) ei.bytes) 140737488355328 && Nat.ble (Nat.add n m) 4611686018427387904) with
      | false => rw [hq2] at hg; exact absurd hg hf
      | true =>
       rw [hq2] at hg
       rw [Bool.and_eq_true] at hq2
       exact ⟨hg, Nat.le_of_ble_eq_true hq2.1, Nat.le_of_ble_eq_true hq2.2⟩
     -- the cells that are there already
     have olds : ∀ (old : EVs), old.toL.length = n * ei.size → (∀ i, i < n * ei.size → c.get (off + i) = old.toL[i]?) → ∃ us : List Value, VRs σ old us ∧ us.length = n * ei.size ∧ (∀ j u, us[j]? = some u → w.cell? ((⟨l.blk, off, none⟩ : Addr).add j) = some u) := by
      intro old o1 o2
      obtain ⟨us, u1, u2, u3⟩ := cells_read e2 a5 (off := off) (es := old) (fun i hi => o2 i (by omega))
      exact ⟨us, u1, by rw [u2, o1], u3⟩
     have rungrow : ∀ (us : List Value) (sCap : Nat), us.length = n * ei.size → (∀ j u, us[j]? = some u → w.cell? ((⟨l.blk, off, none⟩ : Addr).add j) = some u) → n ≤ sCap → sCap < n + m → (n + m) * ei.bytes ≤ 140737488355328 → n + m ≤ 4611686018427387904 →
      (Builtin.append_ #[t, t] ty #[.slice (some ⟨l.blk, off, none⟩) n sCap, x']).run P w = .ok (.slice (some ⟨w.heap.size, 0, none⟩) (n + m) (grownCap w (n + m) sCap e)) (w.drew.alloc (.cells ((us ++ vs).toArray ++ Builtin.zeroCells z.cells (grownCap w (n + m) sCap e - (n + m))) e)) := by
      intro us sCap u1 u2 q1 q2 b1 b2
      rcases hsrc with ⟨_, h0, _⟩ | ⟨a, cc, rfl, hc⟩
      · omega
      · have hr := run_append_grow (P := P) w t ty e i z hu i1 i4 ⟨l.blk, off, none⟩ n sCap us (by rw [i2]; exact u1) u2 a m cc vs (by rw [i2]; exact hn2) hc q2 (by omega) (by rw [i3]; exact growslice_fits q2 b1)
        rw [hr]
        simp
     cases cap with
     | some q =>
      simp only [Option.getD_some] at hg hlen fits ⊢
      cases hq3 : (Nat.ble (Nat.add n m) q && Nat.ble (Nat.add off (Nat.mul (Nat.add n m) ei.size)) tot) with
      | true =>
       rw [hq3] at hg
       rw [Bool.and_eq_true] at hq3
       exact fits (Nat.le_of_ble_eq_true hq3.1) (Nat.le_of_ble_eq_true hq3.2) hg
      | false =>
       rw [hq3] at hg
       obtain ⟨hg, b1, b2⟩ := bounds _ hg
       cases hq4 : Nat.ble (Nat.succ q) (Nat.add n m) with
       | false => rw [hq4] at hg; exact absurd hg hf
       | true =>
        rw [hq4] at hg
        have q2 : q < n + m := Nat.le_of_ble_eq_true hq4
        obtain ⟨old, o1, o2, hg2⟩ := readCells_spec hf _ _ _ hg
        obtain ⟨us, u1, u2, u3⟩ := olds old o1 o2
        obtain ⟨h', g1, g2, g3⟩ := grow (old.app new) (us ++ vs) (n + m) q h H (u1.app hn1) (by rw [List.length_append, u2, hn2, Nat.add_mul]) hg2
        exact ⟨_, h', _, _, _, _, rungrow us q u2 u3 hlen q2 b1 b2, g2, g3, g1⟩
     | none =>
      simp only [Option.getD_none] at hg hlen fits ⊢
      cases hq3 : (Nat.beq ex ei.size && Nat.ble (Nat.add off (Nat.mul (Nat.add n m) ei.size)) tot) with
      | true =>
       rw [hq3] at hg
       rw [Bool.and_eq_true] at hq3
       have hex : ex = ei.size := Nat.eq_of_beq_eq_true hq3.1
       have hin : off + (n + m) * ei.size ≤ tot := Nat.le_of_ble_eq_true hq3.2
       refine fits ?_ hin hg
       rw [a4 (by omega), hex, Nat.le_div_iff_mul_le (by omega)]
       omega
      | false =>
       rw [hq3] at hg
       obtain ⟨hg, b1, b2⟩ := bounds _ hg
       cases hq4 : (Nat.beq (Nat.add off (Nat.mul n ei.size)) tot && Nat.beq off 0 && Nat.beq ex ei.size) with
       | false => rw [hq4] at hg; exact absurd hg hf
       | true =>
        rw [hq4] at hg
        rw [Bool.and_eq_true, Bool.and_eq_true] at hq4
        have c1 : off + n * ei.size = tot := Nat.eq_of_beq_eq_true hq4.1.1
        have c2 : off = 0 := Nat.eq_of_beq_eq_true hq4.1.2
        have c3 : ex = ei.size := Nat.eq_of_beq_eq_true hq4.2
        subst c2
        have hesz : l.esz = ei.size := by rw [a4 (by omega), c3]
        obtain ⟨old, o1, o2, hg2⟩ := readCells_spec hf _ _ _ hg
        obtain ⟨us, u1, u2, u3⟩ := olds old o1 o2
        obtain ⟨hflb, h1, hp1, hg3⟩ := setB_spec hf hg2
        simp only [Nat.sub_zero] at hlen ⊢
        by_cases hroom : n + m ≤ l.tot / l.esz
        · -- there was room: the block is known by a new number
          unfold newCells newB at hg3
          obtain ⟨c2, hc2, hg4⟩ := writeCells_spec hf _ _ _ _ hg3
          obtain ⟨h2, hp2, hg5⟩ := Tr.put_spec hf _ _ _ _ hg4
          have hroom' : (n + m) * ei.size ≤ l.tot := by
           rw [hesz] at hroom
           exact (Nat.le_div_iff_mul_le (by omega)).1 hroom
          obtain ⟨arr', s1, s2, s3, s4, s5, s6, s7, s8⟩ := setCells_heap l.blk vs (0 + n * ei.size) w arr t' (0, 0) e2
          have hle : Le σ (upd σ nx l) := Le.upd (F nx (Nat.le_refl _)) _
          have happ : (old.app new).toL.length = (n + m) * ei.size := by rw [EVs.app_toL, List.length_append, o1, hnl, Nat.add_mul]; rfl
          refine ⟨_, h2, _, upd σ nx l, .slice (some ⟨l.blk, 0, none⟩) (n + m) (l.tot / l.esz), w.setCells l.blk (0 + n * ei.size) vs, ?_, ?_, ?_, hg5⟩
          · have := run_append_room_x (ty := ty) (sCap := l.tot / l.esz) (b := l.blk) (off := 0) (sLen := n) hu i1 x1 (by rw [i2]; exact x2) hflat hroom
             (by
              intro j hj
              rw [i2]
              have : 0 + n * ei.size + j < arr.size := by rw [a1]; rw [Nat.add_mul] at hroom'; omega
              simp [World.cell?, e2]; omega)
             (by intro j hj; simp [World.frozen?, e2])
            rw [i2] at this
            exact this
          · simp only [VR, Option.getD_none, Nat.sub_zero]
            exact ⟨l, upd_same _ _ _, rfl, hroom⟩
          · refine Post.mk_move (o := .cells c2 (old.app new).len ei.size) H F hflb hfl (by rw [hb]; rfl) hl (fun j => ?_) s1 s4 s5 s6 s7 s8 ⟨arr', t', rfl, by rw [s2, a1], by rw [EVs.len_toL, happ]; exact hroom', fun h0 => by omega, fun _ => hesz, fun i' e' he' => ?_⟩
            · rw [hp2, hp1]
            · rw [hc2] at he'
              simp only [Nat.zero_add, Nat.zero_le, true_and, Nat.sub_zero, Tr.get_nil] at he'
              split at he'
              · rename_i hi'
                rw [happ] at hi'
                rw [EVs.app_toL] at he'
                rw [s3, Nat.zero_add]
                rw [Nat.add_mul] at hi' hroom'
                by_cases hii : i' < n * ei.size
                · rw [List.getElem?_append_left (by rw [o1]; exact hii)] at he'
                  rw [if_neg (by omega)]
                  have := o2 i' hii
                  rw [he', Nat.zero_add] at this
                  obtain ⟨v, v1, v2⟩ := a5 i' e' this
                  exact ⟨v, v1, v2.mono hle⟩
                · rw [List.getElem?_append_right (by rw [o1]; exact Nat.le_of_not_lt hii), o1] at he'
                  obtain ⟨v, v1, v2⟩ := hn1.get he'
                  refine ⟨v, ?_, v2.mono hle⟩
                  rw [if_pos ⟨by omega, by omega, by omega⟩]
                  exact v1
              · cases he'
        · -- a new row
          have pk := Post.mk_kill (fl := fl) H F hflb hp1
          obtain ⟨h', g1, g2, g3⟩ := grow (old.app new) (us ++ vs) (n + m) (l.tot / l.esz) h1 pk.holds (u1.app hn1) (by rw [List.length_append, u2, hn2, Nat.add_mul]) hg3
          exact ⟨_, h', _, _, _, _, rungrow us (l.tot / l.esz) u2 u3 hlen (by omega) b1 b2, g2, pk.trans g3, g1⟩
   · exact absurd hg hf
  | _ => exact absurd hg hf
end
end Go.Proofs.YtendekbckfpmgaaGreat
namespace Go.Proofs.YtendekbckfpmgaaGreat
open Go Go.RowKit
theorem bytesE_VRs (σ : Sg) : ∀ s : List UInt8, VRs σ (bytesE s) (s.map fun b => Value.int .u8 b.toNat)
 | [] => by simp only [bytesE, VRs]; rfl
 | b :: s => VRs.cons (by simp only [VR]; rfl) (bytesE_VRs σ s)
theorem ofBytesE_spec {σ : Sg} : ∀ {l : EVs} {s : List UInt8} {vs : List Value}, ofBytesE l = some s → VRs σ l vs → vs = s.map fun b => Value.int .u8 b.toNat
 | .nil, s, vs, h, hv => by
  simp only [ofBytesE, Option.some.injEq] at h
  simp only [VRs] at hv
  subst h; subst hv; rfl
 | .cons e l, s, vs, h, hv => by
  simp only [VRs] at hv
  obtain ⟨u, m, rfl, h1, h2⟩ := hv
  unfold ofBytesE at h
  split at h
  · rename_i h0; cases h0
  · rename_i n l' heq
    cases heq
    cases hb : Nat.blt n 256 with
    | false => rw [hb] at h; cases h
    | true =>
     rw [hb] at h
     simp only [cond_true] at h
     cases hs : ofBytesE l with
     | none => rw [hs] at h; cases h
     | some s' =>
      rw [hs] at h
      simp only [Option.some.injEq] at h
      subst h
      have hn : n < 256 := by simpa [Nat.blt, Nat.succ_le_iff] using hb
      simp only [VR] at h1
      subst h1
      rw [List.map_cons, ← ofBytesE_spec hs h2]
      have : (UInt8.ofNat n).toNat = n := by simp; omega
      rw [this]; rfl
  · cases h
section
variable {P : Program} {tab : Tab} {β : Type} {fail : β} {G : β → Prop} (hf : ¬ G fail)
include hf
omit hf in
theorem descIs_spec (hT : TabOk P tab) {p : TypeDesc → Bool} {t : TypeId} (h : descIs tab p t = true) : ∃ d, P.underlying t = some d ∧ p d = true := by
 unfold descIs at h
 cases hi : tab.ty.get t with
 | none => rw [hi] at h; cases h
 | some i => rw [hi] at h; exact ⟨_, (hT.ty t i hi).und, h⟩
omit hf in
theorem isU8_spec {d : TypeDesc} (h : isU8 d = true) : d = .int .u8 := by
 unfold isU8 at h
 split at h
 · rfl
 · cases h
omit hf in
theorem isStr_spec {d : TypeDesc} (h : isStr d = true) : d = .string := by
 unfold isStr at h
 split at h
 · rfl
 · cases h
theorem toBytesE_spec (hT : TabOk P tab) {src dst : TypeId} {s : List UInt8} {h : Tr EO} {nx : Nat} {k : EV → Tr EO → Nat → β} {fl : Nat} {σ : Sg} {w : World} (hg : G (toBytesE tab fail src dst s h nx k)) (H : Holds σ h w) (F : Fresh σ nx) (hfl : fl ≤ nx) :
 ∃ e h' nx' σ' e' w', (convert src dst (.string ⟨s.toArray⟩)).run P w = .ok e' w' ∧ VR σ' e e' ∧ Post fl σ h nx w σ' h' nx' w' ∧ G (k e h' nx') := by
 unfold toBytesE at hg
 obtain ⟨e, ei, hu, _, hty, hg⟩ := elemE_spec hf hT hg
 cases hb : (descIs tab isU8 e && descIs tab isStr src) with
 | false => rw [hb] at hg; exact absurd hg hf
 | true =>
  rw [hb] at hg
  simp only [cond_true] at hg
  rw [Bool.and_eq_true] at hb
  obtain ⟨d1, u1, p1⟩ := descIs_spec hT hb.1
  obtain ⟨d2, u2, p2⟩ := descIs_spec hT hb.2
  rw [isU8_spec p1] at u1
  rw [isStr_spec p2] at u2
  obtain ⟨c, hc, hg⟩ := writeCells_spec hf _ _ _ _ hg
  simp only [newB] at hg
  obtain ⟨h', hp, hg⟩ := Tr.put_spec hf _ _ _ _ hg
  have hsz : (⟨s.toArray⟩ : ByteArray).size = s.length := by show s.toArray.size = _; simp
  have hrun := run_bytes_of_string (P := P) w src dst e ⟨s.toArray⟩ u2 hu u1
  have hge := grownCap_ge w s.length 0 e
  rw [hsz] at hrun
  have hrow : (bytesRow ⟨s.toArray⟩ (grownCap w s.length 0 e)).size = grownCap w s.length 0 e := by
   simp only [bytesRow, Array.size_append, Array.size_map, Array.size_replicate, hsz]
   simp; omega
  refine ⟨_, h', _, upd σ nx ⟨w.heap.size, grownCap w s.length 0 e, 1⟩, _, _, hrun, ?_, ?_, hg⟩
  · simp only [VR, Option.getD_none]
    exact ⟨_, upd_same _ _ _, by simp, by simp; exact hge⟩
  · refine Post.mk_new H F hfl hp rfl rfl rfl rfl ⟨_, e, _, rfl, hrow, fun _ => rfl, fun i ev he => ?_⟩
    rw [hc] at he
    split at he
    · rename_i hi
      simp only [Nat.sub_zero] at he
      obtain ⟨v, hv, hr⟩ := (bytesE_VRs (upd σ nx ⟨w.heap.size, grownCap w s.length 0 e, 1⟩) s).get he
      refine ⟨v, ?_, hr⟩
      have hi' : i < s.length := by simpa using (List.getElem?_eq_some_iff.1 hv).1
      unfold bytesRow
      rw [Array.getElem?_append_left (by simp; exact hi')]
      simpa using hv
    · simp [Tr.get_nil] at he
theorem markE_spec (hT : TabOk P tab) {fl : Nat} {src dst : TypeId} {v : EV} {h : Tr EO} {nx : Nat} {k : Tr EO → β} {σ : Sg} {w : World} {v' : Value} (hg : G (markE tab fail fl src dst v h k)) (hv : VR σ v v') (H : Holds σ h w) (F : Fresh σ nx) :
 ∃ h' w', (convert src dst v').run P w = .ok v' w' ∧ Post fl σ h nx w σ h' nx w' ∧ G (k h') := by
 unfold markE at hg
 obtain ⟨e, ei, hu, _, hty, hg⟩ := elemE_spec hf hT hg
 cases hb : (Nat.beq src dst && descIs tab isU8 e) with
 | false => rw [hb] at hg; exact absurd hg hf
 | true =>
  rw [hb] at hg
  simp only [cond_true] at hg
  rw [Bool.and_eq_true] at hb
  have hsd := Nat.eq_of_beq_eq_true hb.1
  rw [hsd]
  obtain ⟨d1, u1, p1⟩ := descIs_spec hT hb.2
  rw [isU8_spec p1] at u1
  split at hg
  · rename_i b off n cap hgx
    clear hgx
    split at hg
    · rename_i c m z hbk
      obtain ⟨hflb, h', hp, hg⟩ := setB_spec hf hg
      simp only [VR] at hv
      obtain ⟨l, hl, rfl, _⟩ := hv
      obtain ⟨l', ob, e1, e2, arr, t', rfl, a1, a2, a3, a4, a5⟩ := H.there b _ hbk
      rw [hl] at e1; cases e1
      have hsh : w.shape? l.blk = some (t', arr.size) := by simp [World.shape?, e2]
      refine ⟨h', w.freeze ⟨l.blk, arr.size, none⟩ 1, ?_, ?_, hg⟩
      · simp [convert, run_underlying hu, run_underlying u1, markStringish, hsh]
      · have hheap : (w.freeze ⟨l.blk, arr.size, none⟩ 1).heap = w.heap.modify l.blk (fun
         | .cells c elem (lo, hi) => .cells c elem (if lo == hi then (arr.size, arr.size + 1) else (min lo arr.size, max hi (arr.size + 1)))
         | o => o) := rfl
        refine Post.mk_set H F hflb (by rw [hbk]; rfl) hl hp (ob := .cells arr t' (arr.size, arr.size + 1)) ?_ (fun q hq => ?_) ?_ rfl rfl rfl ⟨arr, t', _, rfl, a1, a4, a5⟩
        · rw [hheap, Array.getElem?_modify, if_pos rfl, e2]; rfl
        · rw [hheap, Array.getElem?_modify, if_neg (fun e => hq e.symm)]
        · rw [hheap]; simp
    · exact absurd hg hf
  · exact absurd hg hf
theorem toStrE_spec (hT : TabOk P tab) {src dst : TypeId} {v : EV} {h : Tr EO} {k : EV → β} {σ : Sg} {w : World} {v' : Value} (hg : G (toStrE tab fail src dst v h k)) (hv : VR σ v v') (H : Holds σ h w) :
 ∃ e e', (convert src dst v').run P w = .ok e' w ∧ VR σ e e' ∧ G (k e) := by
 unfold toStrE at hg
 obtain ⟨e, ei, hu, _, hty, hg⟩ := elemE_spec hf hT hg
 cases hb : (descIs tab isU8 e && descIs tab isStr dst) with
 | false => rw [hb] at hg; exact absurd hg hf
 | true =>
  rw [hb] at hg
  simp only [cond_true] at hg
  rw [Bool.and_eq_true] at hb
  obtain ⟨d1, u1, p1⟩ := descIs_spec hT hb.1
  obtain ⟨d2, u2, p2⟩ := descIs_spec hT hb.2
  rw [isU8_spec p1] at u1
  rw [isStr_spec p2] at u2
  split at hg
  · simp only [VR] at hv
    subst hv
    refine ⟨_, .string ⟨#[]⟩, ?_, by simp only [VR], hg⟩
    rw [run_convert_bytes_string w src dst e none 0 0 hu u1 u2]
    simp [Conv.bytesToString]
    rfl
  · rename_i b off n cap hgx
    clear hgx
    obtain ⟨c, l, arr, t', fr, h1, h2, h3, hg⟩ := rdB_spec hf hg H
    obtain ⟨es, e1, e2, hg⟩ := readCells_spec hf _ _ _ hg
    cases hs : ofBytesE es with
    | none => rw [hs] at hg; exact absurd hg hf
    | some s =>
     simp only [hs] at hg
     obtain ⟨vs, v1, v2, v3⟩ := cells_read h2 h3 (off := off) (es := es) (fun i hi => e2 i (by omega))
     have hvs := ofBytesE_spec hs v1
     simp only [VR] at hv
     obtain ⟨l', hl', rfl, _⟩ := hv
     rw [h1] at hl'; cases hl'
     have hn : n = s.length := by rw [← e1, ← v2, hvs]; simp
     refine ⟨_, .string ⟨s.toArray⟩, ?_, by simp only [VR], hg⟩
     rw [hn]
     refine run_convert_bytes_back w src dst e ⟨l.blk, off, none⟩ _ s hu u1 u2 fun j hj => ?_
     exact v3 j _ (by rw [hvs]; simp [List.getElem?_eq_getElem hj])
  · exact absurd hg hf
theorem clearE_spec (hT : TabOk P tab) {fl : Nat} {t ty : TypeId} {v : EV} {h : Tr EO} {nx : Nat} {k : Tr EO → β} {σ : Sg} {w : World} {v' : Value} {ts : Array TypeId} (hts : ts[0]? = some t) (hg : G (clearE tab fail fl t v h k)) (hv : VR σ v v') (H : Holds σ h w) (F : Fresh σ nx) :
 ∃ h' w', (Builtin.clear_ ts ty #[v']).run P w = .ok (.tuple #[]) w' ∧ Post fl σ h nx w σ h' nx w' ∧ G (k h') := by
 unfold clearE at hg
 obtain ⟨e, ei, hu, _, hty, hg⟩ := elemE_spec hf hT hg
 split at hg
 · simp only [VR] at hv
   subst hv
   exact ⟨h, w, by simp [Builtin.clear_, hts, run_underlying hu], Post.refl H F, hg⟩
 · rename_i b off n cap hgx
   clear hgx
   simp only [VR] at hv
   obtain ⟨l, hl, rfl, hle⟩ := hv
   cases h0 : Nat.beq n 0 with
   | true =>
    rw [h0] at hg
    have := Nat.eq_of_beq_eq_true h0
    subst this
    exact ⟨h, w, by simp [Builtin.clear_, hts, run_underlying hu], Post.refl H F, hg⟩
   | false =>
    rw [h0] at hg
    simp only [cond_false] at hg
    have hn : n ≠ 0 := fun h => by rw [h] at h0; cases h0
    split at hg
    · rename_i c tot ex hb
      cases hq : (Nat.ble (Nat.add off (Nat.mul n ei.size)) tot && ei.zero.flat) with
      | false => rw [hq] at hg; exact absurd hg hf
      | true =>
       rw [hq] at hg
       rw [Bool.and_eq_true] at hq
       have q1 : off + n * ei.size ≤ tot := Nat.le_of_ble_eq_true hq.1
       simp only [cond_true] at hg
       obtain ⟨c', hc, hg⟩ := writeCells_spec hf _ _ _ _ hg
       obtain ⟨hflb, h', hp, hg⟩ := setB_spec hf hg
       obtain ⟨z, z1, z2, z3, z4⟩ := hty.run_zero w
       have hrep := rep_cells (n := n) (z4 σ) z2
       have hlen : ((Array.range (n * ei.size)).map (z.cells[· % z.cells.size]!)).toList.length = n * ei.size := by simp
       obtain ⟨l', l1, l2, l3, l4⟩ := Post.mk_write (fl := fl) (nx := nx) H F hflb hb hc hp hrep (by rw [hlen]; exact q1)
       rw [hl] at l1; cases l1
       refine ⟨h', _, ?_, l2, hg⟩
       have hflat : ∀ u ∈ ((Array.range (n * ei.size)).map (z.cells[· % z.cells.size]!)).toList, u.oneCell' = true := by
        intro u hu
        simp only [Array.toList_map, Array.toList_range, List.mem_map, List.mem_range] at hu
        obtain ⟨i, hi, rfl⟩ := hu
        have hz : 0 < z.cells.size := by
         rw [z2]
         rcases Nat.eq_zero_or_pos ei.size with h | h
         · rw [h] at hi; omega
         · exact h
        have hm : i % z.cells.size < z.cells.size := Nat.mod_lt _ hz
        have : z.cells[i % z.cells.size]! = z.cells[i % z.cells.size] := by simp [hm]
        rw [this]
        exact (z4 σ).flat hq.2 _ (by simp)
       have hst := run_storeCells_cells (P := P) l.blk off ((Array.range (n * ei.size)).map (z.cells[· % z.cells.size]!)).toList 0 w (by simpa using l3) (by simpa using l4) hflat
       simp only [Nat.add_zero] at hst
       have hzc : (Builtin.zeroCells z.cells n).toList = ((Array.range (n * ei.size)).map (z.cells[· % z.cells.size]!)).toList := by
        unfold Builtin.zeroCells; rw [z2]
       simp only [Builtin.clear_, hts, run_underlying hu, Sem.run_bind, Result.andThen_ok, List.getElem?_toArray, List.getElem?_cons_zero, z1, hzc, hst, Sem.run_pure]
    · exact absurd hg hf
 · exact absurd hg hf
omit hf in
theorem lenS_spec {σ : Sg} {w : World} {v : EV} {v' : Value} {n : Nat} (h : lenS v = some n) (hv : VR σ v v') : (Builtin.lenOf v').run P w = .ok n w := by
 unfold lenS at h
 split at h
 · cases h
   simp only [VR] at hv
   subst hv; rfl
 · cases h
   simp only [VR] at hv
   obtain ⟨l, _, rfl, _⟩ := hv
   exact run_lenOf _ _ _ _
 · cases h
omit hf in
theorem minN_eq (a b : Nat) : minN a b = Nat.min a b := by
 unfold minN
 show _ = min a b
 cases h : Nat.ble a b with
 | true => have := Nat.le_of_ble_eq_true h; simp; omega
 | false =>
  have : ¬ a ≤ b := fun hle => by rw [Nat.ble_eq_true_of_le hle] at h; cases h
  simp; omega
theorem copyE_spec (hT : TabOk P tab) {fl : Nat} {t ty : TypeId} {v x : EV} {h : Tr EO} {nx : Nat} {k : Nat → Tr EO → β} {σ : Sg} {w : World} {v' x' : Value} {ts : Array TypeId} (hts : ts[0]? = some t) (hg : G (copyE tab fail fl t v x h k)) (hv : VR σ v v') (hx : VR σ x x') (H : Holds σ h w) (F : Fresh σ nx) :
 ∃ n h' w', (Builtin.copy_ ts ty #[v', x']).run P w = .ok (.int .i64 (Int.ofNat n)) w' ∧ Post fl σ h nx w σ h' nx w' ∧ G (k n h') := by
 unfold copyE at hg
 obtain ⟨e, ei, hu, _, hty, hg⟩ := elemE_spec hf hT hg
 cases hn : lenS v with
 | none => simp only [hn] at hg; exact absurd hg hf
 | some n =>
  cases hm : lenS x with
  | none => simp only [hn, hm] at hg; exact absurd hg hf
  | some m =>
   simp only [hn, hm] at hg
   have lx := lenS_spec (P := P) (w := w) hm hx
   -- the slice that is written
   have hvs : ∃ a c, v' = .slice a n c := by
    unfold lenS at hn
    split at hn
    · cases hn; simp only [VR] at hv; exact ⟨_, _, hv⟩
    · cases hn; simp only [VR] at hv; obtain ⟨l, _, rfl, _⟩ := hv; exact ⟨_, _, rfl⟩
    · cases hn
   have hmin : Nat.min m n = minN m n := (minN_eq m n).symm
   cases h0 : Nat.beq (minN m n) 0 with
   | true =>
    rw [h0] at hg
    have hz := Nat.eq_of_beq_eq_true h0
    refine ⟨0, h, w, ?_, Post.refl H F, hg⟩
    have hfc : (Builtin.firstCells ei.size 0 x').run P w = .ok #[] w := by
     unfold lenS at hm
     split at hm
     · simp only [VR] at hx; subst hx; simp [Builtin.firstCells]
     · simp only [VR] at hx; obtain ⟨l, _, rfl, _⟩ := hx; simp [Builtin.firstCells, loadCells, loadCellsFrom]
     · cases hm
    obtain ⟨a, c, rfl⟩ := hvs
    simp only [Builtin.copy_, hts, List.getElem?_toArray, List.getElem?_cons_zero, List.getElem?_cons_succ, Sem.run_bind, run_underlying hu, Result.andThen_ok, lx, hmin, hz, hty.run_size, hfc]
    cases a <;> simp [storeCells, goInt]
   | false =>
    rw [h0] at hg
    simp only [cond_false] at hg
    split at hg
    · rename_i b off n1 cap1 b2 off2 n2 cap2 hgx
      clear hgx
      obtain ⟨c2, l2, arr, t', fr, q1, q2, q3, hg⟩ := rdB_spec hf hg H
      obtain ⟨es, e1, e2, hg⟩ := readCells_spec hf _ _ _ hg
      obtain ⟨vs, v1, v2, v3⟩ := cells_read q2 q3 (off := off2) (es := es) (fun i hi => e2 i (by omega))
      split at hg
      · rename_i c tot ex hb
        cases hq : (Nat.ble (Nat.add off (Nat.mul (minN m n) ei.size)) tot && es.flat) with
        | false => rw [hq] at hg; exact absurd hg hf
        | true =>
         rw [hq] at hg
         rw [Bool.and_eq_true] at hq
         have p1 : off + minN m n * ei.size ≤ tot := Nat.le_of_ble_eq_true hq.1
         simp only [cond_true] at hg
         obtain ⟨c', hc, hg⟩ := writeCells_spec hf _ _ _ _ hg
         obtain ⟨hflb, h', hp, hg⟩ := setB_spec hf hg
         have hlen : vs.length = minN m n * ei.size := v2.trans e1
         obtain ⟨l', l1, l3, l4, l5⟩ := Post.mk_write (fl := fl) (nx := nx) H F hflb hb hc hp v1 (by rw [hlen]; exact p1)
         refine ⟨minN m n, h', _, ?_, l3, hg⟩
         simp only [VR] at hv hx
         obtain ⟨lv, hlv, rfl, _⟩ := hv
         obtain ⟨lx', hlx, rfl, _⟩ := hx
         rw [l1] at hlv; cases hlv
         rw [q1] at hlx; cases hlx
         simp only [lenS, Option.some.injEq] at hn hm
         subst hn; subst hm
         have hfc : (Builtin.firstCells ei.size (minN n2 n1) (.slice (some ⟨l2.blk, off2, none⟩) n2 (cap2.getD ((l2.tot - off2) / l2.esz)))).run P w = .ok vs.toArray w := by
          simp only [Builtin.firstCells]
          rw [← hlen]
          exact run_loadCells_list (P := P) w ⟨l2.blk, off2, none⟩ vs v3
         have hst := run_storeCells_cells (P := P) l'.blk off vs 0 w (by simpa using l4) (by simpa using l5) (v1.flat hq.2)
         simp only [Nat.add_zero] at hst
         simp only [Builtin.copy_, hts, List.getElem?_toArray, List.getElem?_cons_zero, List.getElem?_cons_succ, Sem.run_bind, run_underlying hu, Result.andThen_ok, lx, hmin, hty.run_size, hfc, hst, Sem.run_pure, goInt]
         rfl
      · exact absurd hg hf
    · exact absurd hg hf
end
end Go.Proofs.YtendekbckfpmgaaGreat
namespace Go.Proofs.YtendekbckfpmgaaGreat
open Go Go.RowKit
def OpRel (σ : Sg) (T : Fr) (a : Act) : Operand → Prop
 | .tmp i => VR σ ((T.get i).getD undefE) (a.tmps.getD i undef)
 | _ => True
theorem ofVal_spec {v : Value} {e : EV} (h : ofVal v = some e) (σ : Sg) : VR σ e v := by
 unfold ofVal at h
 split at h
 · cases h; simp only [VR]
 · cases h; simp only [VR]
 · cases h; simp only [VR]
 · cases h; simp only [VR]
 · rename_i n c
   cases hb : (Nat.beq n 0 && Nat.beq c 0) with
   | false => rw [hb] at h; cases h
   | true =>
    rw [hb] at h
    rw [Bool.and_eq_true] at hb
    have b1 := Nat.eq_of_beq_eq_true hb.1
    have b2 := Nat.eq_of_beq_eq_true hb.2
    subst b1; subst b2
    cases h; simp only [VR]
 · cases h; simp only [VR]
 · cases h; simp only [VR]
 · cases h; simp only [VR]
 · rename_i l
   split at h
   · rename_i hl
     cases h
     simp only [undefE, VR]
     exact ⟨_, rfl, by rw [hl]; exact VRs.nil⟩
   · cases h
 · cases h
def WF (r : Option Nat) : Fence := { Fence.wide with round := r }
theorem callsIn_WF {P : Program} {r : Option Nat} {f : FuncId} {args : Array Value} {w : World} {R : Ending → World → Prop} (h : Calls P f args w R) : CallsIn (WF r) 0 P f args w R := by
 have h' : CallsIn Fence.wide 0 P f args w R := callsIn_wide.2 h
 exact h'
def Oper.flow (P : Program) (o : Oper) (a : Act) (w : World) (R : Value → World → Prop) : Prop :=
 match (execOp a.eval o).run P w with
 | .ok (.value v) w' => R v w'
 | .ok .skip w' => R undef w'
 | .ok (.enter f args) w' => Calls P f args w' fun e w'' => ∃ v, e = .returned v ∧ R v w''
 | .ok (.round l f tmps aw body) w' => RoundIn Fence.wide 0 P l f tmps aw body w' fun e w'' => ∃ v, e = .returned v ∧ R v w''
 | _ => False
theorem Oper.wp_of_flow {P : Program} {r : Option Nat} {o : Oper} {a : Act} {w : World} {R : Value → World → Prop} {K : Act → World → Prop} {Q : Exit → Act → World → Prop} (hd : ∀ c, o.op ≠ .defer c) (h : Oper.flow P o a w R)
 (hR : ∀ v w', R v w' → K (a.put o.dst v) w') : o.wpIn (WF r) 0 P a w K Q := by
 refine ⟨fun _ _ => trivial, ?_⟩
 rw [Oper.semAt_eq _ _ _ hd]
 unfold Oper.flow at h
 generalize (execOp a.eval o).run P w = r at *
 cases r with
 | halt x w' => exact h.elim
 | ok n w' =>
  cases n <;> simp only [] at h <;> simp only [Oper.uponIn]
  case value v => exact hR _ _ h
  case skip => exact hR _ _ h
  case enter f args => exact ⟨fun h => (by cases h), callsIn_WF (h.mono fun e w'' ⟨v, he, hr⟩ => by subst he; exact hR _ _ hr)⟩
  case round l f tmps aw body =>
   refine ⟨fun h => (by cases h), ?_⟩
   have h' : RoundIn (WF r) (0 - 1) P l f tmps aw body w' (fun e w'' => ∃ v, e = .returned v ∧ R v w'') := h
   exact h'.mono fun e w'' ⟨v, he, hr⟩ => by subst he; exact hR _ _ hr
theorem flow_value {P : Program} {o : Oper} {a : Act} {w w' : World} {R : Value → World → Prop} {v : Value} (h : (execOp a.eval o).run P w = .ok (.value v) w') (hR : R v w') : Oper.flow P o a w R := by
 unfold Oper.flow; rw [h]; exact hR
theorem flow_skip {P : Program} {o : Oper} {a : Act} {w w' : World} {R : Value → World → Prop} (h : (execOp a.eval o).run P w = .ok .skip w') (hR : R undef w') : Oper.flow P o a w R := by
 unfold Oper.flow; rw [h]; exact hR
theorem undefE_spec (σ : Sg) : VR σ undefE undef := by
 simp only [undefE, VR]; exact ⟨_, rfl, VRs.nil⟩
def resOf (tmps : Array Value) : ResultVar → Sem Value
 | .tmp t => pure (tmps.getD t undef)
 | .cell p t => do loadVar t (← asAddr (tmps.getD p undef))
theorem results_eq (fn : Func) (tmps : Array Value) : results fn tmps = (do let vs ← fn.results.mapM (resOf tmps); pure (if h : vs.size = 1 then vs[0] else .tuple vs)) := by
 have : (fun (r : ResultVar) => match r with
  | .tmp t => (pure (tmps.getD t undef) : Sem Value)
  | .cell a t => do loadVar t (← asAddr (tmps.getD a undef))) = resOf tmps := by funext r; cases r <;> rfl
 exact congrArg (fun (f : ResultVar → Sem Value) => (do let vs ← fn.results.mapM f; pure (if h : vs.size = 1 then vs[0] else .tuple vs) : Sem Value)) this
def ExR : Ex → Exit → Prop
 | .normal, .normal => True
 | .exit i, .exit j => i = j
 | .ret, .ret => True
 | _, _ => False
def DR (σ : Sg) : List Nat → List Deferred → Prop
 | [], l => l = []
 | b :: D, l => ∃ loc m, σ b = some loc ∧ l = { target := .collected loc.blk, args := #[] } :: m ∧ DR σ D m
theorem DR.mono {σ τ : Sg} (h : Le σ τ) : ∀ {D : List Nat} {l : List Deferred}, DR σ D l → DR τ D l
 | [], _, H => H
 | _ :: _, _, ⟨loc, m, h1, h2, h3⟩ => ⟨loc, m, h _ _ h1, h2, h3.mono h⟩
structure TRel (σ : Sg) (T : Fr) (nt : Nat) (a : Act) : Prop where
 defers : DR σ T.D a.defers
 size : a.tmps.size = nt
 at_ : ∀ i, VR σ ((T.get i).getD undefE) (a.tmps.getD i undef)
theorem TRel.mono {σ τ : Sg} (h : Le σ τ) {T : Fr} {nt : Nat} {a : Act} (H : TRel σ T nt a) : TRel τ T nt a := ⟨H.defers.mono h, H.size, fun i => (H.at_ i).mono h⟩
theorem TRel.op {σ : Sg} {T : Fr} {nt : Nat} {a : Act} (H : TRel σ T nt a) (x : Operand) : OpRel σ T a x := by
 cases x <;> first | trivial | exact H.at_ _
def SoundC (P : Program) (tab : Tab) (self : CodeFn) : Prop :=
 ∀ (β : Type) (fail : β) (join : β → β → β) (G : β → Prop), ¬ G fail → (∀ x y, G (join x y) → G x ∧ G y) → ∀ (nt fl : Nat) (c : Code) (T : Fr) (h : Tr EO) (nx : Nat) (k : Ex → Fr → Tr EO → Nat → β) (σ : Sg) (a : Act) (w : World) (r : Option Nat),
  G (self β fail join nt fl c T h nx k) → TRel σ T nt a → (T.ro = none → r = none) → GlOk tab σ → Holds σ h w → Fresh σ nx → fl ≤ nx →
   c.wpIn (WF r) 0 P (fun e a' w' => ∃ ex T' h' nx' σ', ExR ex e ∧ G (k ex T' h' nx') ∧ TRel σ' T' nt a' ∧ T'.ro = T.ro ∧ Post fl σ h nx w σ' h' nx' w') a w
section
variable {P : Program} {tab : Tab} {β : Type} {fail : β} {G : β → Prop} (hf : ¬ G fail)
include hf
theorem evx_spec {T : Fr} {x : Operand} {k : EV → β} {σ : Sg} {a : Act} (hg : G (evx tab fail T x k)) (hx : OpRel σ T a x) (hgl : GlOk tab σ) : ∃ v, G (k v) ∧ VR σ v (a.eval x) := by
 unfold evx at hg
 cases x with
 | tmp i =>
  simp only at hg
  simp only [OpRel] at hx
  cases hi : T.get i with
  | none => rw [hi] at hx; simp only [hi] at hg; exact ⟨_, hg, hx⟩
  | some v => rw [hi] at hx; simp only [hi] at hg; exact ⟨_, hg, hx⟩
 | const v =>
  simp only at hg
  cases hv : ofVal v with
  | none => simp only [hv] at hg; exact absurd hg hf
  | some e => simp only [hv] at hg; exact ⟨e, hg, ofVal_spec hv σ⟩
 | global g =>
  simp only at hg
  cases hi : tab.gl.get g with
  | none => simp only [hi] at hg; exact absurd hg hf
  | some id =>
   simp only [hi] at hg
   obtain ⟨l, h1, h2⟩ := hgl g id hi
   refine ⟨_, hg, ?_⟩
   simp only [VR]
   exact ⟨l, h1, by rw [h2]; rfl⟩
 | func f =>
  refine ⟨_, hg, ?_⟩
  simp only [VR]
  exact ⟨#[], #[], rfl, VRs.nil, VRs.nil⟩
theorem evxs_spec {T : Fr} {σ : Sg} {a : Act} (hgl : GlOk tab σ) : ∀ {l : List Operand} {k : EVs → β}, G (evxs tab fail T l k) → (∀ x ∈ l, OpRel σ T a x) → ∃ vs, G (k vs) ∧ VRs σ vs (l.map a.eval)
 | [], k, hg, _ => ⟨.nil, hg, VRs.nil⟩
 | x :: l, k, hg, hx => by
  simp only [evxs] at hg
  obtain ⟨v, hg, hv⟩ := evx_spec hf hg (hx x (by simp)) hgl
  obtain ⟨vs, hg, hvs⟩ := evxs_spec hgl hg (fun y hy => hx y (by simp [hy]))
  exact ⟨.cons v vs, hg, hvs.cons hv⟩
theorem evParts_spec {T : Fr} {σ : Sg} {a : Act} (hgl : GlOk tab σ) : ∀ {l : List (Nat × Operand)} {k : List (Nat × EV) → β}, G (evParts tab fail T l k) → (∀ x ∈ l, OpRel σ T a x.2) → ∃ ps, G (k ps) ∧ PartsR σ ps (l.map fun (i, x) => (i, a.eval x))
 | [], k, hg, _ => ⟨[], hg, rfl⟩
 | (i, x) :: l, k, hg, hx => by
  simp only [evParts] at hg
  obtain ⟨v, hg, hv⟩ := evx_spec hf hg (hx (i, x) (by simp)) hgl
  obtain ⟨ps, hg, hps⟩ := evParts_spec hgl hg (fun y hy => hx y (by simp [hy]))
  exact ⟨(i, v) :: ps, hg, _, _, rfl, hv, hps⟩
theorem evOpt_spec {T : Fr} {o : Option Operand} {k : Option EV → β} {σ : Sg} {a : Act} (hg : G (evOpt tab fail T o k)) (hx : ∀ x, o = some x → OpRel σ T a x) (hgl : GlOk tab σ) : ∃ v, G (k v) ∧ OptR σ v (o.map a.eval) := by
 unfold evOpt at hg
 cases o with
 | none => exact ⟨none, hg, trivial⟩
 | some x =>
  obtain ⟨v, hg, hv⟩ := evx_spec hf hg (hx x rfl) hgl
  exact ⟨some v, hg, hv⟩
theorem nilCheckE_spec {o : Oper} {x : Operand} (ho : o.op = .nilCheck x) {v : EV} {k : EV → β} {σ : Sg} {a : Act} {w : World} (hg : G (nilCheckE fail v k)) (hv : VR σ v (a.eval x)) :
 ∃ e e', (execOp a.eval o).run P w = .ok (.value e') w ∧ VR σ e e' ∧ G (k e) := by
 unfold nilCheckE at hg
 split at hg
 · have hv' := hv
   simp only [VR] at hv'
   obtain ⟨l, _, hx⟩ := hv'
   exact ⟨_, a.eval x, by simp only [execOp, ho, hx, Sem.run_pure], hv, hg⟩
 · have hv' := hv
   simp only [VR] at hv'
   obtain ⟨p, q, hx, _⟩ := hv'
   exact ⟨_, a.eval x, by simp only [execOp, ho, hx, Sem.run_pure], hv, hg⟩
 · exact absurd hg hf
theorem resE_spec (hT : TabOk P tab) {T : Fr} {h : Tr EO} {σ : Sg} {a : Act} {w : World} {nt : Nat} (hgl : GlOk tab σ) (H : Holds σ h w) (HT : TRel σ T nt a) : ∀ {l : List ResultVar} {k : EVs → β}, G (resE tab fail T h l k) →
 ∃ vs us, G (k vs) ∧ VRs σ vs us ∧ (l.mapM (resOf a.tmps)).run P w = .ok us w
 | [], k, hg => ⟨.nil, [], hg, VRs.nil, by simp⟩
 | .tmp t :: l, k, hg => by
  simp only [resE] at hg
  obtain ⟨v, hg, hv⟩ := evx_spec hf hg (HT.op (.tmp t)) hgl
  obtain ⟨vs, us, hg, hvs, hr⟩ := resE_spec hT hgl H HT hg
  refine ⟨.cons v vs, a.tmps.getD t undef :: us, hg, hvs.cons hv, ?_⟩
  simp only [List.mapM_cons, resOf, Sem.run_bind, Sem.run_pure, Result.andThen_ok, hr]
 | .cell p t :: l, k, hg => by
  simp only [resE] at hg
  obtain ⟨v, hg, hv⟩ := evx_spec hf hg (HT.op (.tmp p)) hgl
  obtain ⟨e, ad, e', h1, h2, h3, hg⟩ := loadE_spec hf hT hg hv H
  obtain ⟨vs, us, hg, hvs, hr⟩ := resE_spec hT hgl H HT hg
  refine ⟨.cons e vs, e' :: us, hg, hvs.cons h3, ?_⟩
  have h1' : a.tmps.getD p undef = .pointer (some ad) := h1
  simp only [List.mapM_cons, resOf, Sem.run_bind, Sem.run_pure, Result.andThen_ok, h1', asAddr, h2, hr]
omit hf in
theorem run_getObj {r : Nat} {o : Obj} {w : World} (h : w.heap[r]? = some o) (hc : ∀ x y z, o ≠ .cells x y z) : (getObj r).run P w = .ok o w := by
 cases o <;> first | exact absurd rfl (hc _ _ _) | simp [getObj, Sem.run, h]
omit hf in
theorem run_setObj {r : Nat} {o o' : Obj} {w : World} (h : w.heap[r]? = some o) (hc : ∀ x y z, o ≠ .cells x y z) : (setObj r o').run P w = .ok () { w with heap := w.heap.setIfInBounds r o' } := by
 cases o <;> first | exact absurd rfl (hc _ _ _) | simp [setObj, Sem.run, h]
omit hf in
theorem Post.mk_drop {fl : Nat} {σ : Sg} {h h' : Tr EO} {nx : Nat} {w w' : World} {b : Nat} {l : Loc} (H : Holds σ h w) (F : Fresh σ nx) (hfl : fl ≤ b) (hb : (h.get b).isSome) (hl : σ b = some l) (hp : ∀ j, h'.get j = if j = b then none else h.get j)
 (hoth : ∀ k, k ≠ l.blk → w'.heap[k]? = w.heap[k]?) (hsize : w'.heap.size = w.heap.size) (hos : w'.os = w.os) (htape : w'.tape = w.tape) (hout : w'.output = w.output) : Post fl σ h nx w σ h' nx w' := by
 have back : ∀ id, (h'.get id).isSome → id ≠ b ∧ h'.get id = h.get id := fun id hi => by
  rw [hp] at hi ⊢
  by_cases e : id = b
  · rw [if_pos e] at hi; cases hi
  · rw [if_neg e]; exact ⟨e, rfl⟩
 exact {
  le := Le.refl _
  new := fun _ _ => rfl
  nxle := Nat.le_refl _
  fresh := F
  dom := fun id hi => .inl (by rw [← (back id hi).2]; exact hi)
  holds := {
   there := fun id o ho => by
    obtain ⟨e1, e2⟩ := back id (by rw [ho]; rfl)
    rw [e2] at ho
    obtain ⟨l', ob, a1, a2, a3⟩ := H.there id o ho
    refine ⟨l', ob, a1, ?_, a3⟩
    rw [hoth _ (fun e => e1 (H.inj id b l' l (by rw [ho]; rfl) hb a1 hl e))]
    exact a2
   inj := fun i j li lj hi hj => H.inj i j li lj (by rw [← (back i hi).2]; exact hi) (by rw [← (back j hj).2]; exact hj) }
  floor := fun id hi => by rw [hp, if_neg (by omega)]
  size := by rw [hsize]; exact Nat.le_refl _
  frame := fun k hk hne => hoth k (fun e => hne b l hb hl e.symm)
  own := fun id l' hi e => .inr ⟨id, l', by rw [← (back id hi).2]; exact hi, e, rfl⟩
  os := hos
  tape := htape
  output := hout }
omit hf in
theorem heap_set_other {w : World} {r : Nat} {o : Obj} {k : Nat} (h : k ≠ r) : ({ w with heap := w.heap.setIfInBounds r o } : World).heap[k]? = w.heap[k]? := by
 show (w.heap.setIfInBounds r o)[k]? = _
 rw [Array.getElem?_setIfInBounds, if_neg (fun e => h e.symm)]
omit hf in
theorem heap_set_same {w : World} {r : Nat} {o o' : Obj} (h : w.heap[r]? = some o') : ({ w with heap := w.heap.setIfInBounds r o } : World).heap[r]? = some o := by
 show (w.heap.setIfInBounds r o)[r]? = _
 have := (Array.getElem?_eq_some_iff.1 h).1
 rw [Array.getElem?_setIfInBounds, if_pos rfl, if_pos this]
omit hf in
theorem Post.mk_obj {fl : Nat} {σ : Sg} {h h' : Tr EO} {nx : Nat} {w : World} {o : EO} {ob ob0 : Obj} {b : Nat} {l : Loc} (H : Holds σ h w) (F : Fresh σ nx) (hfl : fl ≤ b) (hb : (h.get b).isSome) (hl : σ b = some l) (h0 : w.heap[l.blk]? = some ob0)
 (hp : ∀ j, h'.get j = if j = b then some o else h.get j) (hob : OR σ l o ob) : Post fl σ h nx w σ h' nx { w with heap := w.heap.setIfInBounds l.blk ob } :=
 Post.mk_set H F hfl hb hl hp (heap_set_same h0) (fun k hk => heap_set_other hk) (by simp) rfl rfl rfl hob
theorem leaveE_spec {n : Nat} {fn : Func} {tmps : Array Value} {R : Ending → World → Prop} {fl : Nat} {σ : Sg} {nx : Nat} : ∀ {D : List Nat} {l : List Deferred} {h : Tr EO} {w : World} {k : Tr EO → β}, G (leaveE fail fl D h k) → DR σ D l → Holds σ h w → Fresh σ nx →
 (∀ h' w', G (k h') → Post fl σ h nx w σ h' nx w' → ∃ v, (results fn tmps).run P w' = .ok v w' ∧ R (.returned v) w') → LeavesInM Fence.wide n P fn tmps R l .returning w
 | [], l, h, w, k, hg, hd, H, F, hR => by
  simp only [DR] at hd
  subst hd
  exact hR h w hg (Post.refl H F)
 | b :: D, l, h, w, k, hg, hd, H, F, hR => by
  obtain ⟨loc, m, h1, rfl, h3⟩ := hd
  simp only [leaveE] at hg
  split at hg
  · rename_i hb
    obtain ⟨hfl, h', hp, hg⟩ := setB_spec hf hg
    obtain ⟨l', ob, e1, e2, e3⟩ := H.there b _ hb
    rw [h1] at e1; cases e1
    simp only [OR] at e3
    subst e3
    have hpost : Post fl σ h nx w σ h' nx { w with heap := w.heap.setIfInBounds loc.blk (.deferred none) } :=
     Post.mk_drop H F hfl (by rw [hb]; rfl) h1 hp (fun k hk => heap_set_other hk) (by simp) rfl rfl rfl
    refine ⟨by simp, .inl ⟨loc.blk, _, rfl, ?_, leaveE_spec (n := n) hg h3 hpost.holds F fun h2 w2 hg2 hp2 => hR h2 w2 hg2 (hpost.trans hp2)⟩⟩
    simp only [Instr.takeDeferred, Sem.run_bind, run_getObj e2 (fun _ _ _ h => by cases h), Result.andThen_ok, run_setObj e2 (fun _ _ _ h => by cases h), Sem.run_pure]
  · exact absurd hg hf
def callFlow (P : Program) (f : FuncId) (args : Array Value) (w : World) (R : Value → World → Prop) : Prop :=
 match (callFunc f args).run P w with
 | .ok (.value v) w' => R v w'
 | .ok (.enter g aw) w' => Calls P g aw w' fun e w'' => ∃ v, e = .returned v ∧ R v w''
 | _ => False
theorem callE_enter (hT : TabOk P tab) {self : CodeFn} (hS : SoundC P tab self) {join : β → β → β} (hj : ∀ x y, G (join x y) → G x ∧ G y) {fl f : Nat} {args : EVs} {h : Tr EO} {nx : Nat} {k : EV → Tr EO → Nat → β} {σ : Sg} {w : World} {args' : Array Value} {fn : Func}
 (hfn : tab.fn.get f = some fn) (hg : G (callE tab self fail join fl f args h nx k)) (ha : VRs σ args args'.toList) (hgl : GlOk tab σ) (H : Holds σ h w) (F : Fresh σ nx) (hfl : fl ≤ nx) :
 (∀ (aw : Array Value) (w : World), (callFunc f aw).run P w = .ok (.enter f aw) w) ∧
 Calls P f args' w fun e w' => ∃ v', e = .returned v' ∧ ∃ v h' nx' σ', VR σ' v v' ∧ Post fl σ h nx w σ' h' nx' w' ∧ G (k v h' nx') := by
 unfold callE at hg
 simp only [hfn] at hg
 obtain ⟨hp, hcf⟩ := hT.fn f fn hfn
 refine ⟨hcf, ?_⟩
 cases hb : fn.body with
 | none => simp only [hb] at hg; exact absurd hg hf
 | some c =>
  simp only [hb] at hg
  cases hq : Nat.ble args.len fn.ntmps with
  | false => rw [hq] at hg; exact absurd hg hf
  | true =>
   rw [hq] at hg
   simp only [cond_true] at hg
   have hn : args.len ≤ fn.ntmps := Nat.le_of_ble_eq_true hq
   obtain ⟨T, hTt, hg⟩ := writeCells_spec hf _ _ _ _ hg
   have hlen := (VRs.iff.1 ha).1
   rw [EVs.len_toL, hlen] at hn
   have hsz : args'.size ≤ fn.ntmps := by simpa using hn
   have HT : TRel σ ⟨T, [], none⟩ fn.ntmps { tmps := args' ++ Array.replicate (fn.ntmps - args'.size) undef, defers := [] } := by
    refine ⟨rfl, by simp; omega, fun i => ?_⟩
    show VR σ ((T.get i).getD undefE) _
    rw [hTt]
    simp only [Nat.zero_add, Nat.zero_le, true_and, Nat.sub_zero, Tr.get_nil]
    by_cases hi : i < args.toL.length
    · rw [if_pos hi]
      have hi' : i < args'.size := by rw [hlen] at hi; simpa using hi
      obtain ⟨u, h1, h2⟩ := ha.get (i := i) (e := args.toL[i]) (by simp [hi])
      rw [Array.getElem?_toList] at h1
      rw [List.getElem?_eq_getElem hi]
      have : (args' ++ Array.replicate (fn.ntmps - args'.size) undef).getD i undef = u := by
       rw [Array.getD_eq_getD_getElem?, Array.getElem?_append_left hi', h1]; rfl
      show VR σ args.toL[i] _
      rw [this]; exact h2
    · rw [if_neg hi]
      have hi' : args'.size ≤ i := by rw [hlen] at hi; simp at hi; exact hi
      have : (args' ++ Array.replicate (fn.ntmps - args'.size) undef).getD i undef = undef := by
       rw [Array.getD_eq_getD_getElem?, Array.getElem?_append_right hi', Array.getElem?_replicate]
       split <;> rfl
      show VR σ undefE _
      rw [this]; exact undefE_spec σ
   have hwp := hS β fail join G hf hj fn.ntmps fl c ⟨T, [], none⟩ h nx _ σ _ w none hg HT (fun _ => rfl) hgl H F hfl
   refine callsIn_wide.1 (callsIn_of_wp_marks (F := Fence.wide) (n := 0) hp hb trivial (Code.wpIn_mono ?_ hwp))
   rintro e a' w' ⟨ex, T', h', nx', σ', hex, hg2, HT', _, hpost⟩
   have fin : G (leaveE fail fl T'.D h' fun h' => resE tab fail T' h' fn.results.toList fun vs => match vs with
    | .cons v .nil => k v h' nx'
    | vs => k (.tup vs) h' nx') → LeavesInM Fence.wide 0 P fn a'.tmps (fun e w' => ∃ v', e = .returned v' ∧ ∃ v h' nx' σ', VR σ' v v' ∧ Post fl σ h nx w σ' h' nx' w' ∧ G (k v h' nx')) a'.defers .returning w' := by
    intro hg3
    refine leaveE_spec (fl := fl) (nx := nx') hf hg3 HT'.defers hpost.holds hpost.fresh fun h2 w2 hg4 hp2 => ?_
    have hpost2 := hpost.trans hp2
    obtain ⟨vs, us, hg4, hvs, hr⟩ := resE_spec hf hT (hgl.mono hpost.le) hp2.holds HT' hg4
    have hlen2 := (VRs.iff.1 hvs).1
    have hres : (results fn a'.tmps).run P w2 = .ok (if h : us.toArray.size = 1 then us.toArray[0] else .tuple us.toArray) w2 := by
     rw [results_eq, Sem.run_bind, Array.mapM_eq_mapM_toList]
     simp [hr]
    refine ⟨_, hres, _, rfl, ?_⟩
    cases vs with
    | nil =>
     simp only [VRs] at hvs
     subst hvs
     exact ⟨_, h2, nx', σ', by simp only [VR]; exact ⟨_, rfl, VRs.nil⟩, hpost2, hg4⟩
    | cons v1 l1 =>
     simp only [VRs] at hvs
     obtain ⟨u1, m1, rfl, hv1, hvs⟩ := hvs
     cases l1 with
     | nil =>
      simp only [VRs] at hvs
      subst hvs
      exact ⟨_, h2, nx', σ', by simpa using hv1, hpost2, hg4⟩
     | cons v2 l2 =>
      simp only [VRs] at hvs
      obtain ⟨u2, m2, rfl, hv2, hvs⟩ := hvs
      refine ⟨_, h2, nx', σ', ?_, hpost2, hg4⟩
      rw [dif_neg (by simp)]
      simp only [VR]
      exact ⟨_, rfl, VRs.cons hv1 (VRs.cons hv2 hvs)⟩
   cases ex with
   | exit id => exact absurd hg2 hf
   | normal => cases e <;> first | exact hex.elim | exact fin hg2
   | ret => cases e <;> first | exact hex.elim | exact fin hg2
theorem callE_spec (hT : TabOk P tab) {self : CodeFn} (hS : SoundC P tab self) {join : β → β → β} (hj : ∀ x y, G (join x y) → G x ∧ G y) {fl f : Nat} {args : EVs} {h : Tr EO} {nx : Nat} {k : EV → Tr EO → Nat → β} {σ : Sg} {w : World} {args' : Array Value}
 (hg : G (callE tab self fail join fl f args h nx k)) (ha : VRs σ args args'.toList) (hgl : GlOk tab σ) (H : Holds σ h w) (F : Fresh σ nx) (hfl : fl ≤ nx) :
 callFlow P f args' w fun v' w' => ∃ v h' nx' σ', VR σ' v v' ∧ Post fl σ h nx w σ' h' nx' w' ∧ G (k v h' nx') := by
 unfold callFlow
 cases hfn : tab.fn.get f with
 | some fn =>
  obtain ⟨h1, h2⟩ := callE_enter hf hT hS hj hfn hg ha hgl H F hfl
  rw [h1]
  exact h2
 | none =>
  unfold callE at hg
  simp only [hfn] at hg
  cases hex : tab.ex.get f with
  | none => simp only [hex] at hg; exact absurd hg hf
  | some n =>
   simp only [hex] at hg
   have hE := hT.ex f n hex
   unfold extE at hg
   split at hg
   · rename_i x y c
     simp only [VRs, VR] at ha
     obtain ⟨_, _, e1, rfl, _, _, rfl, rfl, _, _, rfl, rfl, rfl⟩ := ha
     have hargs : args' = #[.int .u64 (Int.ofNat x), .int .u64 (Int.ofNat y), .int .u64 (Int.ofNat c)] := by
      apply Array.ext'; simpa using e1
     cases hc : Nat.ble c 1 with
     | false => rw [hc] at hg; exact absurd hg hf
     | true =>
      rw [hc] at hg
      simp only [cond_true] at hg
      obtain ⟨q0, q1⟩ := hE x y c w (Nat.le_of_ble_eq_true hc)
      split at hg
      · have hg := forceI_spec (forceI_spec hg)
        rw [hargs, q0 rfl]
        refine ⟨_, h, nx, σ, ?_, Post.refl H F, hg⟩
        simp only [VR]
        exact ⟨_, rfl, VRs.cons (by simp only [VR]; rfl) (VRs.cons (by simp only [VR]; rfl) VRs.nil)⟩
      · have hg := forceI_spec hg
        rw [hargs, q1 rfl]
        refine ⟨_, h, nx, σ, ?_, Post.refl H F, hg⟩
        simp only [VR]
        refine ⟨_, rfl, VRs.cons (by simp only [VR]; rfl) (VRs.cons ?_ VRs.nil)⟩
        simp only [VR]
        cases hb : Nat.ble (Nat.succ x) (Nat.add y c) with
        | true =>
         have h1 : x < y + c := Nat.le_of_ble_eq_true hb
         rw [if_pos h1]; rfl
        | false =>
         have h1 : ¬ x < y + c := fun hlt => by
          have h2 : Nat.ble (Nat.succ x) (Nat.add y c) = true := Nat.ble_eq_true_of_le hlt
          rw [h2] at hb; cases hb
         rw [if_neg h1]; rfl
      · exact absurd hg hf
   · exact absurd hg hf
omit hf in
theorem callFlow.mono {f : FuncId} {args : Array Value} {w : World} {R R' : Value → World → Prop} (h : callFlow P f args w R) (hr : ∀ v w', R v w' → R' v w') : callFlow P f args w R' := by
 unfold callFlow at *
 generalize (callFunc f args).run P w = res at *
 cases res with
 | halt _ _ => exact h
 | ok n w' =>
  cases n <;> first
   | exact hr _ _ h
   | exact h.mono fun e w'' ⟨v, he, hv⟩ => ⟨v, he, hr _ _ hv⟩
   | exact h
omit hf in
theorem maxN_le (a b : Nat) : a ≤ maxN a b ∧ b ≤ maxN a b := by
 unfold maxN
 cases h : Nat.ble a b with
 | true => have := Nat.le_of_ble_eq_true h; simp; omega
 | false =>
  have : ¬ a ≤ b := fun hle => by rw [Nat.ble_eq_true_of_le hle] at h; cases h
  simp; omega
omit hf in
theorem mergeOuts_spec : ∀ {l : List (EV × Tr EO × Nat)} {v : EV} {h : Tr EO} {nx : Nat} {r : EV × Tr EO × Nat}, mergeOuts v h nx l = some r →
 r.1 = v ∧ (∀ id b, r.2.1.get id = some b → h.get id = some b) ∧ nx ≤ r.2.2 ∧ ∀ o ∈ l, r.1 = o.1 ∧ (∀ id b, r.2.1.get id = some b → o.2.1.get id = some b) ∧ o.2.2 ≤ r.2.2
 | [], v, h, nx, r, hm => by
  simp only [mergeOuts, Option.some.injEq] at hm
  subst hm
  exact ⟨rfl, fun _ _ h => h, Nat.le_refl _, fun o ho => by cases ho⟩
 | o :: l, v, h, nx, r, hm => by
  simp only [mergeOuts] at hm
  cases hs : sameE v o.1 with
  | false => rw [hs] at hm; cases hm
  | true =>
   rw [hs] at hm
   obtain ⟨a1, a2, a3, a4⟩ := mergeOuts_spec hm
   have hv := sameE_eq _ _ hs
   have hm2 := maxN_le nx o.2.2
   refine ⟨a1, fun id b hb => (meetTr_spec (a2 id b hb)).1, by omega, fun p hp => ?_⟩
   cases hp with
   | head => exact ⟨a1.trans hv, fun id b hb => (meetTr_spec (a2 id b hb)).2, by omega⟩
   | tail _ hp => exact a4 p hp
omit hf in
theorem Post.less {σ σ' : Sg} {h h' h2 : Tr EO} {nx nx' nx2 : Nat} {w w' : World} (p : Post 0 σ h nx w σ' h' nx' w') (hle : ∀ id b, h2.get id = some b → h'.get id = some b) (hn : nx' ≤ nx2) : Post 0 σ h nx w σ' h2 nx2 w' := by
 have hs : ∀ id, (h2.get id).isSome → (h'.get id).isSome := fun id hi => by
  obtain ⟨b, hb⟩ := Option.isSome_iff_exists.1 hi
  rw [hle id b hb]; rfl
 exact {
  le := p.le
  new := p.new
  nxle := Nat.le_trans p.nxle hn
  fresh := fun id hi => p.fresh id (Nat.le_trans hn hi)
  dom := fun id hi => (p.dom id (hs id hi)).imp (fun h => h) fun ⟨a, b⟩ => ⟨a, Nat.lt_of_lt_of_le b hn⟩
  holds := {
   there := fun id o ho => p.holds.there id o (hle id o ho)
   inj := fun i j li lj hi hj => p.holds.inj i j li lj (hs i hi) (hs j hj) }
  floor := fun id hi => by omega
  size := p.size
  frame := p.frame
  own := fun id l hi => p.own id l (hs id hi)
  os := p.os
  tape := p.tape
  output := p.output }
theorem callM_spec (hT : TabOk P tab) {self : CodeFn} (hS : SoundC P tab self) {join : β → β → β} (hj : ∀ x y, G (join x y) → G x ∧ G y) {fl f : Nat} {args : EVs} {h : Tr EO} {nx : Nat} {k : EV → Tr EO → Nat → β} {σ : Sg} {w : World} {args' : Array Value}
 (hg : G (callM tab self fail join fl f args h nx k)) (ha : VRs σ args args'.toList) (hgl : GlOk tab σ) (H : Holds σ h w) (F : Fresh σ nx) (hfl : fl ≤ nx) :
 callFlow P f args' w fun v' w' => ∃ v h' nx' σ', VR σ' v v' ∧ Post fl σ h nx w σ' h' nx' w' ∧ G (k v h' nx') := by
 unfold callM at hg
 cases hm : tab.mg.get f with
 | none => rw [hm] at hg; exact callE_spec hf hT hS hj hg ha hgl H F hfl
 | some _ =>
  simp only [hm] at hg
  cases h0 : Nat.beq fl 0 with
  | false => rw [h0] at hg; exact absurd hg hf
  | true =>
   rw [h0] at hg
   have hfl0 := Nat.eq_of_beq_eq_true h0
   subst hfl0
   simp only [cond_true] at hg
   split at hg
   · rename_i o l ho
     have hflow := callE_spec (β := Outs) (fail := none) (G := fun r => ∃ m, r = some m ∧ ∀ x ∈ m, x ∈ o :: l) (join := joinL) (k := fun v h nx => some [(v, h, nx)]) (fun ⟨m, h, _⟩ => by cases h) hT hS
      (fun x y hxy => by
       obtain ⟨m, h1, h2⟩ := hxy
       cases x with
       | none => cases h1
       | some a =>
        cases y with
        | none => cases h1
        | some b =>
         simp only [joinL, Option.some.injEq] at h1
         subst h1
         exact ⟨⟨a, rfl, fun z hz => h2 z (List.mem_append_left _ hz)⟩, ⟨b, rfl, fun z hz => h2 z (List.mem_append_right _ hz)⟩⟩)
      (fl := 0) (f := f) (args := args) (h := h) (nx := nx) ⟨_, ho, fun x hx => hx⟩ ha hgl H F hfl
     split at hg
     · rename_i r hr
       obtain ⟨a1, a2, a3, a4⟩ := mergeOuts_spec hr
       refine callFlow.mono hflow fun v' w' ⟨v, h', nx', σ', hv, hp, m, he, hin⟩ => ?_
       have hmem : (v, h', nx') ∈ o :: l := hin _ (by
        have : m = [(v, h', nx')] := (Option.some.inj he).symm
        rw [this]; exact List.mem_cons_self ..)
       have key : r.1 = v ∧ (∀ id b, r.2.1.get id = some b → h'.get id = some b) ∧ nx' ≤ r.2.2 := by
        cases hmem with
        | head => exact ⟨a1, a2, a3⟩
        | tail _ hmem => exact a4 _ hmem
       exact ⟨r.1, r.2.1, r.2.2, σ', by rw [key.1]; exact hv, hp.less key.2.1 key.2.2, hg⟩
     · exact absurd hg hf
   · exact absurd hg hf
end
end Go.Proofs.YtendekbckfpmgaaGreat
namespace Go.Proofs.YtendekbckfpmgaaGreat
open Go Go.RowKit
theorem run_max2 {P : Program} {ts : Array TypeId} {ty : TypeId} {ki : IntKind} {x y : Int} {w : World} : (do pure (.value (← Builtin.max_ ts ty #[.int ki x, .int ki y])) : Sem Next).run P w = .ok (.value (.int ki (bif ltInt x y then y else x))) w := by
 simp [Builtin.max_, Builtin.max2, ltInt_eq, Bool.cond_decide]
theorem run_min2 {P : Program} {ts : Array TypeId} {ty : TypeId} {ki : IntKind} {x y : Int} {w : World} : (do pure (.value (← Builtin.min_ ts ty #[.int ki x, .int ki y])) : Sem Next).run P w = .ok (.value (.int ki (bif ltInt y x then y else x))) w := by
 simp [Builtin.min_, Builtin.min2, ltInt_eq, Bool.cond_decide]
theorem isSomeOf {α : Type} {o : Option α} {b : α} (h : o = some b) : o.isSome := by rw [h]; rfl
section
variable {P : Program} {tab : Tab} {β : Type} {fail : β} {G : β → Prop} (hf : ¬ G fail)
include hf
theorem fillT_spec {σ : Sg} {nt : Nat} : ∀ {ps : List Nat} {vs : EVs} {T : Tr EV} {k : Tr EV → β} {vs' : List Value} {tmps : Array Value}, G (fillT fail nt ps vs T k) → VRs σ vs vs' → SR σ T tmps → tmps.size = nt →
 ∃ T', G (k T') ∧ vs'.length = ps.length ∧ SR σ T' ((ps.zip vs').foldl (fun tmps x => tmps.setIfInBounds x.1 x.2) tmps) ∧ ((ps.zip vs').foldl (fun (tmps : Array Value) x => tmps.setIfInBounds x.1 x.2) tmps).size = nt
 | [], .nil, T, k, vs', tmps, hg, hv, hs, hz => by
  simp only [VRs] at hv
  subst hv
  exact ⟨T, hg, rfl, hs, hz⟩
 | p :: ps, .cons v vs, T, k, vs', tmps, hg, hv, hs, hz => by
  simp only [VRs] at hv
  obtain ⟨u, m, rfl, h1, h2⟩ := hv
  simp only [fillT] at hg
  cases hb : Nat.ble (Nat.succ p) nt with
  | false => rw [hb] at hg; exact absurd hg hf
  | true =>
   rw [hb] at hg
   obtain ⟨T1, hT, hg⟩ := Tr.put_spec hf _ _ _ _ hg
   have hp : p < tmps.size := by rw [hz]; exact Nat.le_of_ble_eq_true hb
   have hs1 : SR σ T1 (tmps.setIfInBounds p u) := fun i => by
    rw [hT]
    by_cases e : i = p
    · subst e
      rw [if_pos rfl]
      simp only [Option.getD_some]
      have : (tmps.setIfInBounds i u).getD i undef = u := by simp [hp]
      rw [this]; exact h1
    · rw [if_neg e]
      have : (tmps.setIfInBounds p u).getD i undef = tmps.getD i undef := by
       simp only [Array.getD_eq_getD_getElem?, Array.getElem?_setIfInBounds]
       rw [if_neg (fun h => e h.symm)]
      rw [this]; exact hs i
   obtain ⟨T', g1, g2, g3, g4⟩ := fillT_spec hg h2 hs1 (by simp [hz])
   exact ⟨T', g1, by simp [g2], g3, g4⟩
 | [], .cons _ _, T, k, vs', tmps, hg, _, _, _ => absurd hg hf
 | _ :: _, .nil, T, k, vs', tmps, hg, _, _, _ => absurd hg hf
omit hf in
theorem stN_ready {s : LoopState} (h : stN s = 0) : s = .ready := by cases s <;> first | rfl | cases h
omit hf in
theorem ER.filter {σ : Sg} {p : Nat → Bool} : ∀ {l : List (EV × EV × Nat)} {m : List MapEntry}, ER σ l m → ER σ (l.filter fun e => p e.2.2) (m.filter fun e => p e.born)
 | [], _, h => by simp only [ER] at h; subst h; exact rfl
 | (a, v, b) :: l, m, ⟨x, r, e, h1, h2, h3, h4⟩ => by
  subst e
  subst h3
  simp only [List.filter_cons]
  cases p x.born with
  | true => exact ⟨x, _, rfl, h1, h2, rfl, ER.filter h4⟩
  | false => exact ER.filter h4
omit hf in
theorem ER.mem {σ : Sg} : ∀ {l : List (EV × EV × Nat)} {m : List MapEntry}, ER σ l m → ∀ x ∈ m, ∃ e ∈ l, VR σ e.1 x.key ∧ VR σ e.2.1 x.val ∧ x.born = e.2.2
 | [], _, h, x, hx => by simp only [ER] at h; subst h; cases hx
 | (a, v, b) :: l, m, ⟨y, r, e, h1, h2, h3, h4⟩, x, hx => by
  subst e
  cases hx with
  | head => exact ⟨(a, v, b), List.mem_cons_self .., h1, h2, h3⟩
  | tail _ hx =>
   obtain ⟨e, q1, q2⟩ := h4.mem x hx
   exact ⟨e, List.mem_cons_of_mem _ q1, q2⟩
omit hf in
theorem inL_eq (n : Nat) : ∀ l : List Nat, inL n l = l.contains n
 | [] => rfl
 | m :: l => by
  simp only [inL, List.contains_cons, inL_eq n l]
  have : Nat.beq m n = (n == m) := by rw [Bool.eq_iff_iff]; simp; exact eq_comm
  rw [this]
  cases n == m <;> rfl
omit hf in
theorem nextE_spec {join : β → β → β} (hj : ∀ x y, G (join x y) → G x ∧ G y) {one : (EV × EV × Nat) → β} : ∀ {l : List (EV × EV × Nat)}, G (nextE fail join one l) → ∀ e ∈ l, G (one e)
 | [], h, e, he => by cases he
 | [x], h, e, he => by
  cases he with
  | head => exact h
  | tail _ he => cases he
 | x :: y :: l, h, e, he => by
  obtain ⟨h1, h2⟩ := hj _ _ h
  cases he with
  | head => exact h1
  | tail _ he => exact nextE_spec hj h2 e he
omit hf in
theorem ER.born {σ : Sg} {n : Nat} : ∀ {l : List (EV × EV × Nat)} {m : List MapEntry} {e : EV × EV}, ER σ l m → findBorn n l = some e → ∃ x, m.find? (fun x => x.born == n) = some x ∧ VR σ e.1 x.key ∧ VR σ e.2 x.val
 | [], _, _, _, h => by simp only [findBorn] at h; cases h
 | (a, v, b) :: l, m, e, ⟨x, r, he, h1, h2, h3, h4⟩, h => by
  subst he
  simp only [findBorn] at h
  rw [List.find?_cons]
  have hb : (x.born == n) = Nat.beq b n := by rw [h3, Bool.eq_iff_iff]; simp
  rw [hb]
  cases hq : Nat.beq b n with
  | true =>
   rw [hq] at h
   simp only [cond_true, Option.some.injEq] at h
   subst h
   exact ⟨x, rfl, h1, h2⟩
  | false =>
   rw [hq] at h
   exact h4.born h
theorem yieldE_spec {self : CodeFn} (hS : SoundC P tab self) {join : β → β → β} (hj : ∀ x y, G (join x y) → G x ∧ G y) {fl b : Nat} {args : EVs} {h : Tr EO} {nx : Nat} {k : EV → Tr EO → Nat → β} {σ : Sg} {w : World} {args' : Array Value} {loc : Loc}
 (hg : G (yieldE self fail join fl b args h nx k)) (ha : VRs σ args args'.toList) (hloc : σ b = some loc) (hgl : GlOk tab σ) (H : Holds σ h w) (F : Fresh σ nx) (hfl : fl ≤ nx) :
 ∃ f tmps aw body, (Instr.yield loc.blk args').run P w = .ok (.round loc.blk f tmps aw body) w ∧ RoundIn Fence.wide 0 P loc.blk f tmps aw body w fun e w' => ∃ v', e = .returned v' ∧ ∃ v h' nx' σ', VR σ' v v' ∧ Post fl σ h nx w σ' h' nx' w' ∧ G (k v h' nx') := by
 unfold yieldE at hg
 split at hg
 · rename_i pend nt T ps aw body hb
   obtain ⟨l', ob, e1, e2, e3⟩ := H.there b _ hb
   rw [hloc] at e1; cases e1
   obtain ⟨r, rfl, r1, r2, r3, r4, r5, r6, r7⟩ := e3
   obtain ⟨T1, hg, f1, f2, f3⟩ := fillT_spec hf hg ha r7 r3
   have hsz : args'.size = r.params.size := by
    rw [← r4] at f1; simpa using f1
   have hfold : (r.params.zip args').foldl (fun tmps (x : Tmp × Value) => tmps.setIfInBounds x.1 x.2) r.tmps = (ps.zip args'.toList).foldl (fun tmps x => tmps.setIfInBounds x.1 x.2) r.tmps := by
    rw [← Array.foldl_toList, Array.toList_zip, r4]
   refine ⟨r.fn, (r.params.zip args').foldl (fun tmps (x : Tmp × Value) => tmps.setIfInBounds x.1 x.2) r.tmps, r.assign, r.body, ?_, ?_⟩
   · simp only [Instr.yield, Instr.getLoop, Sem.run_bind, run_getObj e2 (fun _ _ _ h => by cases h), Result.andThen_ok, Sem.run_pure, hsz, ne_eq, not_true_eq_false, if_false]
   · rw [r5, r6]
     refine roundIn_of_wpIn (F := Fence.wide) (n := 0) trivial ?_
     have hTR : TRel σ ⟨T1, [], some b⟩ nt { tmps := (r.params.zip args').foldl (fun tmps (x : Tmp × Value) => tmps.setIfInBounds x.1 x.2) r.tmps, defers := [] } := ⟨rfl, by rw [hfold]; exact f3, fun i => by rw [hfold]; exact f2 i⟩
     have h1 := hS β fail join G hf hj nt fl aw ⟨T1, [], some b⟩ h nx _ σ _ w (some loc.blk) hg hTR (fun e => by cases e) hgl H F hfl
     refine Code.wpIn_mono (fun e a1 w1 hr => ?_) h1
     obtain ⟨ex, F1, H1, nx1, σ1, q1, q2, q3, q4, q5⟩ := hr
     cases ex with
     | exit i => exact absurd q2 hf
     | ret => exact absurd q2 hf
     | normal =>
      cases e <;> try exact q1.elim
      simp only at q2
      split at q2
      · rename_i pend1 nt1 T1' ps1 as1 body1 hb1
        obtain ⟨hflb, h2, hp2, q2⟩ := setB_spec hf q2
        obtain ⟨l1, ob1, c1, c2, c3⟩ := q5.holds.there b _ hb1
        have hl1 : l1 = loc := by rw [q5.le b loc hloc] at c1; exact (Option.some.inj c1).symm
        subst hl1
        obtain ⟨s, rfl, s1, s2, s3, s4, s5, s6, s7⟩ := c3
        have hsr := stN_ready s1
        have hpost2 : Post fl σ1 H1 nx1 w1 σ1 h2 nx1 { w1 with heap := w1.heap.setIfInBounds l1.blk (.loop { s with state := .busy }) } :=
         Post.mk_obj q5.holds q5.fresh hflb (isSomeOf hb1) c1 c2 hp2 ⟨_, rfl, rfl, s2, s3, s4, s5, s6, s7⟩
        refine ⟨{ w1 with heap := w1.heap.setIfInBounds l1.blk (.loop { s with state := .busy }) }, ?_, ?_⟩
        · simp only [Instr.beginRound, Instr.getLoop, Sem.run_bind, run_getObj c2 (fun _ _ _ h => by cases h), Result.andThen_ok, Sem.run_pure, run_setObj c2 (fun _ _ _ h => by cases h), hsr]
        · have hpost02 := q5.trans hpost2
          have h3 := hS β fail join G hf hj nt fl body F1 h2 nx1 _ σ1 a1 _ (some l1.blk) q2 q3 (fun e => by rw [q4] at e; cases e) (hgl.mono hpost02.le) hpost2.holds hpost2.fresh (Nat.le_trans hfl hpost02.nxle)
          refine Code.wpIn_mono (fun e a3 w3 hr => ?_) h3
          obtain ⟨ex, F3, H3, nx3, σ3, p1, p2, p3, p4, p5⟩ := hr
          have fin : ∀ jump : Option Code, jump = jumpOf ex → ∃ v w', (Instr.endRound l1.blk jump).run P w3 = .ok v w' ∧ ∃ v', Ending.returned v = .returned v' ∧ ∃ v h' nx' σ', VR σ' v v' ∧ Post fl σ h nx w σ' h' nx' w' ∧ G (k v h' nx') := by
           intro jump hjump
           split at p2
           · split at p2
             · rename_i st5 pend5 nt5 T5 ps5 as5 body5 hb5
               obtain ⟨hflb5, h5, hp5, p2⟩ := setB_spec hf p2
               obtain ⟨l5, ob5, d1, d2, d3⟩ := p5.holds.there b _ hb5
               have hl5 : l5 = l1 := by rw [p5.le b l1 c1] at d1; exact (Option.some.inj d1).symm
               subst hl5
               obtain ⟨u, rfl, u1, u2, u3, u4, u5, u6, u7⟩ := d3
               have hpost5 : Post fl σ3 H3 nx3 w3 σ3 h5 nx3 { w3 with heap := w3.heap.setIfInBounds l5.blk (.loop { u with state := if jump.isNone then .ready else .done, pending := jump }) } :=
                Post.mk_obj p5.holds p5.fresh hflb5 (isSomeOf hb5) d1 d2 hp5 ⟨_, rfl, by subst hjump; cases ex <;> rfl, hjump, u3, u4, u5, u6, u7⟩
               refine ⟨.bool jump.isNone, _, ?_, _, rfl, _, h5, nx3, σ3, ?_, (hpost02.trans p5).trans hpost5, p2⟩
               · simp only [Instr.endRound, Instr.getLoop, Sem.run_bind, run_getObj d2 (fun _ _ _ h => by cases h), Result.andThen_ok, Sem.run_pure, run_setObj d2 (fun _ _ _ h => by cases h)]
               · subst hjump
                 simp only [VR]
                 cases ex <;> rfl
             · exact absurd p2 hf
           · exact absurd p2 hf
          cases ex with
          | normal => cases e <;> first | exact p1.elim | exact fin none rfl
          | ret => cases e <;> first | exact p1.elim | exact fin (some .ret) rfl
          | exit i =>
           cases e <;> first | exact p1.elim | skip
           rename_i j
           have : i = j := p1
           subst this
           exact fin (some (.exit i)) rfl
      · exact absurd q2 hf
 · exact absurd hg hf
theorem rangeE_spec (hT : TabOk P tab) {self : CodeFn} (hS : SoundC P tab self) {join : β → β → β} (hj : ∀ x y, G (join x y) → G x ∧ G y) {nt fl : Nat} {g : Operand} {ps : Array Nat} {aw body : Code} {T : Fr} {h : Tr EO} {nx : Nat} {k : Ex → Fr → Tr EO → Nat → β} {σ : Sg} {a : Act} {w : World} {r : Option Nat}
 (hg : G (rangeE tab self fail join nt fl g ps aw body T h nx k)) (HT : TRel σ T nt a) (hr : T.ro = none → r = none) (hgl : GlOk tab σ) (H : Holds σ h w) (F : Fresh σ nx) (hfl : fl ≤ nx) :
 (Code.rangeFunc g ps aw body).wpIn (WF r) 0 P (fun e a' w' => ∃ ex T' h' nx' σ', ExR ex e ∧ G (k ex T' h' nx') ∧ TRel σ' T' nt a' ∧ T'.ro = T.ro ∧ Post fl σ h nx w σ' h' nx' w') a w := by
 unfold rangeE at hg
 split at hg
 · exact absurd hg hf
 · rename_i hro
   have hrn := hr hro
   subst hrn
   obtain ⟨v, hg, hv⟩ := evx_spec (a := a) hf hg (HT.op g) hgl
   cases v with
   | func f first cap =>
    simp only at hg
    cases hfn : tab.fn.get f with
    | none => simp only [hfn] at hg; exact absurd hg hf
    | some fn0 =>
     simp only [hfn] at hg
     simp only [VR] at hv
     obtain ⟨x, y, hev, hx, hy⟩ := hv
     simp only [newB] at hg
     obtain ⟨h1, hp1, hg⟩ := Tr.put_spec hf _ _ _ _ hg
     obtain ⟨h2, hp2, hg⟩ := Tr.put_spec hf _ _ _ _ hg
     refine wpIn_rangeFunc fun fn _ => ?_
     have post1 : Post fl σ h nx w (upd σ nx ⟨w.heap.size, 0, 0⟩) h1 (Nat.succ nx) (w.alloc (.deferred (some []))) := Post.mk_new H F hfl hp1 rfl rfl rfl rfl rfl
     have post2 : Post fl (upd σ nx ⟨w.heap.size, 0, 0⟩) h1 (Nat.succ nx) (w.alloc (.deferred (some []))) (upd (upd σ nx ⟨w.heap.size, 0, 0⟩) (Nat.succ nx) ⟨(w.alloc (.deferred (some []))).heap.size, 0, 0⟩) h2 (Nat.succ (Nat.succ nx))
      ((w.alloc (.deferred (some []))).alloc (.loop { state := .ready, pending := none, fn, tmps := a.tmps, params := ps, assign := aw, body, defers := w.heap.size })) := by
      refine Post.mk_new post1.holds post1.fresh (Nat.le_trans hfl (Nat.le_succ _)) hp2 rfl rfl rfl rfl ⟨_, rfl, rfl, rfl, HT.size, rfl, rfl, rfl, fun i => ?_⟩
      exact ((HT.at_ i).mono post1.le).mono (Le.upd (post1.fresh _ (Nat.le_refl _)) _)
     have post12 := post1.trans post2
     have hyld : VR (upd (upd σ nx ⟨w.heap.size, 0, 0⟩) (Nat.succ nx) ⟨(w.alloc (.deferred (some []))).heap.size, 0, 0⟩) (.yld (Nat.succ nx)) (.func (.yield (w.alloc (.deferred (some []))).heap.size) #[] #[]) := by
      simp only [VR]; exact ⟨_, upd_same _ _ _, rfl⟩
     have hargs : VRs (upd (upd σ nx ⟨w.heap.size, 0, 0⟩) (Nat.succ nx) ⟨(w.alloc (.deferred (some []))).heap.size, 0, 0⟩) ((first.app (.cons (.yld (Nat.succ nx)) .nil)).app cap) (x ++ #[Value.func (.yield (w.alloc (.deferred (some []))).heap.size) #[] #[]] ++ y).toList := by
      have := ((hx.mono post12.le).app (VRs.cons hyld VRs.nil)).app (hy.mono post12.le)
      simpa using this
     obtain ⟨hcf, hcall⟩ := callE_enter hf hT hS hj hfn hg hargs (hgl.mono post12.le) post2.holds post2.fresh (Nat.le_trans hfl post12.nxle)
     refine ⟨(w.alloc (.deferred (some []))).heap.size, [{ target := .collected w.heap.size, args := #[] }], ((w.alloc (.deferred (some []))).alloc (.loop { state := .ready, pending := none, fn, tmps := a.tmps, params := ps, assign := aw, body, defers := w.heap.size })), { target := .fn (.func f) y, args := x ++ #[Value.func (.yield (w.alloc (.deferred (some []))).heap.size) #[] #[]] }, ((w.alloc (.deferred (some []))).alloc (.loop { state := .ready, pending := none, fn, tmps := a.tmps, params := ps, assign := aw, body, defers := w.heap.size })), f, x ++ #[Value.func (.yield (w.alloc (.deferred (some []))).heap.size) #[] #[]] ++ y, ((w.alloc (.deferred (some []))).alloc (.loop { state := .ready, pending := none, fn, tmps := a.tmps, params := ps, assign := aw, body, defers := w.heap.size })), ?_, ?_, fun _ _ => trivial, ?_, (fun h => by cases h), callsIn_WF (hcall.mono fun e w3 ⟨v', he, v, h3, nx3, σ3, hv3, hp3, hg3⟩ => ?_)⟩
     · show (Instr.enterLoop fn a.tmps ps aw body none).run P w = _
       simp [Instr.enterLoop, newObj, Sem.run]
     · simp only [resolve, hev, Deferred.ofValue, Sem.run_pure]
       simp [Act.eval]
     · simp only [invoke, hcf]
     · subst he
       simp only [rangePost]
       unfold endLoopE at hg3
       split at hg3
       · rename_i st pend nt' T' ps' aw' body' hb
         cases hst : Nat.beq st 1 with
         | true => rw [hst] at hg3; exact absurd hg3 hf
         | false =>
          rw [hst] at hg3
          simp only [cond_false] at hg3
          split at hg3
          · rename_i ex hex
            obtain ⟨hflb, h4, hp4, hg4⟩ := setB_spec hf hg3
            clear hg3
            obtain ⟨l4, ob4, d1, d2, d3⟩ := hp3.holds.there _ _ hb
            have hl4 : l4 = ⟨(w.alloc (.deferred (some []))).heap.size, 0, 0⟩ := by rw [hp3.le _ _ (upd_same _ _ _)] at d1; exact (Option.some.inj d1).symm
            subst hl4
            obtain ⟨u, rfl, u1, u2, u3, u4, u5, u6, u7⟩ := d3
            have hpost4 : Post fl σ3 h3 nx3 w3 σ3 h4 nx3 { w3 with heap := w3.heap.setIfInBounds (w.alloc (.deferred (some []))).heap.size (.loop { u with state := .exhausted }) } :=
             Post.mk_obj hp3.holds hp3.fresh hflb (isSomeOf hb) d1 d2 hp4 ⟨_, rfl, rfl, u2, u3, u4, u5, u6, u7⟩
            have hbusy : (u.state == LoopState.busy) = false := by
             cases hs : u.state <;> first | rfl | (rw [hs] at u1; subst u1; cases hst)
            have hall := (post12.trans hp3).trans hpost4
            have hTR : TRel σ3 ⟨T.T, nx :: T.D, none⟩ nt { a with defers := [{ target := .collected w.heap.size, args := #[] }] ++ a.defers } := by
             have hn : σ3 nx = some ⟨w.heap.size, 0, 0⟩ := hp3.le _ _ (by rw [upd_other _ _ (by omega)]; exact upd_same _ _ _)
             exact ⟨⟨_, _, hn, rfl, HT.defers.mono (post12.le.trans hp3.le)⟩, HT.size, fun i => (HT.at_ i).mono (post12.le.trans hp3.le)⟩
            refine ⟨u.pending, { w3 with heap := w3.heap.setIfInBounds (w.alloc (.deferred (some []))).heap.size (.loop { u with state := .exhausted }) }, ?_, ?_⟩
            · simp only [Instr.endLoop, Instr.getLoop, Sem.run_bind, run_getObj d2 (fun _ _ _ h => by cases h), Result.andThen_ok, Sem.run_pure, hbusy, Bool.false_eq_true, if_false, run_setObj d2 (fun _ _ _ h => by cases h)]
            · have key : ∀ (pj : Option Code) (W4 : World), jumpEx pj = some ex → Post fl σ h nx w σ3 h4 nx3 W4 → (match pj with
               | none => (fun (e : Exit) (a' : Act) (w' : World) => ∃ ex T' h' nx' σ', ExR ex e ∧ G (k ex T' h' nx') ∧ TRel σ' T' nt a' ∧ T'.ro = T.ro ∧ Post fl σ h nx w σ' h' nx' w') Exit.normal { a with defers := [{ target := .collected w.heap.size, args := #[] }] ++ a.defers } W4
               | some c => c.wpIn (WF none) 0 P (fun (e : Exit) (a' : Act) (w' : World) => ∃ ex T' h' nx' σ', ExR ex e ∧ G (k ex T' h' nx') ∧ TRel σ' T' nt a' ∧ T'.ro = T.ro ∧ Post fl σ h nx w σ' h' nx' w') { a with defers := [{ target := .collected w.heap.size, args := #[] }] ++ a.defers } W4) := by
               intro pj W4 hex hW4
               unfold jumpEx at hex
               split at hex
               · cases hex
                 exact ⟨.normal, _, h4, nx3, σ3, trivial, hg4, hTR, hro.symm, hW4⟩
               · cases hex
                 exact wpIn_exit ⟨.exit _, _, h4, nx3, σ3, rfl, hg4, hTR, hro.symm, hW4⟩
               · cases hex
                 exact wpIn_ret ⟨.ret, _, h4, nx3, σ3, trivial, hg4, hTR, hro.symm, hW4⟩
               · cases hex
              exact key u.pending _ (by rw [u2]; exact hex) hall
          · exact absurd hg3 hf
       · exact absurd hg3 hf
   | _ => exact absurd hg hf
end
section
variable {P : Program} {tab : Tab} {β : Type} {fail : β} {G : β → Prop} (hf : ¬ G fail) (hT : TabOk P tab)
include hf hT
theorem evOp_flow {self : CodeFn} (hS : SoundC P tab self) {join : β → β → β} (hj : ∀ x y, G (join x y) → G x ∧ G y) {fl : Nat} {o : Oper} {T : Fr} {h : Tr EO} {nx : Nat} {k : EV → Tr EO → Nat → β} {σ : Sg} {a : Act} {w : World}
 (hg : G (evOp tab self fail join fl o T h nx k)) (hops : ∀ x ∈ o.op.operands.toList, OpRel σ T a x) (hgl : GlOk tab σ) (H : Holds σ h w) (F : Fresh σ nx) (hfl : fl ≤ nx) :
 Oper.flow P o a w fun v' w' => ∃ v h' nx' σ', VR σ' v v' ∧ Post fl σ h nx w σ' h' nx' w' ∧ G (k v h' nx') := by
 have stay : ∀ (e : EV) (e' : Value), (execOp a.eval o).run P w = .ok (.value e') w → VR σ e e' → G (k e h nx) → Oper.flow P o a w fun v' w' => ∃ v h' nx' σ', VR σ' v v' ∧ Post fl σ h nx w σ' h' nx' w' ∧ G (k v h' nx') :=
  fun e e' h1 h2 h3 => flow_value h1 ⟨e, h, nx, σ, h2, Post.refl H F, h3⟩
 unfold evOp at hg
 cases hop : o.op with
 | move x =>
  simp only [hop] at hg hops
  obtain ⟨v, hg, hv⟩ := evx_spec hf hg (hops x (by simp [Op.operands])) hgl
  exact stay v _ (by simp only [execOp, hop, Sem.run_pure]) hv hg
 | assign x =>
  simp only [hop] at hg hops
  obtain ⟨v, hg, hv⟩ := evx_spec hf hg (hops x (by simp [Op.operands])) hgl
  exact stay v _ (by simp only [execOp, hop, Sem.run_pure]) hv hg
 | pick c x y =>
  simp only [hop] at hg hops
  obtain ⟨vc, hg, hc⟩ := evx_spec hf hg (hops c (by simp [Op.operands])) hgl
  split at hg
  · rename_i b
    obtain ⟨vx, hg, hx⟩ := evx_spec hf hg (hops x (by simp [Op.operands])) hgl
    obtain ⟨vy, hg, hy⟩ := evx_spec hf hg (hops y (by simp [Op.operands])) hgl
    simp only [VR] at hc
    refine stay _ (if b then a.eval x else a.eval y) ?_ ?_ hg
    · simp only [execOp, hop, hc, asBool, Sem.run_bind, Sem.run_pure, Result.andThen_ok]
    · cases b
      · exact hy
      · exact hx
  · exact absurd hg hf
 | alloc e =>
  simp only [hop] at hg hops
  obtain ⟨v, h', nx', σ', v', w', h1, h2, h3, h4⟩ := allocE_spec hf hT hg H F hfl
  exact flow_value (by simp only [execOp, hop, Sem.run_bind, h1, Result.andThen_ok, Sem.run_pure]) ⟨v, h', nx', σ', h2, h3, h4⟩
 | box e x =>
  simp only [hop] at hg hops
  obtain ⟨vx, hg, hx⟩ := evx_spec hf hg (hops x (by simp [Op.operands])) hgl
  obtain ⟨v, h', nx', σ', v', w', h1, h2, h3, h4⟩ := boxE_spec (P := P) (t := e) hf hg hx H F hfl
  exact flow_value (by simp only [execOp, hop, Sem.run_bind, h1, Result.andThen_ok, Sem.run_pure]) ⟨v, h', nx', σ', h2, h3, h4⟩
 | build t ps =>
  simp only [hop] at hg hops
  obtain ⟨ps', hg, hps⟩ := evParts_spec (a := a) (σ := σ) hf hgl hg (fun x hx => hops x.2 (by simp [Op.operands]; exact ⟨x.1, by simpa using hx⟩))
  obtain ⟨e, e', h1, h2, h3⟩ := buildE_spec (w := w) (ps' := ps.map fun (i, x) => (i, a.eval x)) hf hT hg (by simpa using hps)
  exact stay e e' (by simp only [execOp, hop, Sem.run_bind, h1, Result.andThen_ok, Sem.run_pure]) h2 h3
 | buildSlice t len ps =>
  simp only [hop] at hg hops
  obtain ⟨ps', hg, hps⟩ := evParts_spec (a := a) (σ := σ) hf hgl hg (fun x hx => hops x.2 (by simp [Op.operands]; exact ⟨x.1, by simpa using hx⟩))
  obtain ⟨v, h', nx', σ', v', w', h1, h2, h3, h4⟩ := buildSliceE_spec (ps' := ps.map fun (i, x) => (i, a.eval x)) hf hT hg (by simpa using hps) H F hfl
  exact flow_value (by simp only [execOp, hop, Sem.run_bind, h1, Result.andThen_ok, Sem.run_pure]) ⟨v, h', nx', σ', h2, h3, h4⟩
 | load t x =>
  simp only [hop] at hg hops
  obtain ⟨vx, hg, hx⟩ := evx_spec hf hg (hops x (by simp [Op.operands])) hgl
  obtain ⟨e, ad, e', h1, h2, h3, h4⟩ := loadE_spec hf hT hg hx H
  exact stay e e' (by simp only [execOp, hop, Instr.loadAt, h1, Instr.sureAddr, Sem.run_bind, Sem.run_pure, h2, Result.andThen_ok]) h3 h4
 | store t x y =>
  simp only [hop] at hg hops
  obtain ⟨vx, hg, hx⟩ := evx_spec hf hg (hops x (by simp [Op.operands])) hgl
  obtain ⟨vy, hg, hy⟩ := evx_spec hf hg (hops y (by simp [Op.operands])) hgl
  obtain ⟨h', w', h1, h2, h3⟩ := storeE_spec hf hT hg hx hy H F
  exact flow_skip (by simp only [execOp, hop, Sem.run_bind, h1, Result.andThen_ok, Sem.run_pure]) ⟨_, h', nx, σ, undefE_spec σ, h2, h3⟩
 | nilCheck x =>
  simp only [hop] at hg hops
  obtain ⟨vx, hg, hx⟩ := evx_spec hf hg (hops x (by simp [Op.operands])) hgl
  obtain ⟨e, e', h1, h2, h3⟩ := nilCheckE_spec (P := P) (w := w) hf hop hg hx
  exact stay e e' h1 h2 h3
 | binOp op t x y yt =>
  simp only [hop] at hg hops
  obtain ⟨vx, hg, hx⟩ := evx_spec hf hg (hops x (by simp [Op.operands])) hgl
  obtain ⟨vy, hg, hy⟩ := evx_spec hf hg (hops y (by simp [Op.operands])) hgl
  obtain ⟨e, e', h1, h2, h3⟩ := binO_spec (P := P) (xo := x) (yo := y) (w := w) hf hT hg hx hy
  refine stay e e' ?_ h2 h3
  simp only [execOp, hop]
  rw [Sem.run_bind, h1]
  rfl
 | unOp op t x =>
  simp only [hop] at hg hops
  obtain ⟨vx, hg, hx⟩ := evx_spec hf hg (hops x (by simp [Op.operands])) hgl
  obtain ⟨e, e', h1, h2, h3⟩ := unE_spec (P := P) (w := w) hf hg hx
  exact stay e e' (by simp only [execOp, hop, Sem.run_bind, h1, Result.andThen_ok, Sem.run_pure]) h2 h3
 | convert src dst x =>
  simp only [hop] at hg hops
  obtain ⟨vx, hg, hx⟩ := evx_spec hf hg (hops x (by simp [Op.operands])) hgl
  cases hcv : cvB tab (.convert src dst x) with
  | true =>
   rw [hcv] at hg
   simp only [cond_true] at hg
   split at hg
   · simp only [VR] at hx
     obtain ⟨v, h', nx', σ', v', w', h1, h2, h3, h4⟩ := toBytesE_spec (P := P) hf hT hg H F hfl
     exact flow_value (by simp only [execOp, hop, hx, Sem.run_bind, h1, Result.andThen_ok, Sem.run_pure]) ⟨v, h', nx', σ', h2, h3, h4⟩
   · obtain ⟨h', w', h1, h2, h3⟩ := markE_spec (P := P) hf hT hg hx H F
     exact flow_value (by simp only [execOp, hop, Sem.run_bind, h1, Result.andThen_ok, Sem.run_pure]) ⟨_, h', nx, σ, hx, h2, h3⟩
  | false =>
   rw [hcv] at hg
   simp only [cond_false] at hg
   split at hg
   · obtain ⟨e, e', h1, h2, h3⟩ := toStrE_spec (P := P) hf hT hg hx H
     exact stay e e' (by simp only [execOp, hop, Sem.run_bind, h1, Result.andThen_ok, Sem.run_pure]) h2 h3
   · obtain ⟨e, e', h1, h2, h3⟩ := toStrE_spec (P := P) hf hT hg hx H
     exact stay e e' (by simp only [execOp, hop, Sem.run_bind, h1, Result.andThen_ok, Sem.run_pure]) h2 h3
   · obtain ⟨e, e', h1, h2, h3⟩ := convE_spec (P := P) (w := w) hf hT hg hx
     exact stay e e' (by simp only [execOp, hop, Sem.run_bind, h1, Result.andThen_ok, Sem.run_pure]) h2 h3
 | makeFunc fn first cap =>
  simp only [hop] at hg hops
  cases fn with
  | func f =>
   simp only at hg
   obtain ⟨v1, hg, q1⟩ := evxs_spec (a := a) (σ := σ) hf hgl hg (fun x hx => hops x (by simp [Op.operands]; exact .inl (by simpa using hx)))
   obtain ⟨v2, hg, q2⟩ := evxs_spec (a := a) (σ := σ) hf hgl hg (fun x hx => hops x (by simp [Op.operands]; exact .inr (by simpa using hx)))
   refine stay _ (.func (.func f) (first.map a.eval) (cap.map a.eval)) ?_ ?_ hg
   · simp only [execOp, hop, Instr.makeFunc, Sem.run_bind, Sem.run_pure, Result.andThen_ok]
   · simp only [VR]; exact ⟨_, _, rfl, by simpa using q1, by simpa using q2⟩
  | _ => exact absurd hg hf
 | makeMap t r =>
  simp only [hop] at hg hops
  cases r with
  | some _ => exact absurd hg hf
  | none =>
   simp only [newB] at hg
   obtain ⟨h', hp, hg⟩ := Tr.put_spec hf _ _ _ _ hg
   refine flow_value (v := .map (some w.heap.size)) (w' := w.alloc (.map #[] 0)) ?_ ⟨_, h', Nat.succ nx, upd σ nx ⟨w.heap.size, 0, 0⟩, ?_, ?_, hg⟩
   · simp [execOp, hop, Instr.makeMap, newObj, Sem.run]
   · simp only [VR]; exact ⟨_, upd_same _ _ _, rfl⟩
   · exact Post.mk_new H F hfl hp rfl rfl rfl rfl ⟨#[], rfl, by simp [ER]⟩
 | makeSlice t l c =>
  simp only [hop] at hg hops
  obtain ⟨vl, hg, hl⟩ := evx_spec hf hg (hops l (by simp [Op.operands])) hgl
  obtain ⟨vc, hg, hc⟩ := evx_spec hf hg (hops c (by simp [Op.operands])) hgl
  obtain ⟨v, h', nx', σ', v', w', h1, h2, h3, h4⟩ := makeSliceE_spec hf hT hg hl hc H F hfl
  exact flow_value (by simp only [execOp, hop, Sem.run_bind, h1, Result.andThen_ok, Sem.run_pure]) ⟨v, h', nx', σ', h2, h3, h4⟩
 | slice t x lo hi mx =>
  simp only [hop] at hg hops
  obtain ⟨vx, hg, hx⟩ := evx_spec hf hg (hops x (by simp [Op.operands])) hgl
  obtain ⟨v1, hg, q1⟩ := evOpt_spec (a := a) (σ := σ) hf hg (fun y hy => hops y (by subst hy; simp [Op.operands])) hgl
  obtain ⟨v2, hg, q2⟩ := evOpt_spec (a := a) (σ := σ) hf hg (fun y hy => hops y (by subst hy; simp [Op.operands])) hgl
  obtain ⟨v3, hg, q3⟩ := evOpt_spec (a := a) (σ := σ) hf hg (fun y hy => hops y (by subst hy; simp [Op.operands])) hgl
  obtain ⟨e, e', h1, h2, h3⟩ := sliceE_spec hf hT hg hx q1 q2 q3 H
  exact stay e e' (by simp only [execOp, hop, Sem.run_bind, h1, Result.andThen_ok, Sem.run_pure]) h2 h3
 | fieldAddr s x f =>
  simp only [hop] at hg hops
  obtain ⟨vx, hg, hx⟩ := evx_spec hf hg (hops x (by simp [Op.operands])) hgl
  obtain ⟨e, e', h1, h2, h3⟩ := fieldAddrE_spec (w := w) hf hT hg hx
  exact stay e e' (by simp only [execOp, hop, Sem.run_bind, h1, Result.andThen_ok, Sem.run_pure]) h2 h3
 | field s x f =>
  simp only [hop] at hg hops
  obtain ⟨vx, hg, hx⟩ := evx_spec hf hg (hops x (by simp [Op.operands])) hgl
  obtain ⟨e, e', h1, h2, h3⟩ := fieldE_spec (w := w) hf hT hg hx
  exact stay e e' (by simp only [execOp, hop, Sem.run_bind, h1, Result.andThen_ok, Sem.run_pure]) h2 h3
 | indexAddr t x i =>
  simp only [hop] at hg hops
  obtain ⟨vx, hg, hx⟩ := evx_spec hf hg (hops x (by simp [Op.operands])) hgl
  obtain ⟨vi, hg, hi⟩ := evx_spec hf hg (hops i (by simp [Op.operands])) hgl
  obtain ⟨e, e', h1, h2, h3⟩ := indexAddrE_spec (w := w) hf hT hg hx hi
  exact stay e e' (by simp only [execOp, hop, Sem.run_bind, h1, Result.andThen_ok, Sem.run_pure]) h2 h3
 | index t x i =>
  simp only [hop] at hg hops
  obtain ⟨vx, hg, hx⟩ := evx_spec hf hg (hops x (by simp [Op.operands])) hgl
  obtain ⟨vi, hg, hi⟩ := evx_spec hf hg (hops i (by simp [Op.operands])) hgl
  obtain ⟨e, e', h1, h2, h3⟩ := indexE_spec (w := w) hf hT hg hx hi
  exact stay e e' (by simp only [execOp, hop, Sem.run_bind, h1, Result.andThen_ok, Sem.run_pure]) h2 h3
 | lookup t x i ok =>
  simp only [hop] at hg hops
  obtain ⟨vx, hg, hx⟩ := evx_spec hf hg (hops x (by simp [Op.operands])) hgl
  obtain ⟨vi, hg, hi⟩ := evx_spec hf hg (hops i (by simp [Op.operands])) hgl
  obtain ⟨e, e', h1, h2, h3⟩ := lookupE_spec hf hT hg hx hi H
  exact stay e e' (by simp only [execOp, hop, Sem.run_bind, h1, Result.andThen_ok, Sem.run_pure]) h2 h3
 | mapUpdate t m i y =>
  simp only [hop] at hg hops
  obtain ⟨vm, hg, hm⟩ := evx_spec hf hg (hops m (by simp [Op.operands])) hgl
  obtain ⟨vi, hg, hi⟩ := evx_spec hf hg (hops i (by simp [Op.operands])) hgl
  obtain ⟨vy, hg, hy⟩ := evx_spec hf hg (hops y (by simp [Op.operands])) hgl
  obtain ⟨h', w', h1, h2, h3⟩ := mapUpdateE_spec hf hT hg hm hi hy H F
  exact flow_skip (by simp only [execOp, hop, Sem.run_bind, h1, Result.andThen_ok, Sem.run_pure]) ⟨_, h', nx, σ, undefE_spec σ, h2, h3⟩
 | insert t m i y =>
  simp only [hop] at hg hops
  obtain ⟨vm, hg, hm⟩ := evx_spec hf hg (hops m (by simp [Op.operands])) hgl
  obtain ⟨vi, hg, hi⟩ := evx_spec hf hg (hops i (by simp [Op.operands])) hgl
  obtain ⟨vy, hg, hy⟩ := evx_spec hf hg (hops y (by simp [Op.operands])) hgl
  obtain ⟨h', w', h1, h2, h3⟩ := mapUpdateE_spec hf hT hg hm hi hy H F
  exact flow_skip (by simp only [execOp, hop, Sem.run_bind, h1, Result.andThen_ok, Sem.run_pure]) ⟨_, h', nx, σ, undefE_spec σ, h2, h3⟩
 | extract x i =>
  simp only [hop] at hg hops
  obtain ⟨vx, hg, hx⟩ := evx_spec hf hg (hops x (by simp [Op.operands])) hgl
  obtain ⟨e, e', h1, h2, h3⟩ := extractE_spec (P := P) (w := w) hf hg hx
  exact stay e e' (by simp only [execOp, hop, Sem.run_bind, h1, Result.andThen_ok, Sem.run_pure]) h2 h3
 | range t x =>
  simp only [hop] at hg hops
  obtain ⟨vx, hg, hx⟩ := evx_spec hf hg (hops x (by simp [Op.operands])) hgl
  obtain ⟨kt, et, ei, hu, hty, hg⟩ := mapT_spec hf hT hg
  split at hg
  · simp only [VR] at hx
    simp only [newB] at hg
    obtain ⟨h', hp, hg⟩ := Tr.put_spec hf _ _ _ _ hg
    refine flow_value (v := .pointer (some ⟨w.heap.size, 0, none⟩)) (w' := w.alloc (.mapIter none 0 #[] 0)) ?_ ⟨_, h', Nat.succ nx, upd σ nx ⟨w.heap.size, 0, 0⟩, ?_, ?_, hg⟩
    · simp only [execOp, hop, hx, Sem.run_bind, run_range_nilMap w t kt et hu, Result.andThen_ok, Sem.run_pure]
    · simp only [VR]; exact ⟨_, upd_same _ _ _, rfl⟩
    · exact Post.mk_new H F hfl hp rfl rfl rfl rfl ⟨none, rfl, .inl ⟨rfl, rfl⟩⟩
  · rename_i b hgo
    clear hgo
    split at hg
    · rename_i es clock hb
      simp only [VR] at hx
      obtain ⟨l, hl, hx⟩ := hx
      obtain ⟨l', ob, e1, e2, e3⟩ := H.there b _ hb
      rw [hl] at e1; cases e1
      obtain ⟨ms, rfl, hms⟩ := e3
      simp only [newB] at hg
      obtain ⟨h', hp, hg⟩ := Tr.put_spec hf _ _ _ _ hg
      refine flow_value (v := .pointer (some ⟨w.heap.size, 0, none⟩)) (w' := w.alloc (.mapIter (some l.blk) clock #[] clock)) ?_ ⟨_, h', Nat.succ nx, upd σ nx ⟨w.heap.size, 0, 0⟩, ?_, ?_, hg⟩
      · simp only [execOp, hop, hx, Sem.run_bind, run_range_map w t kt et l.blk ms clock hu e2, Result.andThen_ok, Sem.run_pure]
      · simp only [VR]; exact ⟨_, upd_same _ _ _, rfl⟩
      · exact Post.mk_new H F hfl hp rfl rfl rfl rfl ⟨some l.blk, rfl, .inr ⟨b, l, rfl, by rw [upd_other _ _ (fun e => by rw [e, F nx (Nat.le_refl _)] at hl; cases hl)]; exact hl, rfl⟩⟩
    · exact absurd hg hf
  · exact absurd hg hf
 | next x s =>
  simp only [hop] at hg hops
  cases s with
  | true => exact absurd hg hf
  | false =>
   simp only [cond_false] at hg
   obtain ⟨vx, hg, hx⟩ := evx_spec hf hg (hops x (by simp [Op.operands])) hgl
   split at hg
   · rename_i r
     simp only [VR] at hx
     obtain ⟨l, hl, hx⟩ := hx
     split at hg
     · rename_i s1 s2 s3 hb
       obtain ⟨l', ob, e1, e2, e3⟩ := H.there r _ hb
       rw [hl] at e1; cases e1
       obtain ⟨m', rfl, hm⟩ := e3
       have hm' : m' = none := by
        rcases hm with ⟨_, h⟩ | ⟨_, _, h, _⟩
        · exact h
        · cases h
       subst hm'
       refine stay _ (.tuple #[.bool false]) ?_ (by simp only [VR]; exact ⟨_, rfl, VRs.cons (by simp only [VR]) VRs.nil⟩) hg
       simp only [execOp, hop, hx, Instr.next, Sem.run_bind, run_getObj e2 (fun _ _ _ h => by cases h), Result.andThen_ok, Sem.run_pure]
     · rename_i m since seen last hb
       split at hg
       · rename_i es clock hbm
         cases hq : (es.all (fun e => Nat.blt e.2.2 since) && Nat.ble since last) with
         | false => rw [hq] at hg; exact absurd hg hf
         | true =>
          rw [hq] at hg
          simp only [cond_true] at hg
          rw [Bool.and_eq_true] at hq
          obtain ⟨l', ob, e1, e2, e3⟩ := H.there r _ hb
          rw [hl] at e1; cases e1
          obtain ⟨m', rfl, hm⟩ := e3
          obtain ⟨lm, obm, c1, c2, c3⟩ := H.there m _ hbm
          obtain ⟨ms, rfl, hms⟩ := c3
          have hm' : m' = some lm.blk := by
           rcases hm with ⟨h, _⟩ | ⟨b, lb, h1, h2, h3⟩
           · cases h
           · cases h1; rw [c1] at h2; cases h2; exact h3
          subst hm'
          have hold : ∀ y ∈ ms.toList, y.born < since := fun y hy => by
           obtain ⟨e, he, _, _, h3⟩ := hms.mem y hy
           have := List.all_eq_true.1 hq.1 e he
           rw [h3]; simpa [Nat.blt, Nat.succ_le_iff] using this
          have hfil : ER σ (es.filter fun e => not (inL e.2.2 seen)) (leftOf ms seen.toArray).toList := by
           have := hms.filter (p := fun n => not (inL n seen))
           unfold leftOf
           have hfun : (fun e : MapEntry => !seen.toArray.contains e.born) = fun e => not (inL e.born seen) := by funext e; simp [inL_eq]
           rw [Array.toList_filter, hfun]
           exact this
          rcases run_next_at (P := P) w o.type l.blk lm.blk since last seen.toArray ms clock e2 c2 hold (Nat.le_of_ble_eq_true hq.2) with ⟨h0, hrun⟩ | ⟨e, he, w1, hw1, hrun⟩
          · have hnil : (es.filter fun e => not (inL e.2.2 seen)) = [] := by
             have h1 := hfil.len
             have h2 : (leftOf ms seen.toArray).toList.length = 0 := by simpa using h0
             exact List.eq_nil_of_length_eq_zero (h1.trans h2)
            rw [hnil] at hg
            refine stay _ (.tuple #[.bool false]) ?_ (by simp only [VR]; exact ⟨_, rfl, VRs.cons (by simp only [VR]) VRs.nil⟩) hg
            simp only [execOp, hop, hx, Sem.run_bind, hrun, Result.andThen_ok, Sem.run_pure]
          · obtain ⟨e', he', k1, k2, k3⟩ := hfil.mem e he
            split at hg
            · rename_i hnil; rw [hnil] at he'; cases he'
            · rename_i y ys hys
              rw [← hys] at hg
              have hg := nextE_spec hj hg e' he'
              obtain ⟨hflb, h', hp, hg⟩ := setB_spec hf hg
              have hw1h : w1.heap = w.heap := by rcases hw1 with rfl | rfl <;> rfl
              have hw1o : w1.os = w.os ∧ w1.tape = w.tape ∧ w1.output = w.output := by rcases hw1 with rfl | rfl <;> exact ⟨rfl, rfl, rfl⟩
              refine flow_value (v := .tuple #[.bool true, e.key, e.val]) (w' := Go.ChangeMaps.setBlock w1 l.blk (.mapIter (some lm.blk) since (seen.toArray.push e.born) clock)) ?_ ⟨_, h', nx, σ, ?_, ?_, hg⟩
              · simp only [execOp, hop, hx, Sem.run_bind, hrun, Result.andThen_ok, Sem.run_pure]
              · simp only [VR]; exact ⟨_, rfl, VRs.cons (by simp only [VR]) (VRs.cons k1 (VRs.cons k2 VRs.nil))⟩
              · refine Post.mk_set H F hflb (isSomeOf hb) hl hp (ob := .mapIter (some lm.blk) since (seen.toArray.push e.born) clock) ?_ (fun q hq => ?_) ?_ hw1o.1 hw1o.2.1 hw1o.2.2 ⟨some lm.blk, by rw [k3]; simp, .inr ⟨m, lm, rfl, c1, rfl⟩⟩
                · show (w1.heap.setIfInBounds l.blk _)[l.blk]? = _
                  have := (Array.getElem?_eq_some_iff.1 e2).1
                  rw [hw1h, Array.getElem?_setIfInBounds, if_pos rfl, if_pos this]
                · show (w1.heap.setIfInBounds l.blk _)[q]? = _
                  rw [hw1h, Array.getElem?_setIfInBounds, if_neg (fun e => hq e.symm)]
                · show (w1.heap.setIfInBounds l.blk _).size = _
                  rw [hw1h]; simp
       · exact absurd hg hf
     · exact absurd hg hf
   · exact absurd hg hf
 | entry x =>
  simp only [hop] at hg hops
  obtain ⟨vx, hg, hx⟩ := evx_spec hf hg (hops x (by simp [Op.operands])) hgl
  split at hg
  · rename_i r
    simp only [VR] at hx
    obtain ⟨l, hl, hx⟩ := hx
    split at hg
    · rename_i m since seen last hb
      split at hg
      · rename_i es clock hbm
        cases hq : Nat.beq clock last with
        | false => rw [hq] at hg; exact absurd hg hf
        | true =>
         rw [hq] at hg
         simp only [cond_true] at hg
         have hcl := Nat.eq_of_beq_eq_true hq
         split at hg
         · rename_i n hn
           split at hg
           · rename_i e he
             obtain ⟨l', ob, e1, e2, e3⟩ := H.there r _ hb
             rw [hl] at e1; cases e1
             obtain ⟨m', rfl, hm⟩ := e3
             obtain ⟨lm, obm, c1, c2, c3⟩ := H.there m _ hbm
             obtain ⟨ms, rfl, hms⟩ := c3
             have hm' : m' = some lm.blk := by
              rcases hm with ⟨h, _⟩ | ⟨b, lb, h1, h2, h3⟩
              · cases h
              · cases h1; rw [c1] at h2; cases h2; exact h3
             subst hm'
             obtain ⟨y, y1, y2, y3⟩ := hms.born he
             have hfind : ms.find? (fun z => z.born == n) = some y := by rw [← Array.find?_toList]; exact y1
             have hback : seen.toArray.back? = some n := by simpa using hn
             refine stay _ (.tuple #[y.key, y.val]) ?_ (by simp only [VR]; exact ⟨_, rfl, VRs.cons y2 (VRs.cons y3 VRs.nil)⟩) hg
             subst hcl
             simp only [execOp, hop, hx, Instr.entry, Sem.run_bind, run_getObj e2 (fun _ _ _ h => by cases h), run_getObj c2 (fun _ _ _ h => by cases h), Result.andThen_ok, hback, bne_self_eq_false, Bool.false_eq_true, if_false, hfind, Sem.run_pure]
           · exact absurd hg hf
         · exact absurd hg hf
      · exact absurd hg hf
    · exact absurd hg hf
  · exact absurd hg hf
 | call c =>
  simp only [hop] at hg hops
  cases hc : c.callee with
  | value f =>
   simp only [hc] at hg
   obtain ⟨vf, hg, q1⟩ := evx_spec (a := a) (σ := σ) hf hg (hops f (by simp [Op.operands, Call.operands, hc])) hgl
   obtain ⟨va, hg, q2⟩ := evxs_spec (a := a) (σ := σ) hf hgl hg (fun x hx => hops x (by simp [Op.operands, Call.operands, hc]; exact .inr (by simpa using hx)))
   cases vf with
   | func fid first cap =>
    simp only at hg
    simp only [VR] at q1
    obtain ⟨x1, x2, e1, q3, q4⟩ := q1
    have hcall := callM_spec (args' := x1 ++ c.args.map a.eval ++ x2) hf hT hS hj hg (by simpa [Array.toList_append] using (q3.app q2).app q4) hgl H F hfl
    unfold Oper.flow
    have : (execOp a.eval o).run P w = (callFunc fid (x1 ++ c.args.map a.eval ++ x2)).run P w := by
     simp only [execOp, hop, resolve, hc, e1, Deferred.ofValue, Sem.run_bind, Sem.run_pure, Result.andThen_ok, invoke]
    rw [this]
    unfold callFlow at hcall
    generalize (callFunc fid (x1 ++ c.args.map a.eval ++ x2)).run P w = res at hcall
    cases res with
    | halt _ _ => exact hcall.elim
    | ok n w' => cases n <;> first | exact hcall | exact hcall.elim
   | yld b =>
    simp only at hg
    simp only [VR] at q1
    obtain ⟨loc, hloc, e1⟩ := q1
    obtain ⟨f', tmps, aw, body, hrun, hround⟩ := yieldE_spec (args' := c.args.map a.eval) hf hS hj hg (by simpa using q2) hloc hgl H F hfl
    unfold Oper.flow
    have : (execOp a.eval o).run P w = .ok (.round loc.blk f' tmps aw body) w := by
     simp only [execOp, hop, resolve, hc, e1, Deferred.ofValue, Sem.run_bind, Sem.run_pure, Result.andThen_ok, invoke, Array.empty_append, hrun]
    rw [this]
    exact hround
   | _ => exact absurd hg hf
  | builtin b =>
   simp only [hc] at hg
   obtain ⟨va, hg, q2⟩ := evxs_spec (a := a) (σ := σ) hf hgl hg (fun x hx => hops x (by simp [Op.operands, Call.operands, hc]; simpa using hx))
   obtain ⟨cs, hrun⟩ : ∃ cs, (execOp a.eval o).run P w = (builtin b c.argTypes o.type cs (c.args.map a.eval)).run P w := by
    simp only [execOp, hop, resolve, hc, Sem.run_bind, Sem.run_pure, Result.andThen_ok, invoke]
    exact ⟨_, rfl⟩
   unfold builtinE at hg
   cases hts : c.argTypes.toList with
   | nil => simp only [hts] at hg; exact absurd hg hf
   | cons t ts =>
    simp only [hts] at hg
    have hat : c.argTypes = (t :: ts).toArray := by rw [← hts]
    cases b <;> simp only at hg <;> first | exact absurd hg hf | skip
    case append =>
     split at hg
     · rename_i s x t2 u hts2
       cases hts2
       simp only [VRs] at q2
       obtain ⟨s', m1, h1, q3, x', m2, h2, q4, h3⟩ := q2
       subst h2; subst h3
       cases htu : Nat.beq t u with
       | false => rw [htu] at hg; exact absurd hg hf
       | true =>
        rw [htu] at hg
        have := Nat.eq_of_beq_eq_true htu
        subst this
        have harg : c.args.map a.eval = #[s', x'] := by
         apply Array.ext'; simpa using h1
        obtain ⟨v, h', nx', σ', v', w', h1, h2, h3, h4⟩ := appendE_spec (ty := o.type) hf hT hg q3 q4 H F hfl
        refine flow_value (v := v') (w' := w') ?_ ⟨v, h', nx', σ', h2, h3, h4⟩
        rw [hrun, hat, harg]
        simp only [builtin, Sem.run_bind, h1, Result.andThen_ok, Sem.run_pure]
     · exact absurd hg hf
    case delete =>
     split at hg
     · rename_i m key
       simp only [VRs] at q2
       obtain ⟨m', m1, h1, q3, k', m2, h2, q4, h3⟩ := q2
       subst h2; subst h3
       have harg : c.args.map a.eval = #[m', k'] := by
        apply Array.ext'; simpa using h1
       obtain ⟨h', w', h1, h2, h3⟩ := deleteE_spec (ty := o.type) (ts := c.argTypes) hf hT (by rw [hat]; rfl) hg q3 q4 H F
       refine flow_value (v := undef) (w' := w') ?_ ⟨_, h', nx, σ, undefE_spec σ, h2, h3⟩
       rw [hrun, harg]
       simp only [builtin, Sem.run_bind, h1, Result.andThen_ok, Sem.run_pure]
       rfl
     · exact absurd hg hf
    case clear =>
     split at hg
     · rename_i v
       simp only [VRs] at q2
       obtain ⟨v', m1, h1, q3, h3⟩ := q2
       subst h3
       have harg : c.args.map a.eval = #[v'] := by
        apply Array.ext'; simpa using h1
       obtain ⟨h', w', h1, h2, h3⟩ := clearE_spec (ty := o.type) (ts := c.argTypes) hf hT (by rw [hat]; rfl) hg q3 H F
       refine flow_value (v := undef) (w' := w') ?_ ⟨_, h', nx, σ, undefE_spec σ, h2, h3⟩
       rw [hrun, harg]
       simp only [builtin, Sem.run_bind, h1, Result.andThen_ok, Sem.run_pure]
       rfl
     · exact absurd hg hf
    case copy =>
     split at hg
     · rename_i v x
       simp only [VRs] at q2
       obtain ⟨v', m1, h1, q3, x', m2, h2, q4, h3⟩ := q2
       subst h2; subst h3
       have harg : c.args.map a.eval = #[v', x'] := by
        apply Array.ext'; simpa using h1
       obtain ⟨n, h', w', h1, h2, h3⟩ := copyE_spec (ty := o.type) (ts := c.argTypes) hf hT (by rw [hat]; rfl) hg q3 q4 H F
       refine flow_value (v := .int .i64 (Int.ofNat n)) (w' := w') ?_ ⟨_, h', nx, σ, by simp only [VR], h2, h3⟩
       rw [hrun, harg]
       simp only [builtin, Sem.run_bind, h1, Result.andThen_ok, Sem.run_pure]
     · exact absurd hg hf
    case max =>
     split at hg
     · rename_i ki x kj y
       cases hk : ikEq ki kj with
       | false => rw [hk] at hg; exact absurd hg hf
       | true =>
        rw [hk] at hg
        have := ikEq_eq hk
        subst this
        simp only [VRs, VR] at q2
        obtain ⟨_, m1, h1, rfl, _, m2, rfl, rfl, rfl⟩ := q2
        have harg : c.args.map a.eval = #[.int ki x, .int ki y] := by
         apply Array.ext'; simpa using h1
        refine stay _ (.int ki (bif ltInt x y then y else x)) ?_ (by simp only [VR]) hg
        rw [hrun, harg]
        simp only [builtin]
        rw [run_max2]
     · exact absurd hg hf
    case min =>
     split at hg
     · rename_i ki x kj y
       cases hk : ikEq ki kj with
       | false => rw [hk] at hg; exact absurd hg hf
       | true =>
        rw [hk] at hg
        have := ikEq_eq hk
        subst this
        simp only [VRs, VR] at q2
        obtain ⟨_, m1, h1, rfl, _, m2, rfl, rfl, rfl⟩ := q2
        have harg : c.args.map a.eval = #[.int ki x, .int ki y] := by
         apply Array.ext'; simpa using h1
        refine stay _ (.int ki (bif ltInt y x then y else x)) ?_ (by simp only [VR]) hg
        rw [hrun, harg]
        simp only [builtin]
        rw [run_min2]
     · exact absurd hg hf
    case cap =>
     split at hg
     · rename_i v
       simp only [VRs] at q2
       obtain ⟨v', m1, h1, q3, h3⟩ := q2
       subst h3
       have harg : c.args.map a.eval = #[v'] := by
        apply Array.ext'; simpa using h1
       cases hti : tab.ty.get t with
       | none => simp only [hti] at hg; exact absurd hg hf
       | some i =>
        simp only [hti] at hg
        obtain ⟨e, e', h1, h2, h3⟩ := capE_spec (P := P) (w := w) (ty := o.type) hf (hT.ty t i hti).und hg q3
        refine stay e e' ?_ h2 h3
        rw [hrun, harg]
        have hl : (Builtin.cap_ c.argTypes o.type #[v']) = Builtin.cap_ #[t] o.type #[v'] := by rw [hat]; rfl
        simp only [builtin, hl, Sem.run_bind, h1, Result.andThen_ok, Sem.run_pure]
     · exact absurd hg hf
    case len =>
     split at hg
     · rename_i v
       simp only [VRs] at q2
       obtain ⟨v', m1, h1, q3, h3⟩ := q2
       subst h3
       have harg : c.args.map a.eval = #[v'] := by
        apply Array.ext'; simpa using h1
       cases hti : tab.ty.get t with
       | none => simp only [hti] at hg; exact absurd hg hf
       | some i =>
        simp only [hti] at hg
        obtain ⟨e, e', h1, h2, h3⟩ := lenE_spec (P := P) (ty := o.type) hf (hT.ty t i hti).und hg q3 H
        refine stay e e' ?_ h2 h3
        rw [hrun, harg]
        have hl : (Builtin.len_ c.argTypes o.type #[v']) = Builtin.len_ #[t] o.type #[v'] := by rw [hat]; rfl
        simp only [builtin, hl, Sem.run_bind, h1, Result.andThen_ok, Sem.run_pure]
     · exact absurd hg hf
  | _ => simp only [hc] at hg; exact absurd hg hf
 | _ => simp only [hop] at hg; exact absurd hg hf
end
end Go.Proofs.YtendekbckfpmgaaGreat
namespace Go.Proofs.YtendekbckfpmgaaGreat
open Go Go.RowKit
theorem wantedE_spec {ops : Array Oper} {T : Fr} {o : Oper} {b : Bool} {σ : Sg} {a : Act} (h : wantedE ops T o = some b)
 (hr : ∀ j want p d, o.guard = some (j, want) → ops[j]? = some p → p.dst = some d → VR σ ((T.get d).getD undefE) (a.tmps.getD d undef)) : Region.wanted o (yielded ops a.tmps) = b := by
 unfold wantedE at h
 unfold Region.wanted
 cases hg : o.guard with
 | none => simp only [hg, Option.some.injEq] at h ⊢; exact h
 | some g =>
  obtain ⟨j, want⟩ := g
  simp only [hg] at h ⊢
  cases hj : ops[j]? with
  | none =>
   simp only [hj, Option.some.injEq] at h
   subst h
   simp [yielded, hj]
  | some p =>
   simp only [hj] at h
   cases hd : p.dst with
   | none =>
    simp only [hd, Option.some.injEq] at h
    subst h
    simp [yielded, hj, hd]
   | some d =>
    have hv := hr j want p d hg hj hd
    simp only [hd] at h
    have hy : ∀ v, a.tmps.getD d undef = v → (∀ c, v ≠ .bool c) → yielded ops a.tmps j = none := by
     intro v e hn
     unfold yielded
     simp only [hj, hd, Option.bind_some]
     cases ht : a.tmps[d]? with
     | none => rfl
     | some u =>
      have : a.tmps.getD d undef = u := by simp [ht]
      rw [this] at e
      subst e
      cases u <;> first | rfl | exact absurd rfl (hn _)
    split at h
    · rename_i c hT
      simp only [hT, Option.getD_some, VR] at hv
      simp only [Option.some.injEq] at h
      have : yielded ops a.tmps j = some c := by
       unfold yielded
       simp only [hj, hd, Option.bind_some]
       cases ht : a.tmps[d]? with
       | none => simp [ht] at hv; cases hv
       | some u =>
        have : u = .bool c := by simpa [ht] using hv
        subst this; rfl
      rw [this, ← h]
      cases c <;> cases want <;> rfl
    · rename_i hT
      simp only [hT, Option.getD_some, VR, VRs] at hv
      simp only [Option.some.injEq] at h
      obtain ⟨x, hx, _⟩ := hv
      rw [hy _ hx (fun c => by simp)]
      subst h; rfl
    · rename_i hT
      simp only [hT, Option.getD_none, undefE, VR, VRs] at hv
      simp only [Option.some.injEq] at h
      obtain ⟨x, hx, _⟩ := hv
      rw [hy _ hx (fun c => by simp)]
      subst h; rfl
    · cases h
section
variable {P : Program} {tab : Tab} {β : Type} {fail : β} {G : β → Prop} (hf : ¬ G fail)
include hf
theorem putD_spec {nt : Nat} {d : Option Nat} {v : EV} {T : Fr} {k : Fr → β} (hg : G (putD fail nt d v T k)) :
 ∃ T' : Fr, G (k T') ∧ (∀ x, T'.get x = if d = some x then some v else T.get x) ∧ (∀ x, d = some x → x < nt) ∧ T'.D = T.D ∧ T'.ro = T.ro := by
 unfold putD at hg
 cases d with
 | none => exact ⟨T, hg, fun x => by simp, fun x h => (by cases h), rfl, rfl⟩
 | some d =>
  simp only at hg
  cases hb : Nat.ble (Nat.succ d) nt with
  | false => rw [hb] at hg; exact absurd hg hf
  | true =>
   rw [hb] at hg
   obtain ⟨T', hT, hg⟩ := Tr.put_spec hf _ _ _ _ hg
   refine ⟨_, hg, fun x => ?_, fun x h => ?_, rfl, rfl⟩
   · show T'.get x = if some d = some x then some v else T.T.get x
     rw [hT]
     by_cases e : x = d
     · subst e; simp
     · rw [if_neg e, if_neg (fun h => e (Option.some.inj h).symm)]
   · cases h; exact Nat.le_of_ble_eq_true hb
omit hf in
theorem TRel.put {σ : Sg} {T T' : Fr} {nt : Nat} {a : Act} {d : Option Nat} {v : EV} {v' : Value} (H : TRel σ T nt a) (hv : VR σ v v') (hT : ∀ x, T'.get x = if d = some x then some v else T.get x) (hd : ∀ x, d = some x → x < nt) (hD : T'.D = T.D) :
 TRel σ T' nt (a.put d v') := by
 refine ⟨?_, ?_, fun i => ?_⟩
 · rw [hD]; cases d <;> exact H.defers
 · cases d with
   | none => exact H.size
   | some d => simp [Act.put, H.size]
 · rw [hT]
   cases d with
   | none => simp only [reduceCtorEq, if_false]; exact H.at_ i
   | some d =>
    have hlt : d < a.tmps.size := by rw [H.size]; exact hd d rfl
    by_cases e : d = i
    · subst e
      simp only [if_true, Option.getD_some]
      simp [Act.put, hlt]
      exact hv
    · have e' : ¬ (some d = some i) := fun h => e (Option.some.inj h)
      rw [if_neg e']
      have : (a.put (some d) v').tmps.getD i undef = a.tmps.getD i undef := by
       simp only [Act.put, Array.getD_eq_getD_getElem?, Array.getElem?_setIfInBounds]
       rw [if_neg e]
      rw [this]; exact H.at_ i
theorem evOp_nodefer {self : CodeFn} {join : β → β → β} {fl : Nat} {o : Oper} {T : Fr} {h : Tr EO} {nx : Nat} {k : EV → Tr EO → Nat → β} (hg : G (evOp tab self fail join fl o T h nx k)) : ∀ c, o.op ≠ .defer c := by
 intro c hc
 unfold evOp at hg
 simp only [hc] at hg
 exact hf hg
theorem evOps_spec (hT : TabOk P tab) {self : CodeFn} (hS : SoundC P tab self) {join : β → β → β} (hj : ∀ x y, G (join x y) → G x ∧ G y) {nt fl : Nat} {ops : Array Oper} {Q : Exit → Act → World → Prop} {r : Option Nat} :
 ∀ {l : List Oper} {T : Fr} {h : Tr EO} {nx : Nat} {k : Fr → Tr EO → Nat → β} {σ : Sg} {a : Act} {w : World}, G (evOps tab self fail join nt fl ops l T h nx k) → TRel σ T nt a → GlOk tab σ → Holds σ h w → Fresh σ nx → fl ≤ nx →
  (∀ T' h' nx' σ' a' w', G (k T' h' nx') → TRel σ' T' nt a' → T'.ro = T.ro → Post fl σ h nx w σ' h' nx' w' → Q .normal a' w') → wpListIn (WF r) 0 P ops Q l a w := by
 intro l
 induction l with
 | nil =>
  intro T h nx k σ a w hg HT hgl H F hfl hQ
  exact hQ T h nx σ a w hg HT rfl (Post.refl H F)
 | cons o l ih =>
  intro T h nx k σ a w hg HT hgl H F hfl hQ
  simp only [evOps] at hg
  cases hw : wantedE ops T o with
  | none => simp only [hw] at hg; exact absurd hg hf
  | some b =>
   simp only [hw] at hg
   have hwn := wantedE_spec (a := a) (σ := σ) hw (fun j want p d _ _ _ => HT.at_ d)
   unfold wpListIn
   cases b with
   | false =>
    simp only at hg
    rw [if_neg (by rw [hwn]; simp)]
    obtain ⟨T', hg, h1, h2, h3, h4⟩ := putD_spec hf hg
    exact ⟨fun _ _ => trivial, ih hg (HT.put (undefE_spec σ) h1 h2 h3) hgl H F hfl fun T2 h' nx' σ' a' w' q1 q2 q3 q4 => hQ T2 h' nx' σ' a' w' q1 q2 (q3.trans h4) q4⟩
   | true =>
    simp only at hg
    rw [if_pos hwn]
    have hfl' := evOp_flow (a := a) (w := w) (σ := σ) hf hT hS hj hg (fun x _ => HT.op x) hgl H F hfl
    refine Oper.wp_of_flow (evOp_nodefer hf hg) hfl' fun v' w' ⟨v, h', nx', σ', hv, hp, hg⟩ => ?_
    obtain ⟨T', hg, h1, h2, h3, h4⟩ := putD_spec hf hg
    exact ih hg ((HT.mono hp.le).put hv h1 h2 h3) (hgl.mono hp.le) hp.holds hp.fresh (Nat.le_trans hfl hp.nxle) fun T2 h' nx' σ' a' w' q1 q2 q3 q4 => hQ T2 h' nx' σ' a' w' q1 q2 (q3.trans h4) (hp.trans q4)
end
end Go.Proofs.YtendekbckfpmgaaGreat
