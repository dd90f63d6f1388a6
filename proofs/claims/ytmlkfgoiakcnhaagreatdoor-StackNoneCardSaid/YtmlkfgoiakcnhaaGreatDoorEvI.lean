/- Building values and slices; stores; maps written. -/
import Derived.Test.YtmlkfgoiakcnhaaGreatDoorEvH
namespace Go.Proofs.YtmlkfgoiakcnhaaGreatDoor
open Go Go.RowKit

theorem rep_get (z : EVs) : ∀ (n i : Nat), i < n * z.toL.length → (repCells z n).toL[i]? = z.toL[i % z.toL.length]?
  | 0, i, h => by omega
  | n + 1, i, h => by
    have h' : i < n * z.toL.length + z.toL.length := by rw [Nat.add_mul, Nat.one_mul] at h; exact h
    simp only [repCells, EVs.app_toL]
    by_cases e : i < z.toL.length
    · rw [List.getElem?_append_left e, Nat.mod_eq_of_lt e]
    · rw [List.getElem?_append_right (by omega), rep_get z n _ (by omega)]
      congr 1
      conv => rhs; rw [show i = (i - z.toL.length) + z.toL.length by omega, Nat.add_mod_right]
theorem rep_len (z : EVs) : ∀ n : Nat, (repCells z n).toL.length = n * z.toL.length
  | 0 => by simp [repCells, EVs.toL]
  | n + 1 => by simp only [repCells, EVs.app_toL, List.length_append, rep_len z n]; rw [Nat.add_mul, Nat.one_mul, Nat.add_comm]
/-- the cells of so many zero elements -/
theorem rep_cells {σ : Sg} {z : EVs} {zc : Array Value} {n size : Nat} (hz : VRs σ z zc.toList) (hs : zc.size = size) : VRs σ (repCells z n) ((Array.range (n * size)).map (zc[· % zc.size]!)).toList := by
  have hl := (VRs.iff.1 hz).1
  have hl' : z.toL.length = size := by rw [hl, ← hs]; simp
  refine VRs.iff.2 ⟨by rw [rep_len, hl']; simp, fun i e v he hv => ?_⟩
  have hi : i < n * z.toL.length := by rw [← rep_len]; exact (List.getElem?_eq_some_iff.1 he).1
  rw [rep_get z n i hi, hl'] at he
  have hpos : 0 < size := by
    rcases Nat.eq_zero_or_pos size with h0 | h0
    · rw [hl', h0] at hi; omega
    · exact h0
  have hlt : i % size < zc.size := by rw [hs]; exact Nat.mod_lt _ hpos
  rw [Array.getElem?_toList, Array.getElem?_map, Array.getElem?_range, if_pos (by rw [← hl']; exact hi)] at hv
  simp only [Option.map_some, Option.some.injEq] at hv
  refine (VRs.iff.1 hz).2 (i % size) e v he ?_
  rw [Array.getElem?_toList, Array.getElem?_eq_getElem hlt, ← hv, hs, getElem!_pos zc (i % size) hlt]

theorem places_of {P : Program} : ∀ (fs : List Field), (∀ f ∈ fs, (P.info? f.type).isSome) → ∃ places : List (Nat × Nat), fs.mapM (fun f => (P.info? f.type).map fun i => (f.offset, i.size)) = some places ∧
    ∀ (x : Nat) (f : Field) (i : TypeInfo), fs[x]? = some f → P.info? f.type = some i → places[x]? = some (f.offset, i.size)
  | [], _ => ⟨[], by simp, fun x f i h => by simp at h⟩
  | f :: fs, h => by
    obtain ⟨i, hi⟩ := Option.isSome_iff_exists.1 (h f (by simp))
    obtain ⟨ps, h1, h2⟩ := places_of fs (fun g hg => h g (by simp [hg]))
    refine ⟨(f.offset, i.size) :: ps, by simp [List.mapM_cons, hi, h1], fun x g j hx hj => ?_⟩
    cases x with
    | zero => simp at hx; subst hx; rw [hi] at hj; cases hj; rfl
    | succ x => simpa using h2 x g j (by simpa using hx) hj
theorem TyOk.size_eq {P : Program} {t : TypeId} {e : TyE} (h : TyOk P t e) {i : TypeInfo} (hi : P.info? t = some i) : i.size = e.size := by
  obtain ⟨j, z, h1, h2, _⟩ := h.info
  rw [hi] at h1; cases h1; exact h2

section
variable {P : Program} {tab : Tab} {β : Type} {fail : β} {G : β → Prop} (hf : ¬ G fail)
include hf
theorem buildE_spec (hT : TabOk P tab) {t : TypeId} {ps : List (Nat × EV)} {k : EV → β} {σ : Sg} {w : World} {ps' : Array (Nat × Value)} (hg : G (buildE tab fail t ps k)) (hps : PartsR σ ps ps'.toList) :
    ∃ e e', (Instr.build t ps').run P w = .ok e' w ∧ VR σ e e' ∧ G (k e) := by
  unfold buildE at hg
  cases hi : tab.ty.get t with
  | none => simp only [hi] at hg; exact absurd hg hf
  | some i =>
    simp only [hi] at hg
    have hty := hT.ty t i hi
    obtain ⟨it, z, i1, i2, i3, i4, i5, i6, i7⟩ := hty.info
    have hu := hty.und
    cases hd : i.desc with
    | struct fs =>
      simp only [hd] at hg
      rw [hd] at hu
      obtain ⟨places, p1, p2⟩ := places_of (P := P) fs.toList (hty.flds fs hd)
      obtain ⟨c', cells', c1, c2, c3⟩ := fillE_spec (place := (places.toArray[·]?)) (σ := σ) (cells := z.cells) hf (fun j x hx => by
        cases hfj : fs[j]? with
        | none => simp only [hfj] at hx; cases hx
        | some f =>
          simp only [hfj] at hx
          cases hft : tab.ty.get f.type with
          | none => simp only [hft] at hx; cases hx
          | some fi =>
            simp only [hft, Option.some.injEq] at hx
            subst hx
            have hfm : f ∈ fs.toList := by
              obtain ⟨hlt, he⟩ := Array.getElem?_eq_some_iff.1 hfj
              rw [← he]; exact Array.mem_toList_iff.2 (Array.getElem_mem hlt)
            obtain ⟨fj, hfj'⟩ := Option.isSome_iff_exists.1 (hty.flds fs hd f hfm)
            have := p2 j f fj (by rw [Array.getElem?_toList]; exact hfj) hfj'
            rw [← (hT.ty _ _ hft).size_eq hfj']
            simpa using this) hg hps (i7 σ)
      refine ⟨_, .agg cells', run_build w t ps' cells' ?_, by simp only [VR]; exact ⟨_, rfl, c2⟩, c3⟩
      simp only [Program.built, i1, hu, i4, p1]
      exact c1
    | array n e =>
      simp only [hd] at hg
      rw [hd] at hu
      cases he : tab.ty.get e with
      | none => simp only [he] at hg; exact absurd hg hf
      | some ei =>
        simp only [he] at hg
        obtain ⟨ie, _, j1, j2, _⟩ := (hT.ty e ei he).info
        obtain ⟨c', cells', c1, c2, c3⟩ := fillE_spec (place := fun i => some (i * ie.size, ie.size)) (σ := σ) (cells := z.cells) hf (fun j x hx => by rw [j2]; exact hx) hg hps (i7 σ)
        refine ⟨_, .agg cells', run_build w t ps' cells' ?_, by simp only [VR]; exact ⟨_, rfl, c2⟩, c3⟩
        simp only [Program.built, i1, hu, i4, j1]
        exact c1
    | _ => simp only [hd] at hg; exact absurd hg hf
theorem buildSliceE_spec (hT : TabOk P tab) {t : TypeId} {len : Nat} {ps : List (Nat × EV)} {h : Tr EO} {nx : Nat} {k : EV → Tr EO → Nat → β} {fl : Nat} {σ : Sg} {w : World} {ps' : Array (Nat × Value)}
    (hg : G (buildSliceE tab fail t len ps h nx k)) (hps : PartsR σ ps ps'.toList) (H : Holds σ h w) (F : Fresh σ nx) (hfl : fl ≤ nx) :
    ∃ e h' nx' σ' e' w', (Instr.buildSlice t len ps').run P w = .ok e' w' ∧ VR σ' e e' ∧ Post fl σ h nx w σ' h' nx' w' ∧ G (k e h' nx') := by
  unfold buildSliceE at hg
  obtain ⟨e, ei, hu, _, hty, hg⟩ := elemE_spec hf hT hg
  cases hb : Nat.ble (Nat.mul len ei.size) 16777216 with
  | false => simp only [hb] at hg; exact absurd hg hf
  | true =>
    simp only [hb, cond_true] at hg
    have hle : len * ei.size ≤ 16777216 := Nat.le_of_ble_eq_true hb
    obtain ⟨z, z1, z2, z3, z4⟩ := hty.run_zero w
    obtain ⟨c', cells', c1, c2, hg⟩ := fillE_spec (place := fun i => some (i * ei.size, ei.size)) (σ := σ) hf (fun j x hx => hx) hg hps (rep_cells (n := len) (z4 σ) z2)
    obtain ⟨h', hg, hp⟩ := newCells_all hf hg H F hfl c2
    refine ⟨_, _, _, _, .slice (some ⟨w.heap.size, 0, none⟩) len len, _, ?_, ?_, hp e, hg⟩
    · simp only [Instr.buildSlice, Sem.run_bind, run_underlying hu, Result.andThen_ok, hty.run_size]
      rw [if_neg (by omega)]
      by_cases h0 : len * ei.size = 0
      · have hz0 : (Array.range (len * ei.size)).map (z.cells[· % z.cells.size]!) = (Array.range (len * ei.size)).map ((#[] : Array Value)[· % (#[] : Array Value).size]!) := by rw [h0]; simp
        rw [hz0] at c1
        simp only [h0] at c1 ⊢
        simp only [if_true, c1, Sem.run_bind, run_newRow, Result.andThen_ok, Sem.run_pure, Array.toArray_toList]
      · simp only [h0, if_false, Sem.run_bind, z1, Result.andThen_ok, Sem.run_pure, c1, run_newRow, Array.toArray_toList]
    · simp only [VR, Option.getD_some]; exact ⟨_, upd_same _ _ _, rfl, Nat.le_refl _⟩
omit hf in
theorem run_askRoom (n : Nat) (w : World) : (askRoom n).run P w = .ok () w := by
  unfold askRoom
  split <;> simp [mark, Sem.run]
theorem makeSliceE_spec (hT : TabOk P tab) {t : TypeId} {l c : EV} {h : Tr EO} {nx : Nat} {k : EV → Tr EO → Nat → β} {fl : Nat} {σ : Sg} {w : World} {l' c' : Value}
    (hg : G (makeSliceE tab fail t l c h nx k)) (hl : VR σ l l') (hc : VR σ c c') (H : Holds σ h w) (F : Fresh σ nx) (hfl : fl ≤ nx) :
    ∃ e h' nx' σ' e' w', (Instr.makeSlice t l' c').run P w = .ok e' w' ∧ VR σ' e e' ∧ Post fl σ h nx w σ' h' nx' w' ∧ G (k e h' nx') := by
  unfold makeSliceE at hg
  split at hg
  · rename_i k1 n k2 m
    simp only [VR] at hl hc
    subst hl; subst hc
    obtain ⟨e, ei, hu, _, hty, hg⟩ := elemE_spec hf hT hg
    cases hb : (Nat.ble n m && Nat.ble (Nat.mul ei.bytes m) 281474976710656 && Nat.ble m 4611686018427387904) with
    | false => simp only [hb] at hg; exact absurd hg hf
    | true =>
      simp only [hb, cond_true] at hg
      rw [Bool.and_eq_true, Bool.and_eq_true] at hb
      have b1 : n ≤ m := Nat.le_of_ble_eq_true hb.1.1
      have b2 : ei.bytes * m ≤ 281474976710656 := Nat.le_of_ble_eq_true hb.1.2
      have b3 : m ≤ 4611686018427387904 := Nat.le_of_ble_eq_true hb.2
      obtain ⟨i, z, i1, i2, i3, i4, i5, i6, i7⟩ := hty.info
      obtain ⟨h', hg, hp⟩ := newCells_all hf hg H F hfl (rep_cells (n := m) (i7 σ) i5)
      refine ⟨_, _, _, _, .slice (some ⟨w.heap.size, 0, none⟩) n m, _, ?_, ?_, hp e, hg⟩
      · have wr : ∀ x : Nat, x ≤ 4611686018427387904 → IntKind.i64.wrap (Int.ofNat x) = (x : Int) := fun x hx => IntWalk.i64_in (x : Int) (by constructor <;> omega)
        have t1 : (typeInfo e).run P w = .ok i w := by simp [typeInfo, i1]
        have n1 : ¬ ((m : Int) < 0) := by omega
        have n2 : ¬ ((n : Int) < 0) := by omega
        have n3 : ¬ ((n : Int) > (m : Int)) := by omega
        have n4 : ¬ ((i.bytes : Int) * (m : Int) > 2 ^ 48) := by
          rw [i3, ← Int.natCast_mul]
          generalize ei.bytes * m = q at b2
          omega
        have zv : (zeroValue e).run P w = .ok z w := by simp [zeroValue, typeInfo, i1, i4]
        simp only [Instr.makeSlice, Sem.run_bind, run_underlying hu, Result.andThen_ok, asInt, asIntOf, Sem.run_pure, t1, wr n (by omega), wr m b3]
        simp only [n1, n2, n3, n4, decide_false, Bool.or_false, Bool.or_self, Bool.false_eq_true, if_false, Int.toNat_natCast]
        simp only [Sem.run_bind]
        rw [run_askRoom]
        simp only [Result.andThen_ok, hty.run_size]
        by_cases h0 : m * ei.size = 0
        · have hz0 : (Array.range (m * ei.size)).map (z.cells[· % z.cells.size]!) = (Array.range (m * ei.size)).map ((#[] : Array Value)[· % (#[] : Array Value).size]!) := by rw [h0]; simp
          rw [hz0]
          simp only [h0, if_true, Sem.run_pure, Result.andThen_ok, Sem.run_bind, run_newRow, Array.toArray_toList]
        · simp only [h0, if_false, Sem.run_bind, zv, Result.andThen_ok, Sem.run_pure, run_newRow, Array.toArray_toList]
      · simp only [VR, Option.getD_some]; exact ⟨_, upd_same _ _ _, rfl, b1⟩
  · exact absurd hg hf
theorem setB_spec {fl : Nat} {h : Tr EO} {b : Nat} {o : Option EO} {k : Tr EO → β} (hg : G (setB fail fl h b o k)) : fl ≤ b ∧ ∃ h', (∀ j, h'.get j = if j = b then o else h.get j) ∧ G (k h') := by
  unfold setB at hg
  cases hb : Nat.ble fl b with
  | false => rw [hb] at hg; exact absurd hg hf
  | true =>
    rw [hb] at hg
    obtain ⟨h', h1, h2⟩ := Tr.put_spec hf _ _ _ _ hg
    exact ⟨Nat.le_of_ble_eq_true hb, h', h1, h2⟩
omit hf in
/-- cells of a block, written -/
theorem Post.mk_write {fl : Nat} {σ : Sg} {h h' : Tr EO} {nx : Nat} {w : World} {b : Nat} {c c' : Tr EV} {n z off : Nat} {es : EVs} {vs : List Value} (H : Holds σ h w) (F : Fresh σ nx) (hfl : fl ≤ b) (hb : h.get b = some (.cells c n z))
    (hc : ∀ i, c'.get i = if off ≤ i ∧ i < off + es.toL.length then es.toL[i - off]? else c.get i) (hp : ∀ j, h'.get j = if j = b then some (.cells c' n z) else h.get j) (hes : VRs σ es vs) (hin : off + vs.length ≤ n) :
    ∃ l, σ b = some l ∧ Post fl σ h nx w σ h' nx (w.setCells l.blk off vs) ∧ (∀ j, j < vs.length → (w.cell? ⟨l.blk, off + j, none⟩).isSome = true) ∧ (∀ j, j < vs.length → w.frozen? ⟨l.blk, off + j, none⟩ = false) := by
  obtain ⟨l, ob, h1, h2, h3⟩ := H.there b _ hb
  obtain ⟨arr, t, rfl, a1, a2, a3, a4, a5⟩ := h3
  obtain ⟨arr', b1, b2, b3, b4, b5, b6, b7, b8⟩ := setCells_heap l.blk vs off w arr t (0, 0) h2
  have hlen := (VRs.iff.1 hes).1
  refine ⟨l, h1, Post.mk_set H F hfl (by rw [hb]; rfl) h1 hp b1 b4 b5 b6 b7 b8 ⟨arr', t, rfl, by rw [b2, a1], a2, a3, a4, fun i e he => ?_⟩, fun j hj => ?_, fun j hj => ?_⟩
  · rw [hc] at he
    rw [b3]
    by_cases hi : off ≤ i ∧ i < off + es.toL.length
    · rw [if_pos hi] at he
      obtain ⟨v, hv, hr⟩ := hes.get he
      exact ⟨v, by rw [if_pos ⟨hi.1, by omega, by omega⟩]; exact hv, hr⟩
    · rw [if_neg hi] at he
      rw [if_neg (fun h => hi ⟨h.1, by omega⟩)]
      exact a5 i e he
  · have hlt : off + j < arr.size := by omega
    simp [World.cell?, h2, hlt]
  · simp [World.frozen?, h2]
theorem storeE_spec (hT : TabOk P tab) {fl : Nat} {t : TypeId} {v y : EV} {h : Tr EO} {nx : Nat} {k : Tr EO → β} {σ : Sg} {w : World} {v' y' : Value} (hg : G (storeE tab fail fl t v y h k)) (hv : VR σ v v') (hy : VR σ y y') (H : Holds σ h w) (F : Fresh σ nx) :
    ∃ h' w', (Instr.storeAt t v' y').run P w = .ok () w' ∧ Post fl σ h nx w σ h' nx w' ∧ G (k h') := by
  unfold storeE at hg
  split at hg
  · rename_i b off
    split at hg
    · rename_i c m z hb
      cases hi : tab.ty.get t with
      | none => simp only [hi] at hg; exact absurd hg hf
      | some i =>
        simp only [hi] at hg
        cases hq : (Nat.beq i.size y.cells.len && Nat.ble (Nat.add off i.size) m && y.cells.flat) with
        | false => simp only [hq] at hg; exact absurd hg hf
        | true =>
          simp only [hq, cond_true] at hg
          rw [Bool.and_eq_true, Bool.and_eq_true] at hq
          have q1 : i.size = y.cells.len := Nat.eq_of_beq_eq_true hq.1.1
          have q2 : off + i.size ≤ m := Nat.le_of_ble_eq_true hq.1.2
          obtain ⟨c', hc, hg⟩ := writeCells_spec hf _ _ _ _ hg
          obtain ⟨hfl, h', hp, hg⟩ := setB_spec hf hg
          have hyc := hy.cells
          have hlen := (VRs.iff.1 hyc).1
          rw [EVs.len_toL, hlen] at q1
          obtain ⟨l, l1, l2, l3, l4⟩ := Post.mk_write (fl := fl) (nx := nx) H F hfl hb hc hp hyc (by omega)
          simp only [VR] at hv
          obtain ⟨l', e1, rfl⟩ := hv
          rw [l1] at e1; cases e1
          refine ⟨h', _, ?_, l2, hg⟩
          have hsz : y'.cells.size = i.size := by rw [q1]; simp
          have hst := run_storeCells_cells (P := P) l.blk off y'.cells.toList 0 w (by simpa using l3) (by simpa using l4) (hyc.flat hq.2)
          simp only [Nat.add_zero] at hst
          simp only [Instr.storeAt, Sem.run_bind, Instr.sureAddr, Sem.run_pure, Result.andThen_ok, storeVar, (hT.ty t i hi).run_size, hsz, ne_eq, not_true_eq_false, if_false, hst]
    · exact absurd hg hf
  · exact absurd hg hf
end
end Go.Proofs.YtmlkfgoiakcnhaaGreatDoor
