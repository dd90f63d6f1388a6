/- Parts, likeness of two values, keys and entries of maps: the abstract run's answers are the machine's. -/
import Derived.Test.YtmlkfgoiakcnhaaGreatDoorEvC
import Derived.Laws.StructEq
namespace Go.Proofs.YtmlkfgoiakcnhaaGreatDoor
open Go Go.RowKit

mutual
theorem sameEV_eq : ∀ a b : EV, sameEV a b = true → a = b
  | .bool a, .bool b, h => by simp only [sameEV, beq_iff_eq] at h; rw [h]
  | .int k a, .int j b, h => by
    simp only [sameEV, Bool.and_eq_true] at h
    rw [ikEq_eq h.1]
    have := h.2
    rw [eqInt_eq, beq_iff_eq] at this
    rw [this]
  | .str a, .str b, h => by simp only [sameEV, eqBytes_eq, beq_iff_eq] at h; rw [h]
  | .agg a, .agg b, h => by simp only [sameEV] at h; rw [sameEVs_eq a b h]
  | .bool _, .int _ _, h => by simp only [sameEV] at h; cases h
  | a, b, h => by
    cases a <;> cases b <;> first
      | (simp only [sameEV] at h; cases h; done)
      | (simp only [sameEV, beq_iff_eq] at h; rw [h]; done)
      | (simp only [sameEV, Bool.and_eq_true] at h; rw [ikEq_eq h.1]; have := h.2; rw [eqInt_eq, beq_iff_eq] at this; rw [this]; done)
      | (simp only [sameEV, eqBytes_eq, beq_iff_eq] at h; rw [h]; done)
      | (simp only [sameEV] at h; rw [sameEVs_eq _ _ h]; done)
theorem sameEVs_eq : ∀ a b : EVs, sameEVs a b = true → a = b
  | .nil, .nil, _ => rfl
  | .cons a l, .cons b m, h => by
    simp only [sameEVs, Bool.and_eq_true] at h
    rw [sameEV_eq a b h.1, sameEVs_eq l m h.2]
  | .nil, .cons _ _, h => by simp only [sameEVs] at h; cases h
  | .cons _ _, .nil, h => by simp only [sameEVs] at h; cases h
end
theorem optNEq_eq {a b : Option Nat} (h : optNEq a b = true) : a = b := by
  cases a <;> cases b <;> simp only [optNEq] at h
  · rfl
  · cases h
  · cases h
  · rw [Nat.eq_of_beq_eq_true h]
mutual
theorem sameE_eq : ∀ a b : EV, sameE a b = true → a = b
  | .func f a b, .func g c d, h => by
    simp only [sameE, Bool.and_eq_true] at h
    rw [Nat.eq_of_beq_eq_true h.1.1, sameEs_eq a c h.1.2, sameEs_eq b d h.2]
  | .iface t a, .iface u b, h => by
    simp only [sameE, Bool.and_eq_true] at h
    rw [Nat.eq_of_beq_eq_true h.1, sameE_eq a b h.2]
  | .agg a, .agg b, h => by simp only [sameE] at h; rw [sameEs_eq a b h]
  | .tup a, .tup b, h => by simp only [sameE] at h; rw [sameEs_eq a b h]
  | a, b, h => by
    cases a <;> cases b <;> first
      | rfl
      | (simp only [sameE] at h; cases h; done)
      | (simp only [sameE, beq_iff_eq] at h; rw [h]; done)
      | (simp only [sameE, Bool.and_eq_true] at h; rw [ikEq_eq h.1]; have := h.2; rw [eqInt_eq, beq_iff_eq] at this; rw [this]; done)
      | (simp only [sameE, eqBytes_eq, beq_iff_eq] at h; rw [h]; done)
      | (simp only [sameE] at h; rw [Nat.eq_of_beq_eq_true h]; done)
      | (simp only [sameE] at h; rw [ikEq_eq h]; done)
      | (simp only [sameE, Bool.and_eq_true] at h; rw [ikEq_eq h.1.1]; have h1 := h.1.2; have h2 := h.2; rw [eqInt_eq, beq_iff_eq] at h1 h2; rw [h1, h2]; done)
      | (simp only [sameE, Bool.and_eq_true] at h; rw [Nat.eq_of_beq_eq_true h.1, Nat.eq_of_beq_eq_true h.2]; done)
      | (simp only [sameE, Bool.and_eq_true] at h; rw [Nat.eq_of_beq_eq_true h.1.1.1, Nat.eq_of_beq_eq_true h.1.1.2, Nat.eq_of_beq_eq_true h.1.2, optNEq_eq h.2]; done)
      | (simp only [sameE] at h; rw [sameEs_eq _ _ h]; done)
      | (simp only [sameE, Bool.and_eq_true] at h; rw [Nat.eq_of_beq_eq_true h.1, sameE_eq _ _ h.2]; done)
      | (simp only [sameE, Bool.and_eq_true] at h; rw [Nat.eq_of_beq_eq_true h.1.1, sameEs_eq _ _ h.1.2, sameEs_eq _ _ h.2]; done)
theorem sameEs_eq : ∀ a b : EVs, sameEs a b = true → a = b
  | .nil, .nil, _ => rfl
  | .cons a l, .cons b m, h => by
    simp only [sameEs, Bool.and_eq_true] at h
    rw [sameE_eq a b h.1, sameEs_eq l m h.2]
  | .nil, .cons _ _, h => by simp only [sameEs] at h; cases h
  | .cons _ _, .nil, h => by simp only [sameEs] at h; cases h
end
theorem optE_eq {a b : Option EV} (h : optE a b = true) : a = b := by
  cases a <;> cases b <;> simp only [optE] at h
  · rfl
  · cases h
  · cases h
  · rw [sameE_eq _ _ h]
theorem sameTr_eq : ∀ a b : Tr EV, sameTr a b = true → a = b
  | .nil, .nil, _ => rfl
  | .node l x r, .node l' x' r', h => by
    simp only [sameTr, Bool.and_eq_true] at h
    rw [sameTr_eq l l' h.1.1, optE_eq h.1.2, sameTr_eq r r' h.2]
  | .nil, .node .., h => by simp only [sameTr] at h; cases h
  | .node .., .nil, h => by simp only [sameTr] at h; cases h
theorem sameEnts_eq : ∀ a b : List (EV × EV × Nat), sameEnts a b = true → a = b
  | [], [], _ => rfl
  | (a1, a2, a3) :: l, (b1, b2, b3) :: m, h => by
    simp only [sameEnts, Bool.and_eq_true] at h
    rw [sameE_eq _ _ h.1.1.1, sameE_eq _ _ h.1.1.2, Nat.eq_of_beq_eq_true h.1.2, sameEnts_eq l m h.2]
  | [], _ :: _, h => by simp only [sameEnts] at h; cases h
  | _ :: _, [], h => by simp only [sameEnts] at h; cases h
theorem sameO_eq {a b : EO} (h : sameO a b = true) : a = b := by
  unfold sameO at h
  split at h
  · simp only [Bool.and_eq_true] at h
    rw [sameTr_eq _ _ h.1.1, Nat.eq_of_beq_eq_true h.1.2, Nat.eq_of_beq_eq_true h.2]
  · simp only [Bool.and_eq_true] at h
    rw [sameTr_eq _ _ h.1, Nat.eq_of_beq_eq_true h.2]
  · simp only [Bool.and_eq_true] at h
    rw [sameEnts_eq _ _ h.1, Nat.eq_of_beq_eq_true h.2]
  · rfl
  · cases h
theorem meetTr_spec : ∀ {a b : Tr EO} {n : Nat} {o : EO}, (meetTr a b).get n = some o → a.get n = some o ∧ b.get n = some o
  | .nil, b, n, o, h => by simp only [meetTr, Tr.get_nil] at h; cases h
  | .node _ _ _, .nil, n, o, h => by simp only [meetTr, Tr.get_nil] at h; cases h
  | .node l x r, .node l' x' r', n, o, h => by
    simp only [meetTr] at h
    rw [Tr.get_node] at h ⊢
    rw [Tr.get_node]
    by_cases h0 : n = 0
    · rw [if_pos h0] at h ⊢
      rw [if_pos h0]
      cases x with
      | none => cases h
      | some p =>
        cases x' with
        | none => cases h
        | some q =>
          simp only at h
          cases hs : sameO p q with
          | false => rw [hs] at h; cases h
          | true =>
            rw [hs] at h
            have := sameO_eq hs
            subst this
            exact ⟨h, h⟩
    · rw [if_neg h0] at h ⊢
      rw [if_neg h0]
      by_cases h1 : n % 2 = 1
      · rw [if_pos h1] at h ⊢
        rw [if_pos h1]
        exact meetTr_spec h
      · rw [if_neg h1] at h ⊢
        rw [if_neg h1]
        exact meetTr_spec h
section
variable {P : Program} {tab : Tab} (hT : TabOk P tab)
include hT
theorem partE_spec {t : TypeId} {l : EVs} {off : Nat} {e : EV} {σ : Sg} {cs : Array Value} (h : partE tab t l off = some e) (hl : VRs σ l cs.toList) (w : World) :
    ∃ e', (part t cs off).run P w = .ok e' w ∧ VR σ e e' := by
  unfold partE at h
  cases hi : tab.ty.get t with
  | none => simp only [hi] at h; cases h
  | some i =>
    simp only [hi] at h
    have hty := hT.ty t i hi
    cases ha : i.agg with
    | true =>
      simp only [ha, cond_true, Option.some.injEq] at h
      subst h
      refine ⟨.agg (cs.extract off (off + i.size)), ?_, ?_⟩
      · unfold part
        simp only [Sem.run_bind, hty.run_agg, ha, Result.andThen_ok, if_true, hty.run_size, Sem.run_pure]
      · simp only [VR]
        refine ⟨_, rfl, ?_⟩
        have : (cs.extract off (off + i.size)).toList = (cs.toList.drop off).take i.size := by
          simp [List.extract_eq_take_drop]
        rw [this]
        exact (hl.drop off).take i.size
    | false =>
      simp only [ha, cond_false] at h
      rw [EVs.get_toL] at h
      obtain ⟨v, hv, hr⟩ := hl.get h
      rw [Array.getElem?_toList] at hv
      refine ⟨v, ?_, hr⟩
      unfold part
      simp only [Sem.run_bind, hty.run_agg, ha, Result.andThen_ok, Bool.false_eq_true, if_false, hv, Sem.run_pure]

theorem eqFs_spec {eq : TypeId → EV → EV → Option Bool} {D : Nat} {a b : EVs} {σ : Sg} {xs ys : Array Value} (w : World)
    (ih : ∀ (t : TypeId) (u v : EV) (r : Bool), eq t u v = some r → ∀ (x' y' : Value), VR σ u x' → VR σ v y' → (Op.equalIn D t x' y').run P w = .ok r w) (ha : VRs σ a xs.toList) (hb : VRs σ b ys.toList) :
    ∀ (fs : List Field) (r : Bool), eqFs tab eq a b fs = some r → (∀ f ∈ fs, f.name ≠ "_") → (Op.eqFields D xs ys fs).run P w = .ok r w
  | [], r, h, _ => by simp only [eqFs, Option.some.injEq] at h; subst h; simp [Op.eqFields]
  | f :: fs, r, h, hn => by
    simp only [eqFs] at h
    cases h1 : partE tab f.type a f.offset with
    | none => simp only [h1] at h; cases h
    | some u =>
      simp only [h1] at h
      cases h2 : partE tab f.type b f.offset with
      | none => simp only [h2] at h; cases h
      | some v =>
        simp only [h2] at h
        obtain ⟨u', r1, q1⟩ := partE_spec hT h1 ha w
        obtain ⟨v', r2, q2⟩ := partE_spec hT h2 hb w
        have hf : f.name ≠ "_" := hn f (by simp)
        simp only [Op.eqFields, hf, ne_eq, not_false_eq_true, if_true, Sem.run_bind, r1, Result.andThen_ok, r2]
        cases h3 : eq f.type u v with
        | none => simp only [h3] at h; cases h
        | some c =>
          simp only [h3] at h
          rw [ih f.type u v c h3 u' v' q1 q2]
          cases c with
          | true =>
            simp only [Result.andThen_ok, Bool.not_true, Bool.false_eq_true, if_false]
            exact eqFs_spec w ih ha hb fs r h (fun f hf => hn f (by simp [hf]))
          | false =>
            simp only [Option.some.injEq] at h
            subst h
            simp
theorem eqT_spec : ∀ (d : Nat) (t : TypeId) (x y : EV) (b : Bool), eqT tab d t x y = some b → ∀ (σ : Sg) (D : Nat) (x' y' : Value) (w : World), d ≤ D → VR σ x x' → VR σ y y' → (Op.equalIn D t x' y').run P w = .ok b w
  | 0, t, x, y, b, h, σ, D, x', y', w, hD, hx, hy => by simp only [eqT] at h; cases h
  | d + 1, t, x, y, b, h, σ, D, x', y', w, hD, hx, hy => by
    obtain ⟨D, rfl⟩ : ∃ D', D = D' + 1 := ⟨D - 1, by omega⟩
    unfold eqT at h
    cases hi : tab.ty.get t with
    | none => simp only [hi] at h; cases h
    | some i =>
      simp only [hi] at h
      have hty := hT.ty t i hi
      have hu := hty.und
      cases hd : i.desc with
      | bool =>
        rw [hd] at hu
        simp only [hd] at h
        split at h
        · simp only [VR] at hx hy
          subst hx; subst hy
          rw [run_equalIn_bool' _ _ _ _ _ hu]
          exact congrArg (Result.ok · w) (Option.some.inj h)
        · cases h
      | int k =>
        rw [hd] at hu
        simp only [hd] at h
        split at h
        · rename_i k1 a k2 b'
          simp only [VR] at hx hy
          subst hx; subst hy
          cases hk : ikEq k1 k2 with
          | false => rw [hk] at h; cases h
          | true =>
            rw [hk] at h
            have := ikEq_eq hk
            subst this
            rw [run_equalIn_int _ _ _ _ _ _ _ hu, ← eqInt_eq]
            exact congrArg (Result.ok · w) (Option.some.inj h)
        · cases h
      | string =>
        rw [hd] at hu
        simp only [hd] at h
        split at h
        · simp only [VR] at hx hy
          subst hx; subst hy
          rw [run_equalIn_string _ _ _ _ _ hu]
          rw [eqBytes_eq] at h
          simp only [ByteArray.toList_eq]
          exact congrArg (Result.ok · w) (Option.some.inj h)
        · cases h
      | pointer e =>
        rw [hd] at hu
        simp only [hd] at h
        split at h
        · simp only [VR] at hx hy
          subst hx; subst hy; cases h; simp [Op.equalIn, run_underlying hu]
        · simp only [VR] at hx hy
          obtain ⟨_, _, rfl⟩ := hy; subst hx; cases h; simp [Op.equalIn, run_underlying hu]
        · simp only [VR] at hx hy
          obtain ⟨_, _, rfl⟩ := hx; subst hy; cases h; simp [Op.equalIn, run_underlying hu]
        · cases h
      | slice e =>
        rw [hd] at hu
        simp only [hd] at h
        split at h
        · simp only [VR] at hx hy
          subst hx; subst hy; cases h; simp [Op.equalIn, run_underlying hu]
        · simp only [VR] at hx hy
          obtain ⟨_, _, rfl, _⟩ := hy; subst hx; cases h; simp [Op.equalIn, run_underlying hu]
        · simp only [VR] at hx hy
          obtain ⟨_, _, rfl, _⟩ := hx; subst hy; cases h; simp [Op.equalIn, run_underlying hu]
        · cases h
      | map k e =>
        rw [hd] at hu
        simp only [hd] at h
        split at h
        · simp only [VR] at hx hy
          subst hx; subst hy; cases h; simp [Op.equalIn, run_underlying hu]
        · simp only [VR] at hx hy
          obtain ⟨_, _, rfl⟩ := hy; subst hx; cases h; simp [Op.equalIn, run_underlying hu]
        · simp only [VR] at hx hy
          obtain ⟨_, _, rfl⟩ := hx; subst hy; cases h; simp [Op.equalIn, run_underlying hu]
        · cases h
      | func ps rs v =>
        rw [hd] at hu
        simp only [hd] at h
        split at h
        · simp only [VR] at hx hy
          subst hx; subst hy; cases h; simp [Op.equalIn, run_underlying hu]
        · simp only [VR] at hx hy
          obtain ⟨_, _, rfl, _⟩ := hy; subst hx; cases h; simp [Op.equalIn, run_underlying hu]
        · simp only [VR] at hx hy
          obtain ⟨_, _, rfl, _⟩ := hx; subst hy; cases h; simp [Op.equalIn, run_underlying hu]
        · cases h
      | interface ms =>
        rw [hd] at hu
        simp only [hd] at h
        split at h
        · simp only [VR] at hx hy
          obtain ⟨_, rfl, _⟩ := hx; subst hy; cases h; simp [Op.equalIn, run_underlying hu]
        · cases h
      | struct fs =>
        rw [hd] at hu
        simp only [hd] at h
        split at h
        · cases hh : i.held with
          | true => rw [hh] at h; cases h
          | false =>
            rw [hh] at h
            simp only [cond_false] at h
            obtain ⟨hp, hn⟩ := hty.held hh
            have hfs : P.fieldsOf t = fs := by simp [Program.fieldsOf, hu]
            simp only [VR] at hx hy
            obtain ⟨xs, rfl, hxs⟩ := hx
            obtain ⟨ys, rfl, hys⟩ := hy
            rw [run_equalIn_struct w D t xs ys (by rw [hfs]; exact hu) hp, hfs]
            exact eqFs_spec hT w (fun t u v r hr x' y' hx hy => eqT_spec d t u v r hr σ D x' y' w (by omega) hx hy) hxs hys fs.toList b h (hn fs hd)
        · cases h
      | _ => simp only [hd] at h; cases h
theorem keyFs_spec {key : TypeId → EV → Bool} {em : Bool} {D : Nat} {a : EVs} {σ : Sg} {xs : Array Value} (w : World)
    (ih : ∀ (t : TypeId) (u : EV), key t u = true → ∀ (x' : Value), VR σ u x' → (Instr.checkKey em D t x').run P w = .ok () w) (ha : VRs σ a xs.toList) :
    ∀ (fs : List Field), keyFs tab key a fs = true →
      (forIn fs PUnit.unit (fun f _ => do
        if f.name ≠ "_" then Instr.checkKey em D f.type (← part f.type xs f.offset)
        pure (ForInStep.yield PUnit.unit)) : Sem PUnit).run P w = .ok () w
  | [], h => by simp
  | f :: fs, h => by
    simp only [keyFs] at h
    cases h1 : partE tab f.type a f.offset with
    | none => simp only [h1] at h; cases h
    | some u =>
      simp only [h1] at h
      cases h2 : key f.type u with
      | false => simp only [h2] at h; cases h
      | true =>
        simp only [h2] at h
        simp only [cond_true] at h
        obtain ⟨u', r1, q1⟩ := partE_spec hT h1 ha w
        have hrest := keyFs_spec w ih ha fs h
        rw [List.forIn_cons]
        by_cases hf : f.name = "_"
        · simp only [hf, ne_eq, not_true_eq_false, if_false, Sem.run_bind, Sem.run_pure, Result.andThen_ok]
          exact hrest
        · simp only [hf, ne_eq, not_false_eq_true, if_true, Sem.run_bind, r1, Result.andThen_ok, ih f.type u h2 u' q1, Sem.run_pure]
          exact hrest
theorem keyT_spec : ∀ (d : Nat) (t : TypeId) (x : EV), keyT tab d t x = true → ∀ (em : Bool) (σ : Sg) (D : Nat) (x' : Value) (w : World), d ≤ D → VR σ x x' → (Instr.checkKey em D t x').run P w = .ok () w
  | 0, t, x, h, em, σ, D, x', w, hD, hx => by simp only [keyT] at h; cases h
  | d + 1, t, x, h, em, σ, D, x', w, hD, hx => by
    obtain ⟨D, rfl⟩ : ∃ D', D = D' + 1 := ⟨D - 1, by omega⟩
    unfold keyT at h
    cases hi : tab.ty.get t with
    | none => simp only [hi] at h; cases h
    | some i =>
      simp only [hi] at h
      have hty := hT.ty t i hi
      have hu := hty.und
      cases hd : i.desc with
      | bool => rw [hd] at hu; simp [Instr.checkKey, run_underlying hu]
      | int k => rw [hd] at hu; simp [Instr.checkKey, run_underlying hu]
      | string => rw [hd] at hu; simp [Instr.checkKey, run_underlying hu]
      | struct fs =>
        rw [hd] at hu
        simp only [hd] at h
        split at h
        · cases hh : i.held with
          | true => rw [hh] at h; cases h
          | false =>
            rw [hh] at h
            simp only [cond_false] at h
            simp only [VR] at hx
            obtain ⟨xs, rfl, hxs⟩ := hx
            have := keyFs_spec hT w (fun t u hu x' hx => keyT_spec d t u hu em σ D x' w (by omega) hx) hxs fs.toList h
            simp only [Instr.checkKey, Sem.run_bind, run_underlying hu, Result.andThen_ok]
            rw [← Array.forIn_toList]
            simp only at this ⊢
            rw [this]
            rfl
        · cases h
      | _ => simp only [hd] at h; cases h

/-- the place of a key among entries -/
def posE (tab : Tab) (kt : TypeId) (key : EV) : List (EV × EV × Nat) → Option (Option Nat)
  | [] => some none
  | (a, _, _) :: l => match eqT tab 20 kt key a with
    | some true => some (some 0)
    | some false => match posE tab kt key l with
      | some (some i) => some (some (i + 1))
      | some none => some none
      | none => none
    | none => none
omit hT in
theorem findE_pos {kt : TypeId} {key : EV} : ∀ {l : List (EV × EV × Nat)} {r : Option EV}, findE tab kt key l = some r →
    (r = none ∧ posE tab kt key l = some none) ∨ (∃ i a v b, r = some v ∧ posE tab kt key l = some (some i) ∧ l[i]? = some (a, v, b))
  | [], r, h => by simp only [findE, Option.some.injEq] at h; exact .inl ⟨h.symm, rfl⟩
  | (a, v, b) :: l, r, h => by
    simp only [findE] at h
    simp only [posE]
    cases hq : eqT tab 20 kt key a with
    | none => simp only [hq] at h; cases h
    | some c =>
      simp only [hq] at h ⊢
      cases c with
      | true => simp only [Option.some.injEq] at h; exact .inr ⟨0, a, v, b, h.symm, rfl, rfl⟩
      | false =>
        simp only at h ⊢
        rcases findE_pos h with ⟨h1, h2⟩ | ⟨i, a', v', b', h1, h2, h3⟩
        · exact .inl ⟨h1, by rw [h2]⟩
        · exact .inr ⟨i + 1, a', v', b', h1, by rw [h2], by simpa using h3⟩
omit hT in
theorem updE_pos {kt : TypeId} {key y : EV} {clock : Nat} : ∀ {l l' : List (EV × EV × Nat)} {c' : Nat}, updE tab kt key y clock l = some (l', c') →
    (posE tab kt key l = some none ∧ l' = l ++ [(key, y, clock)] ∧ c' = clock + 1) ∨ (∃ i v b, posE tab kt key l = some (some i) ∧ l[i]? = some (key, v, b) ∧ l' = l.set i (key, y, b) ∧ c' = clock)
  | [], l', c', h => by
    simp only [updE, Option.some.injEq, Prod.mk.injEq] at h
    exact .inl ⟨rfl, h.1.symm, h.2.symm⟩
  | (a, v, b) :: l, l', c', h => by
    simp only [updE] at h
    simp only [posE]
    cases hq : eqT tab 20 kt key a with
    | none => simp only [hq] at h; cases h
    | some c =>
      simp only [hq] at h ⊢
      cases c with
      | true =>
        cases hse : sameEV key a with
        | false => simp only [hse, cond_false] at h; cases h
        | true =>
          simp only [hse, cond_true, Option.some.injEq, Prod.mk.injEq] at h
          have := sameEV_eq key a hse
          subst this
          exact .inr ⟨0, v, b, rfl, rfl, h.1.symm, h.2.symm⟩
      | false =>
        simp only at h ⊢
        cases hu : updE tab kt key y clock l with
        | none => simp only [hu] at h; cases h
        | some p =>
          obtain ⟨m, c2⟩ := p
          simp only [hu, Option.some.injEq, Prod.mk.injEq] at h
          obtain ⟨rfl, rfl⟩ := h
          rcases updE_pos hu with ⟨h1, h2, h3⟩ | ⟨i, v', b', h1, h2, h3, h4⟩
          · exact .inl ⟨by rw [h1], by rw [h2]; rfl, h3⟩
          · exact .inr ⟨i + 1, v', b', by rw [h1], by simpa using h2, by rw [h3]; rfl, h4⟩
omit hT in
theorem delE_pos {kt : TypeId} {key : EV} : ∀ {l l' : List (EV × EV × Nat)}, delE tab kt key l = some l' →
    (posE tab kt key l = some none ∧ l' = l) ∨ (∃ i, posE tab kt key l = some (some i) ∧ i < l.length ∧ l' = l.eraseIdx i)
  | [], l', h => by simp only [delE, Option.some.injEq] at h; exact .inl ⟨rfl, h.symm⟩
  | (a, v, b) :: l, l', h => by
    simp only [delE] at h
    simp only [posE]
    cases hq : eqT tab 20 kt key a with
    | none => simp only [hq] at h; cases h
    | some c =>
      simp only [hq] at h ⊢
      cases c with
      | true => simp only [Option.some.injEq] at h; exact .inr ⟨0, rfl, by simp, by rw [← h]; rfl⟩
      | false =>
        simp only at h ⊢
        cases hu : delE tab kt key l with
        | none => simp only [hu] at h; cases h
        | some m =>
          simp only [hu, Option.some.injEq] at h
          subst h
          rcases delE_pos hu with ⟨h1, h2⟩ | ⟨i, h1, h2, h3⟩
          · exact .inl ⟨by rw [h1], by rw [h2]⟩
          · exact .inr ⟨i + 1, by rw [h1], by simpa using h2, by rw [h3]; rfl⟩
/-- what findKey answers -/
def keyAt (es : List MapEntry) (r : Option Nat) : Option (Nat × Value) := r.bind fun i => (es[i]?).map fun e => (i, e.val)
theorem sameNow_eq {kt : TypeId} {d : TypeDesc} {key a : EV} {c r : Bool} {x y : Value} {σ : Sg} (hu : P.underlying kt = some d) (h : eqT tab 20 kt key a = some c) (hx : VR σ key x) (hy : VR σ a y)
    (hs : Instr.sameNow d x y = some r) : r = c := by
  have h2 := eqT_spec hT 20 kt key a c h σ 20 x y default (by omega) hx hy
  unfold Instr.sameNow at hs
  split at hs
  · rename_i k1 k2 a1 k3 b1
    by_cases hk : k2 = k3
    · subst hk
      rw [if_pos rfl] at hs
      cases hs
      rw [run_equalIn_int _ _ _ _ _ _ _ hu] at h2
      injection h2
    · rw [if_neg hk] at hs; cases hs
  · cases hs
    rw [run_equalIn_string _ _ _ _ _ hu] at h2
    injection h2 with h2 _
    rw [← h2, beq_toListBytes]
  · cases hs
    rw [run_equalIn_bool' _ _ _ _ _ hu] at h2
    injection h2
  · cases hs
theorem find_spec {kt : TypeId} {d : TypeDesc} {key : EV} {σ : Sg} {x : Value} (hu : P.underlying kt = some d) (hx : VR σ key x) (w : World) : ∀ {l : List (EV × EV × Nat)} {es : List MapEntry} {r : Option Nat} (i0 : Nat),
    posE tab kt key l = some r → ER σ l es → (Instr.findAsking kt x es i0).run P w = .ok (r.bind fun i => (es[i]?).map fun e => (i0 + i, e.val)) w ∧
      ∀ q, Instr.findNow d x es i0 = some q → q = (r.bind fun i => (es[i]?).map fun e => (i0 + i, e.val))
  | [], es, r, i0, h, he => by
    simp only [posE, Option.some.injEq] at h
    simp only [ER] at he
    subst h; subst he
    exact ⟨by simp [Instr.findAsking], fun q hq => by simp [Instr.findNow] at hq; simp [hq]⟩
  | (a, v, b) :: l, es, r, i0, h, he => by
    simp only [posE] at h
    obtain ⟨e, es', rfl, h1, h2, h3, h4⟩ := he
    cases hq : eqT tab 20 kt key a with
    | none => simp only [hq] at h; cases h
    | some c =>
      simp only [hq] at h
      have hr := eqT_spec hT 20 kt key a c hq σ Op.maxDepth x e.key w (by simp [Op.maxDepth]) hx h1
      cases c with
      | true =>
        simp only [Option.some.injEq] at h
        subst h
        refine ⟨by simp [Instr.findAsking, Op.equal, hr], fun q hq' => ?_⟩
        unfold Instr.findNow at hq'
        split at hq'
        · cases hq'; rfl
        · rename_i hs; have := sameNow_eq hT hu hq hx h1 hs; cases this
        · cases hq'
      | false =>
        simp only at h
        cases hp : posE tab kt key l with
        | none => simp only [hp] at h; cases h
        | some r' =>
          obtain ⟨a1, a2⟩ := find_spec hu hx w (i0 + 1) hp h4
          have hrr : r = r'.map (· + 1) := by cases r' <;> simp only [hp, Option.some.injEq] at h <;> exact h.symm
          have hgo : (r.bind fun i => ((e :: es')[i]?).map fun e => (i0 + i, e.val)) = (r'.bind fun i => (es'[i]?).map fun e => (i0 + 1 + i, e.val)) := by
            subst hrr
            cases r' with
            | none => rfl
            | some i => simp [Nat.add_assoc, Nat.add_comm 1 i]
          rw [hgo]
          refine ⟨by simp [Instr.findAsking, Op.equal, hr, a1], fun q hq' => ?_⟩
          unfold Instr.findNow at hq'
          split at hq'
          · rename_i hs; have := sameNow_eq hT hu hq hx h1 hs; cases this
          · exact a2 q hq'
          · cases hq'
theorem findKey_spec {kt : TypeId} {d : TypeDesc} {key : EV} {σ : Sg} {x : Value} (hu : P.underlying kt = some d) (hx : VR σ key x) (w : World) {l : List (EV × EV × Nat)} {es : List MapEntry} {r : Option Nat}
    (hp : posE tab kt key l = some r) (he : ER σ l es) : (Instr.findKey kt x es).run P w = .ok (keyAt es r) w := by
  obtain ⟨a1, a2⟩ := find_spec hT hu hx w 0 hp he
  simp only [Nat.zero_add] at a1 a2
  unfold Instr.findKey
  simp only [Sem.run_bind, run_underlying hu, Result.andThen_ok]
  split
  · rename_i q hq; rw [Sem.run_pure, a2 q hq]; rfl
  · exact a1
end
end Go.Proofs.YtmlkfgoiakcnhaaGreatDoor
