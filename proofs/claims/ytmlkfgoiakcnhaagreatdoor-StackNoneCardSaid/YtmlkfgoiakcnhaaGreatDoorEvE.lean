/- Operations that leave the heap alone: the abstract run's answers are the machine's. -/
import Derived.Test.YtmlkfgoiakcnhaaGreatDoorEvD
namespace Go.Proofs.YtmlkfgoiakcnhaaGreatDoor
open Go Go.RowKit

section
variable {P : Program} {tab : Tab} {β : Type} {fail : β} {G : β → Prop} (hf : ¬ G fail) (hT : TabOk P tab)
include hf hT
theorem elemE_spec {t : TypeId} {k : TypeId → TyE → β} (hg : G (elemE tab fail t k)) : ∃ e ei, P.underlying t = some (.slice e) ∧ tab.ty.get e = some ei ∧ TyOk P e ei ∧ G (k e ei) := by
  unfold elemE at hg
  cases hi : tab.ty.get t with
  | none => simp only [hi] at hg; exact absurd hg hf
  | some i =>
    simp only [hi] at hg
    have hu := (hT.ty t i hi).und
    cases hd : i.desc with
    | slice e =>
      simp only [hd] at hg
      cases he : tab.ty.get e with
      | none => simp only [he] at hg; exact absurd hg hf
      | some ei => simp only [he] at hg; exact ⟨e, ei, by rw [hu, hd], he, hT.ty e ei he, hg⟩
    | _ => simp only [hd] at hg; exact absurd hg hf
theorem mapT_spec {t : TypeId} {k : TypeId → TypeId → TyE → β} (hg : G (mapT tab fail t k)) : ∃ kt e ei, P.underlying t = some (.map kt e) ∧ TyOk P e ei ∧ G (k kt e ei) := by
  unfold mapT at hg
  cases hi : tab.ty.get t with
  | none => simp only [hi] at hg; exact absurd hg hf
  | some i =>
    simp only [hi] at hg
    have hu := (hT.ty t i hi).und
    cases hd : i.desc with
    | map kt e =>
      simp only [hd] at hg
      cases he : tab.ty.get e with
      | none => simp only [he] at hg; exact absurd hg hf
      | some ei => simp only [he] at hg; exact ⟨kt, e, ei, by rw [hu, hd], hT.ty e ei he, hg⟩
    | _ => simp only [hd] at hg; exact absurd hg hf
theorem fieldAddrE_spec {s : TypeId} {v : EV} {f : Nat} {k : EV → β} {σ : Sg} {w : World} {v' : Value} (hg : G (fieldAddrE tab fail s v f k)) (hv : VR σ v v') :
    ∃ e e', (Instr.fieldAt s v' f).run P w = .ok e' w ∧ VR σ e e' ∧ G (k e) := by
  unfold fieldAddrE at hg
  cases v with
  | ptr b off =>
    simp only at hg
    cases hi : tab.ty.get s with
    | none => simp only [hi] at hg; exact absurd hg hf
    | some i =>
      simp only [hi] at hg
      have hu := (hT.ty s i hi).und
      cases hd : i.desc with
      | struct fs =>
        simp only [hd] at hg
        cases hfd : fs[f]? with
        | none => simp only [hfd] at hg; exact absurd hg hf
        | some fd =>
          simp only [hfd] at hg
          cases hft : tab.ty.get fd.type with
          | none => simp only [hft] at hg; exact absurd hg hf
          | some fi =>
            simp only [hft] at hg
            cases hz : Nat.beq fi.size 0 with
            | true => rw [hz] at hg; exact absurd hg hf
            | false =>
              rw [hz] at hg
              simp only [VR] at hv
              obtain ⟨l, hl, rfl⟩ := hv
              have hz' : ¬ fi.size = 0 := fun h => by rw [h] at hz; cases hz
              refine ⟨_, .pointer (some ⟨l.blk, off + fd.offset, none⟩), ?_, ?_, hg⟩
              · rw [hd] at hu
                simp [Instr.fieldAt, run_underlying hu, hfd, Instr.sureAddr, fieldPlace, (hT.ty _ _ hft).run_size, hz', addr_add']
              · simp only [VR]; exact ⟨l, hl, rfl⟩
      | _ => simp only [hd] at hg; exact absurd hg hf
  | _ => exact absurd hg hf
theorem fieldE_spec {s : TypeId} {v : EV} {f : Nat} {k : EV → β} {σ : Sg} {w : World} {v' : Value} (hg : G (fieldE tab fail s v f k)) (hv : VR σ v v') :
    ∃ e e', (Instr.field s v' f).run P w = .ok e' w ∧ VR σ e e' ∧ G (k e) := by
  unfold fieldE at hg
  cases v with
  | agg a =>
    simp only at hg
    cases hi : tab.ty.get s with
    | none => simp only [hi] at hg; exact absurd hg hf
    | some i =>
      simp only [hi] at hg
      have hu := (hT.ty s i hi).und
      cases hd : i.desc with
      | struct fs =>
        simp only [hd] at hg
        cases hfd : fs[f]? with
        | none => simp only [hfd] at hg; exact absurd hg hf
        | some fd =>
          simp only [hfd] at hg
          cases hp : partE tab fd.type a fd.offset with
          | none => simp only [hp] at hg; exact absurd hg hf
          | some e =>
            simp only [hp] at hg
            simp only [VR] at hv
            obtain ⟨xs, rfl, hxs⟩ := hv
            obtain ⟨e', r, q⟩ := partE_spec hT hp hxs w
            refine ⟨e, e', ?_, q, hg⟩
            rw [hd] at hu
            simp [Instr.field, run_underlying hu, hfd, asAgg, r]
      | _ => simp only [hd] at hg; exact absurd hg hf
  | _ => exact absurd hg hf
theorem indexAddrE_spec {t : TypeId} {v i : EV} {k : EV → β} {σ : Sg} {w : World} {v' i' : Value} (hg : G (indexAddrE tab fail t v i k)) (hv : VR σ v v') (hi : VR σ i i') :
    ∃ e e', (Instr.indexAt t v' i').run P w = .ok e' w ∧ VR σ e e' ∧ G (k e) := by
  unfold indexAddrE at hg
  split at hg
  · rename_i ik n
    simp only [VR] at hi
    subst hi
    split at hg
    · rename_i b off len cap
      obtain ⟨e, ei, hu, _, hty, hg⟩ := elemE_spec hf hT hg
      simp only [VR] at hv
      obtain ⟨l, hl, rfl, _⟩ := hv
      cases hlt : Nat.ble (Nat.succ n) len with
      | false => rw [hlt] at hg; exact absurd hg hf
      | true =>
        rw [hlt] at hg
        have hn : n < len := Nat.le_of_ble_eq_true hlt
        refine ⟨_, .pointer (some ⟨l.blk, off + n * ei.size, none⟩), ?_, ?_, hg⟩
        · have h1 : (0 : Int) ≤ (n : Int) ∧ (n : Int) < (len : Int) := by omega
          simp [Instr.indexAt, asIntOf, run_underlying hu, h1, hn, hty.run_size, addr_add']
        · simp only [VR]; exact ⟨l, hl, rfl⟩
    · rename_i b off
      simp only [VR] at hv
      obtain ⟨l, hl, rfl⟩ := hv
      cases hti : tab.ty.get t with
      | none => simp only [hti] at hg; exact absurd hg hf
      | some ti =>
        simp only [hti] at hg
        have hu := (hT.ty t ti hti).und
        cases hd : ti.desc with
        | array len e =>
          simp only [hd] at hg
          rw [hd] at hu
          cases he : tab.ty.get e with
          | none => simp only [he] at hg; exact absurd hg hf
          | some ei =>
            simp only [he] at hg
            cases hlt : Nat.ble (Nat.succ n) len with
            | false => rw [hlt] at hg; exact absurd hg hf
            | true =>
              rw [hlt] at hg
              have hn : n < len := Nat.le_of_ble_eq_true hlt
              refine ⟨_, .pointer (some ⟨l.blk, off + n * ei.size, none⟩), ?_, ?_, hg⟩
              · have h1 : (0 : Int) ≤ (n : Int) ∧ (n : Int) < (len : Int) := by omega
                simp [Instr.indexAt, asIntOf, run_underlying hu, Instr.sureAddr, h1, hn, (hT.ty _ _ he).run_size, addr_add']
              · simp only [VR]; exact ⟨l, hl, rfl⟩
        | _ => simp only [hd] at hg; exact absurd hg hf
    · exact absurd hg hf
  · exact absurd hg hf
theorem indexE_spec {t : TypeId} {v i : EV} {k : EV → β} {σ : Sg} {w : World} {v' i' : Value} (hg : G (indexE tab fail t v i k)) (hv : VR σ v v') (hi : VR σ i i') :
    ∃ e e', (Instr.index t v' i').run P w = .ok e' w ∧ VR σ e e' ∧ G (k e) := by
  unfold indexE at hg
  split at hg
  · rename_i ik n
    simp only [VR] at hi
    subst hi
    split at hg
    · rename_i s
      cases hti : tab.ty.get t with
      | none => simp only [hti] at hg; exact absurd hg hf
      | some ti =>
        simp only [hti] at hg
        have hu := (hT.ty t ti hti).und
        cases hd : ti.desc with
        | string =>
          simp only [hd] at hg
          rw [hd] at hu
          cases hs : s[n]? with
          | none => simp only [hs] at hg; exact absurd hg hf
          | some c =>
            simp only [hs] at hg
            simp only [VR] at hv
            subst hv
            refine ⟨_, .int .u8 (c.toNat : Int), ?_, ?_, hg⟩
            · have h1 : (⟨s.toArray⟩ : ByteArray)[n]? = some c := by
                have hn := (List.getElem?_eq_some_iff.1 hs).1
                have h2 : n < (⟨s.toArray⟩ : ByteArray).size := by show n < s.toArray.size; simpa using hn
                rw [getElem?_pos (⟨s.toArray⟩ : ByteArray) n h2]
                exact congrArg some (List.getElem?_eq_some_iff.1 hs).2
              simp [Instr.index, asIntOf, run_underlying hu, h1]
            · simp only [VR]; rfl
        | _ => simp only [hd] at hg; exact absurd hg hf
    · rename_i l
      cases hti : tab.ty.get t with
      | none => simp only [hti] at hg; exact absurd hg hf
      | some ti =>
        simp only [hti] at hg
        have hu := (hT.ty t ti hti).und
        cases hd : ti.desc with
        | array len e =>
          simp only [hd] at hg
          rw [hd] at hu
          cases he : tab.ty.get e with
          | none => simp only [he] at hg; exact absurd hg hf
          | some ei =>
            simp only [he] at hg
            cases hlt : Nat.ble (Nat.succ n) len with
            | false => rw [hlt] at hg; exact absurd hg hf
            | true =>
              rw [hlt] at hg
              simp only [cond_true] at hg
              have hn : n < len := Nat.le_of_ble_eq_true hlt
              cases hp : partE tab e l (Nat.mul n ei.size) with
              | none => simp only [hp] at hg; exact absurd hg hf
              | some x =>
                simp only [hp] at hg
                simp only [VR] at hv
                obtain ⟨xs, rfl, hxs⟩ := hv
                obtain ⟨e', r, q⟩ := partE_spec hT hp hxs w
                refine ⟨x, e', ?_, q, hg⟩
                have h1 : (0 : Int) ≤ (n : Int) ∧ (n : Int) < (len : Int) := by omega
                have r' : (part e xs (n * ei.size)).run P w = .ok e' w := r
                simp [Instr.index, asIntOf, run_underlying hu, h1, hn, (hT.ty _ _ he).run_size, r']
        | _ => simp only [hd] at hg; exact absurd hg hf
    · exact absurd hg hf
  · exact absurd hg hf
omit hT in
theorem entriesE_spec {v : EV} {h : Tr EO} {k : List (EV × EV × Nat) → β} {σ : Sg} {w : World} {v' : Value} (hg : G (entriesE fail v h k)) (hv : VR σ v v') (H : Holds σ h w) :
    ∃ (l : List (EV × EV × Nat)) (es : Array MapEntry), ER σ l es.toList ∧ G (k l) ∧
      ((v' = .map none ∧ es = #[]) ∨ ∃ r clock, v' = .map (some r) ∧ w.heap[r]? = some (.map es clock)) := by
  unfold entriesE at hg
  split at hg
  · simp only [VR] at hv
    exact ⟨[], #[], by simp [ER], hg, .inl ⟨hv, rfl⟩⟩
  · rename_i b
    split at hg
    · rename_i l clock ho
      obtain ⟨lc, ob, h1, h2, h3⟩ := H.there b _ ho
      obtain ⟨ms, rfl, h4⟩ := h3
      simp only [VR] at hv
      obtain ⟨lc', h5, rfl⟩ := hv
      rw [h1] at h5; cases h5
      exact ⟨l, ms, h4, hg, .inr ⟨_, _, rfl, h2⟩⟩
    · exact absurd hg hf
  · exact absurd hg hf
theorem lookupE_spec {t : TypeId} {v key : EV} {ok : Bool} {h : Tr EO} {k : EV → β} {σ : Sg} {w : World} {v' key' : Value} (hg : G (lookupE tab fail t v key ok h k)) (hv : VR σ v v') (hk : VR σ key key') (H : Holds σ h w) :
    ∃ e e', (Instr.lookup t v' key' ok).run P w = .ok e' w ∧ VR σ e e' ∧ G (k e) := by
  unfold lookupE at hg
  obtain ⟨kt, et, ei, hu, hty, hg⟩ := mapT_spec hf hT hg
  cases hkt : keyT tab 20 kt key with
  | false => rw [hkt] at hg; exact absurd hg hf
  | true =>
    rw [hkt] at hg
    simp only [cond_true] at hg
    obtain ⟨l, es, h1, hg, h2⟩ := entriesE_spec hf hg hv H
    obtain ⟨d, hd⟩ : ∃ d, P.underlying kt = some d := by
      unfold keyT at hkt
      cases hi : tab.ty.get kt with
      | none => rw [hi] at hkt; cases hkt
      | some i => exact ⟨_, (hT.ty kt i hi).und⟩
    have hck : ∀ em, (Instr.checkKey em 10000 kt key').run P w = .ok () w := fun em => keyT_spec hT 20 kt key hkt em σ 10000 key' w (by omega) hk
    have hes : ∀ (c : Option (Nat × Value)), (Instr.findKey kt key' es.toList).run P w = .ok c w → (Instr.lookup t v' key' ok).run P w =
        ((match c with | some (_, v) => (pure (v, true) : Sem (Value × Bool)) | none => do pure (← zeroValue et, false)).run P w).andThen fun p w => .ok (if ok then .tuple #[p.1, .bool p.2] else p.1) w := by
      intro c hc
      unfold Instr.lookup
      rcases h2 with ⟨rfl, rfl⟩ | ⟨r, clock, rfl, hr⟩
      · simp only [Sem.run_bind, run_underlying hu, Result.andThen_ok, Sem.run_pure, hck, hc]
        cases c with
        | none => simp only [Sem.run_bind]; cases (zeroValue et).run P w <;> rfl
        | some p => rfl
      · have hgo : (getObj r).run P w = .ok (.map es clock) w := by simp [getObj, Sem.run, hr]
        simp only [Sem.run_bind, run_underlying hu, Result.andThen_ok, Sem.run_pure, hgo, hck, hc]
        cases c with
        | none => simp only [Sem.run_bind]; cases (zeroValue et).run P w <;> rfl
        | some p => rfl
    cases hfe : findE tab kt key l with
    | none => simp only [hfe] at hg; exact absurd hg hf
    | some r =>
      simp only [hfe] at hg
      rcases findE_pos hfe with ⟨rfl, hp⟩ | ⟨i, a, u, b, rfl, hp, hli⟩
      · have hr := hes _ (findKey_spec hT hd hk w hp h1)
        obtain ⟨z, z1, z2, z3, z4⟩ := hty.run_zero w
        simp only [keyAt, Option.bind_none, Sem.run_bind, z1, Result.andThen_ok, Sem.run_pure] at hr
        cases ok with
        | true => exact ⟨_, _, hr, by simp only [if_true, VR]; exact ⟨_, rfl, VRs.cons (z3 σ) (VRs.cons (by simp only [VR]) VRs.nil)⟩, hg⟩
        | false => exact ⟨_, _, hr, by simpa using z3 σ, hg⟩
      · have hr := hes _ (findKey_spec hT hd hk w hp h1)
        obtain ⟨e, he, hve⟩ : ∃ e, es.toList[i]? = some e ∧ VR σ u e.val := by
          clear hr hes hp hg hfe h2 hck
          generalize es.toList = m at h1
          induction l generalizing i m with
          | nil => simp at hli
          | cons x l ih =>
            obtain ⟨x1, x2, x3⟩ := x
            obtain ⟨e, es', rfl, q1, q2, q3, q4⟩ := h1
            cases i with
            | zero => simp at hli; obtain ⟨rfl, rfl, rfl⟩ := hli; exact ⟨e, rfl, q2⟩
            | succ i => simp at hli; obtain ⟨e', h5, h6⟩ := ih i hli es' q4; exact ⟨e', by simpa using h5, h6⟩
        simp only [keyAt, Option.bind_some, he, Option.map_some, Sem.run_pure, Result.andThen_ok] at hr
        cases ok with
        | true => exact ⟨_, _, hr, by simp only [if_true, VR]; exact ⟨_, rfl, VRs.cons hve (VRs.cons (by simp only [VR]) VRs.nil)⟩, hg⟩
        | false => exact ⟨_, _, hr, by simpa using hve, hg⟩
omit hT in
theorem unE_spec {op : UnOp} {a : EV} {k : EV → β} {σ : Sg} {w : World} {a' : Value} (hg : G (unE fail op a k)) (ha : VR σ a a') : ∃ e e', (Op.unary op a').run P w = .ok e' w ∧ VR σ e e' ∧ G (k e) := by
  unfold unE at hg
  split at hg
  · split at hg
    · rename_i b
      simp only [VR] at ha; subst ha
      exact ⟨_, .bool (!b), by simp [Op.unary], by simp only [VR], hg⟩
    · simp only [VR] at ha; obtain ⟨b, rfl⟩ := ha
      exact ⟨_, .bool (!b), by simp [Op.unary], by simp only [VR]; exact ⟨_, rfl⟩, hg⟩
    · exact absurd hg hf
  · split at hg
    · rename_i ki n
      simp only [VR] at ha; subst ha
      exact ⟨_, .int ki (ki.wrap (0 - n)), by simp [Op.unary, Op.intArith], by simp only [VR], forceI_spec hg⟩
    · exact absurd hg hf
  · exact absurd hg hf
theorem convE_spec {src dst : TypeId} {a : EV} {k : EV → β} {σ : Sg} {w : World} {a' : Value} (hg : G (convE tab fail src dst a k)) (ha : VR σ a a') : ∃ e e', (convert src dst a').run P w = .ok e' w ∧ VR σ e e' ∧ G (k e) := by
  unfold convE at hg
  cases hs : tab.ty.get src with
  | none => simp only [hs] at hg; exact absurd hg hf
  | some si =>
    simp only [hs] at hg
    have hus := (hT.ty src si hs).und
    cases hi : tab.ty.get dst with
    | none => simp only [hi] at hg; exact absurd hg hf
    | some i =>
      simp only [hi] at hg
      have hu := (hT.ty dst i hi).und
      cases hd : i.desc with
      | int ki =>
        simp only [hd] at hg
        rw [hd] at hu
        split at hg
        · rename_i k2 n
          simp only [VR] at ha; subst ha
          refine ⟨_, .int ki (ki.wrap n), ?_, by simp only [VR], forceI_spec hg⟩
          simp [convert, run_underlying hu, run_underlying hus, Conv.intToInt]
        · simp only [VR] at ha; obtain ⟨n, rfl⟩ := ha
          refine ⟨_, .int ki (ki.wrap n), ?_, by simp only [VR]; exact ⟨_, rfl⟩, hg⟩
          simp [convert, run_underlying hu, run_underlying hus, Conv.intToInt]
        · rename_i k2 lo hi
          simp only [VR] at ha; obtain ⟨n, rfl, h1, h2⟩ := ha
          have hrun : (convert src dst (.int k2 n)).run P w = .ok (.int ki (ki.wrap n)) w := by simp [convert, run_underlying hu, run_underlying hus, Conv.intToInt]
          cases hb : (eqInt (ki.wrap lo) lo && eqInt (ki.wrap hi) hi) with
          | false =>
            rw [hb] at hg
            exact ⟨_, _, hrun, by simp only [VR]; exact ⟨_, rfl⟩, hg⟩
          | true =>
            rw [hb] at hg
            rw [Bool.and_eq_true, eqInt_eq, eqInt_eq, beq_iff_eq, beq_iff_eq] at hb
            have hw : ki.wrap n = n := by
              obtain ⟨e1, e2⟩ := hb
              cases ki <;> simp only [IntKind.wrap, IntKind.signed, IntKind.bits] at e1 e2 ⊢ <;> simp at e1 e2 ⊢ <;> omega
            rw [hw] at hrun
            exact ⟨_, _, hrun, by simp only [VR]; exact ⟨n, rfl, h1, h2⟩, hg⟩
        · exact absurd hg hf
      | string =>
        simp only [hd] at hg
        rw [hd] at hu
        cases hds : si.desc with
        | string =>
          simp only [hds] at hg
          rw [hds] at hus
          split at hg
          · rename_i b
            simp only [VR] at ha; subst ha
            exact ⟨_, .string ⟨b.toArray⟩, by simp [convert, run_underlying hu, run_underlying hus], by simp only [VR], hg⟩
          · simp only [VR] at ha; obtain ⟨s, rfl⟩ := ha
            exact ⟨_, .string s, by simp [convert, run_underlying hu, run_underlying hus], by simp only [VR]; exact ⟨_, rfl⟩, hg⟩
          · exact absurd hg hf
        | _ => simp only [hds] at hg; exact absurd hg hf
      | _ => simp only [hd] at hg; exact absurd hg hf
omit hT in
theorem extractE_spec {v : EV} {i : Nat} {k : EV → β} {σ : Sg} {w : World} {v' : Value} (hg : G (extractE fail v i k)) (hv : VR σ v v') : ∃ e e', (Instr.extract v' i).run P w = .ok e' w ∧ VR σ e e' ∧ G (k e) := by
  unfold extractE at hg
  split at hg
  · rename_i l
    simp only [VR] at hv
    obtain ⟨xs, rfl, hxs⟩ := hv
    cases hgl : l.get i with
    | none => simp only [hgl] at hg; exact absurd hg hf
    | some e =>
      simp only [hgl] at hg
      rw [EVs.get_toL] at hgl
      obtain ⟨u, hu, hr⟩ := hxs.get hgl
      rw [Array.getElem?_toList] at hu
      exact ⟨e, u, by simp [Instr.extract, hu], hr, hg⟩
  · exact absurd hg hf
end
end Go.Proofs.YtmlkfgoiakcnhaaGreatDoor
