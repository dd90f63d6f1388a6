/- Appends. -/
import Derived.Test.YtmlkfgoiakcnhaaGreatDoorEvJ
namespace Go.Proofs.YtmlkfgoiakcnhaaGreatDoor
open Go Go.RowKit

/-- a block that is known by another number from here on -/
theorem Post.mk_move {fl : Nat} {σ : Sg} {h h' : Tr EO} {nx : Nat} {w w' : World} {o : EO} {ob : Obj} {b : Nat} {l : Loc} (H : Holds σ h w) (F : Fresh σ nx) (hfl : fl ≤ b) (hfn : fl ≤ nx) (hb : (h.get b).isSome) (hl : σ b = some l)
    (hp : ∀ j, h'.get j = if j = nx then some o else if j = b then none else h.get j) (hget : w'.heap[l.blk]? = some ob) (hoth : ∀ k, k ≠ l.blk → w'.heap[k]? = w.heap[k]?) (hsize : w'.heap.size = w.heap.size)
    (hos : w'.os = w.os) (htape : w'.tape = w.tape) (hout : w'.output = w.output) (hob : OR (upd σ nx l) l o ob) : Post fl σ h nx w (upd σ nx l) h' (Nat.succ nx) w' := by
  have hle : Le σ (upd σ nx l) := Le.upd (F nx (Nat.le_refl _)) _
  have hbn : b ≠ nx := fun e => by rw [e, F nx (Nat.le_refl _)] at hl; cases hl
  have hs : ∀ id, id ≠ nx → (h'.get id).isSome → (h.get id).isSome ∧ id ≠ b := fun id hn hs => by
    rw [hp, if_neg hn] at hs
    by_cases e : id = b
    · rw [if_pos e] at hs; cases hs
    · rw [if_neg e] at hs; exact ⟨hs, e⟩
  refine ⟨hle, fun id hi => upd_other _ _ (by omega), Nat.le_succ _, fun id hi => ?_, fun id hi => ?_, ⟨fun id o' ho' => ?_, fun i j li lj hi hj ei ej hq => ?_⟩, fun id hi => ?_, by rw [hsize]; exact Nat.le_refl _, fun k hk hne => hoth _ (fun e => hne b l hb hl e.symm), fun id l' hi he => ?_, hos, htape, hout⟩
  · rw [upd_other _ _ (by omega)]; exact F id (by omega)
  · by_cases e : id = nx
    · exact .inr (by omega)
    · exact .inl (hs id e hi).1
  · rw [hp] at ho'
    by_cases e : id = nx
    · rw [if_pos e] at ho'; cases ho'; subst e
      exact ⟨l, ob, upd_same _ _ _, hget, hob⟩
    · rw [if_neg e] at ho'
      by_cases e2 : id = b
      · rw [if_pos e2] at ho'; cases ho'
      · rw [if_neg e2] at ho'
        obtain ⟨l', ob', e1, e3, e4⟩ := H.there id o' ho'
        refine ⟨l', ob', hle _ _ e1, ?_, e4.mono hle⟩
        rw [hoth _ (fun hq => e2 (H.inj id b l' l (by rw [ho']; rfl) hb e1 hl hq))]
        exact e3
  · by_cases e : i = nx <;> by_cases e' : j = nx
    · rw [e, e']
    · rw [e, upd_same] at ei; cases ei
      rw [upd_other _ _ e'] at ej
      obtain ⟨h1, h2⟩ := hs j e' hj
      exact absurd (H.inj j b lj l h1 hb ej hl hq.symm) h2
    · rw [e', upd_same] at ej; cases ej
      rw [upd_other _ _ e] at ei
      obtain ⟨h1, h2⟩ := hs i e hi
      exact absurd (H.inj i b li l h1 hb ei hl hq) h2
    · rw [upd_other _ _ e] at ei; rw [upd_other _ _ e'] at ej
      exact H.inj i j li lj (hs i e hi).1 (hs j e' hj).1 ei ej hq
  · rw [hp, if_neg (by omega), if_neg (by omega)]
  · by_cases e : id = nx
    · rw [e, upd_same] at he; cases he; exact .inr ⟨b, l, hb, hl, rfl⟩
    · rw [upd_other _ _ e] at he
      exact .inr ⟨id, l', (hs id e hi).1, he, rfl⟩
theorem Post.mk_kill {fl : Nat} {σ : Sg} {h h' : Tr EO} {nx : Nat} {w : World} {b : Nat} (H : Holds σ h w) (F : Fresh σ nx) (hfl : fl ≤ b) (hp : ∀ j, h'.get j = if j = b then none else h.get j) : Post fl σ h nx w σ h' nx w := by
  have hs : ∀ id, (h'.get id).isSome → (h.get id).isSome := fun id hs => by
    rw [hp] at hs
    by_cases e : id = b
    · rw [if_pos e] at hs; cases hs
    · rw [if_neg e] at hs; exact hs
  refine ⟨Le.refl _, fun _ _ => rfl, Nat.le_refl _, F, fun id hi => .inl (hs id hi), ⟨fun id o' ho' => ?_, fun i j li lj hi hj ei ej hq => H.inj i j li lj (hs i hi) (hs j hj) ei ej hq⟩, fun id hi => ?_, Nat.le_refl _, fun _ _ _ => rfl, fun id l' hi he => .inr ⟨id, l', hs id hi, he, rfl⟩, rfl, rfl, rfl⟩
  · rw [hp] at ho'
    by_cases e : id = b
    · rw [if_pos e] at ho'; cases ho'
    · rw [if_neg e] at ho'; exact H.there id o' ho'
  · rw [hp, if_neg (by omega)]

section
variable {P : Program} {tab : Tab} {β : Type} {fail : β} {G : β → Prop} (hf : ¬ G fail)
include hf
theorem srcE_spec {sz : Nat} {x : EV} {h : Tr EO} {k : Nat → EVs → β} {σ : Sg} {w : World} {x' : Value} (hg : G (srcE fail sz x h k)) (hx : VR σ x x') (H : Holds σ h w) :
    ∃ m new vs, G (k m new) ∧ VRs σ new vs ∧ vs.length = m * sz ∧ ((x' = .slice none 0 0 ∧ m = 0 ∧ vs = []) ∨ ∃ a c, x' = .slice (some a) m c ∧ ∀ j u, vs[j]? = some u → w.cell? (a.add j) = some u) := by
  unfold srcE at hg
  split at hg
  · simp only [VR] at hx
    exact ⟨0, .nil, [], hg, VRs.nil, by simp, .inl ⟨hx, rfl, rfl⟩⟩
  · rename_i b off n cap
    obtain ⟨c, l, arr, t', fr, h1, h2, h3, hg2⟩ := rdB_spec hf hg H
    simp only [VR] at hx
    obtain ⟨l', e1, rfl, _⟩ := hx
    rw [h1] at e1; cases e1
    obtain ⟨es, a1, a2, hg3⟩ := readCells_spec hf _ _ _ hg2
    obtain ⟨vs, b1, b2, b3⟩ := cells_read h2 h3 (off := off) (es := es) (fun i hi => a2 i (by omega))
    exact ⟨n, es, vs, hg3, b1, by rw [b2, a1]; rfl, .inr ⟨_, _, rfl, b3⟩⟩
  · exact absurd hg hf
omit hf in
theorem run_lenOf (a : Option Addr) (n c : Nat) (w : World) : (Builtin.lenOf (.slice a n c)).run P w = .ok n w := by simp [Builtin.lenOf]
omit hf in
theorem run_append_nothing0 {t ty e : TypeId} {i : TypeInfo} {x : Value} {w : World} (ht : P.underlying t = some (.slice e)) (hi : P.info? e = some i) (hx1 : (Builtin.lenOf x).run P w = .ok 0 w) (hx2 : (Builtin.firstCells i.size 0 x).run P w = .ok #[] w) :
    (Builtin.append_ #[t, t] ty #[.slice none 0 0, x]).run P w = .ok (.slice none 0 0) w := by
  simp [Builtin.append_, run_underlying ht, sizeOf, typeInfo, hi, hx1, hx2]
omit hf in
theorem run_append_room_x {t ty e : TypeId} {i : TypeInfo} {x : Value} {w : World} {b off sLen sCap m : Nat} {news : List Value} (ht : P.underlying t = some (.slice e)) (hi : P.info? e = some i) (hx1 : (Builtin.lenOf x).run P w = .ok m w)
    (hx2 : (Builtin.firstCells i.size m x).run P w = .ok news.toArray w) (h1 : ∀ u ∈ news, u.oneCell' = true)
    (hroom : sLen + m ≤ sCap) (hc : ∀ j, j < news.length → (w.cell? ⟨b, off + sLen * i.size + j, none⟩).isSome = true) (hfz : ∀ j, j < news.length → w.frozen? ⟨b, off + sLen * i.size + j, none⟩ = false) :
    (Builtin.append_ #[t, t] ty #[.slice (some ⟨b, off, none⟩) sLen sCap, x]).run P w = .ok (.slice (some ⟨b, off, none⟩) (sLen + m) sCap) (w.setCells b (off + sLen * i.size) news) := by
  have hst := run_storeCells_cells (P := P) b (off + sLen * i.size) news 0 w (by simpa using hc) (by simpa using hfz) h1
  simp only [Nat.add_zero] at hst
  simp [Builtin.append_, run_underlying ht, sizeOf, typeInfo, hi, hx1, hx2, hroom, Addr.add_lit, hst]
omit hf in
theorem src_runs {x' : Value} {m sz : Nat} {vs : List Value} {w : World} (hl : vs.length = m * sz) (h : (x' = .slice none 0 0 ∧ m = 0 ∧ vs = []) ∨ ∃ a c, x' = .slice (some a) m c ∧ ∀ j u, vs[j]? = some u → w.cell? (a.add j) = some u) :
    (Builtin.lenOf x').run P w = .ok m w ∧ (Builtin.firstCells sz m x').run P w = .ok vs.toArray w := by
  rcases h with ⟨rfl, rfl, rfl⟩ | ⟨a, c, rfl, hc⟩
  · exact ⟨run_lenOf _ _ _ _, by simp [Builtin.firstCells]⟩
  · exact ⟨run_lenOf _ _ _ _, run_firstCells_some w sz m a m c vs hl hc⟩
omit hf in
theorem VRs.take_all {σ : Sg} {l : EVs} {vs rest : List Value} (h : VRs σ l vs) : VRs σ l ((vs ++ rest).take l.toL.length) := by
  rw [(VRs.iff.1 h).1, List.take_left]; exact h
omit hf in
theorem EVs.flat_app : ∀ {l m : EVs}, l.flat = true → m.flat = true → (l.app m).flat = true
  | .nil, m, _, h => h
  | .cons v l, m, h, k => by
    simp only [EVs.flat] at h
    simp only [EVs.app, EVs.flat]
    cases hv : v.flat with
    | false => rw [hv] at h; cases h
    | true => rw [hv] at h; exact EVs.flat_app h k
theorem appendE_spec (hT : TabOk P tab) {fl : Nat} {t ty : TypeId} {s x : EV} {h : Tr EO} {nx : Nat} {k : EV → Tr EO → Nat → β} {σ : Sg} {w : World} {s' x' : Value} (hg : G (appendE tab fail fl t s x h nx k))
    (hs : VR σ s s') (hx : VR σ x x') (H : Holds σ h w) (F : Fresh σ nx) (hfl : fl ≤ nx) :
    ∃ e h' nx' σ' e' w', (Builtin.append_ #[t, t] ty #[s', x']).run P w = .ok e' w' ∧ VR σ' e e' ∧ Post fl σ h nx w σ' h' nx' w' ∧ G (k e h' nx') := by
  unfold appendE at hg
  obtain ⟨e, ei, hu, _, hty, hg⟩ := elemE_spec hf hT hg
  obtain ⟨m, new, vs, hg, hn1, hn2, hsrc⟩ := srcE_spec hf hg hx H
  obtain ⟨i, z, i1, i2, i3, i4, i5, i6, i7⟩ := hty.info
  cases hq : (new.flat && Nat.ble 1 ei.size) with
  | false => simp only [hq] at hg; exact absurd hg hf
  | true =>
    simp only [hq, cond_true] at hg
    rw [Bool.and_eq_true] at hq
    have hflat := hn1.flat hq.1
    have hsz : 1 ≤ ei.size := Nat.le_of_ble_eq_true hq.2
    obtain ⟨x1, x2⟩ := src_runs (P := P) hn2 hsrc
    have hnl : new.toL.length = m * ei.size := by rw [(VRs.iff.1 hn1).1, hn2]
    -- a new row
    have grow : ∀ (l : EVs) (vs' : List Value) (need sCap : Nat) (h1 : Tr EO), Holds σ h1 w → VRs σ l vs' → vs'.length = need * ei.size →
        G (newCells fail h1 nx l ei.size fun h nx' => k (.slice nx 0 need none) h nx') →
        ∃ h', G (k (.slice nx 0 need none) h' (Nat.succ nx)) ∧
          VR (upd σ nx ⟨w.heap.size, grownCap w need sCap e * ei.size, ei.size⟩) (.slice nx 0 need none) (.slice (some ⟨w.heap.size, 0, none⟩) need (grownCap w need sCap e)) ∧
          Post fl σ h1 nx w (upd σ nx ⟨w.heap.size, grownCap w need sCap e * ei.size, ei.size⟩) h' (Nat.succ nx) (w.drew.alloc (.cells (vs'.toArray ++ Builtin.zeroCells z.cells (grownCap w need sCap e - need)) e)) := by
      intro l vs' need sCap h1 H1 hl hlen hg
      obtain ⟨h', hg2, hp⟩ := newCells_spec hf hg H1 F hfl
      have hge := grownCap_ge w need sCap e
      have hasz : (vs'.toArray ++ Builtin.zeroCells z.cells (grownCap w need sCap e - need)).size = grownCap w need sCap e * ei.size := by
        simp only [Array.size_append, List.size_toArray, size_zeroCells, i5, hlen, ← Nat.add_mul]
        congr 1; omega
      have := hp (w.drew.alloc (.cells (vs'.toArray ++ Builtin.zeroCells z.cells (grownCap w need sCap e - need)) e)) _ e ei.size (by
        simp only [Array.toList_append]
        exact hl.take_all) (by omega) (fun _ => rfl) rfl rfl rfl rfl
      rw [hasz] at this
      refine ⟨h', hg2, ?_, this⟩
      simp only [VR, Option.getD_none]
      refine ⟨_, upd_same _ _ _, ?_, ?_⟩
      · simp only [Nat.sub_zero]; rw [Nat.mul_div_cancel _ hsz]
      · simp only [Nat.sub_zero]; rw [Nat.mul_div_cancel _ hsz]; exact hge
    cases s with
    | slice0 =>
      simp only [VR] at hs
      subst hs
      cases m with
      | zero =>
        have hv0 : vs = [] := List.eq_nil_of_length_eq_zero (by simpa using hn2)
        subst hv0
        exact ⟨_, _, _, σ, .slice none 0 0, w, run_append_nothing0 hu i1 x1 (by rw [i2]; exact x2), by simp only [VR], Post.refl H F, hg⟩
      | succ m =>
        simp only at hg
        cases hq2 : (Nat.ble (Nat.mul (m + 1) ei.bytes) 140737488355328 && Nat.ble (m + 1) 4611686018427387904) with
        | false => simp only [hq2] at hg; exact absurd hg hf
        | true =>
          simp only [hq2, cond_true] at hg
          rw [Bool.and_eq_true] at hq2
          have b1 : (m + 1) * ei.bytes ≤ 140737488355328 := Nat.le_of_ble_eq_true hq2.1
          have b2 : m + 1 ≤ 4611686018427387904 := Nat.le_of_ble_eq_true hq2.2
          obtain ⟨h', g1, g2, g3⟩ := grow new vs (m + 1) 0 h H hn1 hn2 hg
          rcases hsrc with ⟨_, h0, _⟩ | ⟨a, c, rfl, hc⟩
          · omega
          · have hr := run_append_nil (P := P) w t ty e i z hu i1 i4 a (m + 1) c vs (by rw [i2]; exact hn2) hc (by omega) (by omega) (by rw [i3]; omega)
            exact ⟨_, h', _, _, _, _, hr, g2, g3, g1⟩
    | slice b off n cap =>
      simp only [VR] at hs
      obtain ⟨l, hl, rfl, hlen⟩ := hs
      simp only at hg
      split at hg
      · rename_i c tot ex hb
        obtain ⟨l', ob, e1, e2, arr, t', rfl, a1, a2, a3, a4, a5⟩ := H.there b _ hb
        rw [hl] at e1; cases e1
        have fits : n + m ≤ cap.getD ((l.tot - off) / l.esz) → off + (n + m) * ei.size ≤ tot →
            G (writeCells fail new c (Nat.add off (Nat.mul n ei.size)) fun c => setB fail fl h b (some (.cells c tot ex)) fun h => k (.slice b off (Nat.add n m) cap) h nx) →
            ∃ e h' nx' σ' e' w', (Builtin.append_ #[t, t] ty #[.slice (some ⟨l.blk, off, none⟩) n (cap.getD ((l.tot - off) / l.esz)), x']).run P w = .ok e' w' ∧ VR σ' e e' ∧ Post fl σ h nx w σ' h' nx' w' ∧ G (k e h' nx') := by
          intro f1 f2 hg
          obtain ⟨c', hc, hg⟩ := writeCells_spec hf _ _ _ _ hg
          obtain ⟨hflb, h', hp, hg2⟩ := setB_spec hf hg
          obtain ⟨l', l1, l2, l3, l4⟩ := Post.mk_write (fl := fl) (nx := nx) (off := off + n * ei.size) H F hflb hb hc hp hn1 (by rw [hn2]; rw [Nat.add_mul] at f2; omega)
          rw [hl] at l1; cases l1
          refine ⟨_, h', _, σ, .slice (some ⟨l.blk, off, none⟩) (n + m) (cap.getD ((l.tot - off) / l.esz)), _, ?_, ?_, l2, hg2⟩
          · have := run_append_room_x (ty := ty) (sCap := cap.getD ((l.tot - off) / l.esz)) (b := l.blk) (off := off) (sLen := n) hu i1 x1 (by rw [i2]; exact x2) hflat f1 (by rw [i2]; exact l3) (by rw [i2]; exact l4)
            rw [i2] at this
            exact this
          · simp only [VR]; exact ⟨l, hl, rfl, f1⟩
        have bounds : ∀ (X : β), G (bif Nat.ble (Nat.mul (Nat.add n m) ei.bytes) 140737488355328 && Nat.ble (Nat.add n m) 4611686018427387904 then X else fail) →
            G X ∧ (n + m) * ei.bytes ≤ 140737488355328 ∧ n + m ≤ 4611686018427387904 := by
          intro X hg
          cases hq2 : (Nat.ble (Nat.mul (Nat.add n m) ei.bytes) 140737488355328 && Nat.ble (Nat.add n m) 4611686018427387904) with
          | false => rw [hq2] at hg; exact absurd hg hf
          | true =>
            rw [hq2] at hg
            rw [Bool.and_eq_true] at hq2
            exact ⟨hg, Nat.le_of_ble_eq_true hq2.1, Nat.le_of_ble_eq_true hq2.2⟩
        -- the cells that are there already
        have olds : ∀ (old : EVs), old.toL.length = n * ei.size → (∀ i, i < n * ei.size → c.get (off + i) = old.toL[i]?) → ∃ us : List Value, VRs σ old us ∧ us.length = n * ei.size ∧ (∀ j u, us[j]? = some u → w.cell? ((⟨l.blk, off, none⟩ : Addr).add j) = some u) := by
          intro old o1 o2
          obtain ⟨us, u1, u2, u3⟩ := cells_read e2 a5 (off := off) (es := old) (fun i hi => o2 i (by omega))
          exact ⟨us, u1, by rw [u2, o1], u3⟩
        have rungrow : ∀ (us : List Value) (sCap : Nat), us.length = n * ei.size → (∀ j u, us[j]? = some u → w.cell? ((⟨l.blk, off, none⟩ : Addr).add j) = some u) → n ≤ sCap → sCap < n + m → (n + m) * ei.bytes ≤ 140737488355328 → n + m ≤ 4611686018427387904 →
            (Builtin.append_ #[t, t] ty #[.slice (some ⟨l.blk, off, none⟩) n sCap, x']).run P w = .ok (.slice (some ⟨w.heap.size, 0, none⟩) (n + m) (grownCap w (n + m) sCap e)) (w.drew.alloc (.cells ((us ++ vs).toArray ++ Builtin.zeroCells z.cells (grownCap w (n + m) sCap e - (n + m))) e)) := by
          intro us sCap u1 u2 q1 q2 b1 b2
          rcases hsrc with ⟨_, h0, _⟩ | ⟨a, cc, rfl, hc⟩
          · omega
          · have hr := run_append_grow (P := P) w t ty e i z hu i1 i4 ⟨l.blk, off, none⟩ n sCap us (by rw [i2]; exact u1) u2 a m cc vs (by rw [i2]; exact hn2) hc q2 (by omega) (by rw [i3]; exact growslice_fits q2 b1)
            rw [hr]
            simp
        cases cap with
        | some q =>
          simp only [Option.getD_some] at hg hlen fits ⊢
          cases hq3 : (Nat.ble (Nat.add n m) q && Nat.ble (Nat.add off (Nat.mul (Nat.add n m) ei.size)) tot) with
          | true =>
            rw [hq3] at hg
            rw [Bool.and_eq_true] at hq3
            exact fits (Nat.le_of_ble_eq_true hq3.1) (Nat.le_of_ble_eq_true hq3.2) hg
          | false =>
            rw [hq3] at hg
            obtain ⟨hg, b1, b2⟩ := bounds _ hg
            cases hq4 : Nat.ble (Nat.succ q) (Nat.add n m) with
            | false => rw [hq4] at hg; exact absurd hg hf
            | true =>
              rw [hq4] at hg
              have q2 : q < n + m := Nat.le_of_ble_eq_true hq4
              obtain ⟨old, o1, o2, hg2⟩ := readCells_spec hf _ _ _ hg
              obtain ⟨us, u1, u2, u3⟩ := olds old o1 o2
              obtain ⟨h', g1, g2, g3⟩ := grow (old.app new) (us ++ vs) (n + m) q h H (u1.app hn1) (by rw [List.length_append, u2, hn2, Nat.add_mul]) hg2
              exact ⟨_, h', _, _, _, _, rungrow us q u2 u3 hlen q2 b1 b2, g2, g3, g1⟩
        | none =>
          simp only [Option.getD_none] at hg hlen fits ⊢
          cases hq3 : (Nat.beq ex ei.size && Nat.ble (Nat.add off (Nat.mul (Nat.add n m) ei.size)) tot) with
          | true =>
            rw [hq3] at hg
            rw [Bool.and_eq_true] at hq3
            have hex : ex = ei.size := Nat.eq_of_beq_eq_true hq3.1
            have hin : off + (n + m) * ei.size ≤ tot := Nat.le_of_ble_eq_true hq3.2
            refine fits ?_ hin hg
            rw [a4 (by omega), hex, Nat.le_div_iff_mul_le (by omega)]
            omega
          | false =>
            rw [hq3] at hg
            obtain ⟨hg, b1, b2⟩ := bounds _ hg
            cases hq4 : (Nat.beq (Nat.add off (Nat.mul n ei.size)) tot && Nat.beq off 0 && Nat.beq ex ei.size) with
            | false => rw [hq4] at hg; exact absurd hg hf
            | true =>
              rw [hq4] at hg
              rw [Bool.and_eq_true, Bool.and_eq_true] at hq4
              have c1 : off + n * ei.size = tot := Nat.eq_of_beq_eq_true hq4.1.1
              have c2 : off = 0 := Nat.eq_of_beq_eq_true hq4.1.2
              have c3 : ex = ei.size := Nat.eq_of_beq_eq_true hq4.2
              subst c2
              have hesz : l.esz = ei.size := by rw [a4 (by omega), c3]
              obtain ⟨old, o1, o2, hg2⟩ := readCells_spec hf _ _ _ hg
              obtain ⟨us, u1, u2, u3⟩ := olds old o1 o2
              obtain ⟨hflb, h1, hp1, hg3⟩ := setB_spec hf hg2
              simp only [Nat.sub_zero] at hlen ⊢
              by_cases hroom : n + m ≤ l.tot / l.esz
              · -- there was room: the block is known by a new number
                unfold newCells newB at hg3
                obtain ⟨c2, hc2, hg4⟩ := writeCells_spec hf _ _ _ _ hg3
                obtain ⟨h2, hp2, hg5⟩ := Tr.put_spec hf _ _ _ _ hg4
                have hroom' : (n + m) * ei.size ≤ l.tot := by
                  rw [hesz] at hroom
                  exact (Nat.le_div_iff_mul_le (by omega)).1 hroom
                obtain ⟨arr', s1, s2, s3, s4, s5, s6, s7, s8⟩ := setCells_heap l.blk vs (0 + n * ei.size) w arr t' (0, 0) e2
                have hle : Le σ (upd σ nx l) := Le.upd (F nx (Nat.le_refl _)) _
                have happ : (old.app new).toL.length = (n + m) * ei.size := by rw [EVs.app_toL, List.length_append, o1, hnl, Nat.add_mul]; rfl
                refine ⟨_, h2, _, upd σ nx l, .slice (some ⟨l.blk, 0, none⟩) (n + m) (l.tot / l.esz), w.setCells l.blk (0 + n * ei.size) vs, ?_, ?_, ?_, hg5⟩
                · have := run_append_room_x (ty := ty) (sCap := l.tot / l.esz) (b := l.blk) (off := 0) (sLen := n) hu i1 x1 (by rw [i2]; exact x2) hflat hroom
                    (by
                      intro j hj
                      rw [i2]
                      have : 0 + n * ei.size + j < arr.size := by rw [a1]; rw [Nat.add_mul] at hroom'; omega
                      simp [World.cell?, e2]; omega)
                    (by intro j hj; simp [World.frozen?, e2])
                  rw [i2] at this
                  exact this
                · simp only [VR, Option.getD_none, Nat.sub_zero]
                  exact ⟨l, upd_same _ _ _, rfl, hroom⟩
                · refine Post.mk_move (o := .cells c2 (old.app new).len ei.size) H F hflb hfl (by rw [hb]; rfl) hl (fun j => ?_) s1 s4 s5 s6 s7 s8 ⟨arr', t', rfl, by rw [s2, a1], by rw [EVs.len_toL, happ]; exact hroom', fun h0 => by omega, fun _ => hesz, fun i' e' he' => ?_⟩
                  · rw [hp2, hp1]
                  · rw [hc2] at he'
                    simp only [Nat.zero_add, Nat.zero_le, true_and, Nat.sub_zero, Tr.get_nil] at he'
                    split at he'
                    · rename_i hi'
                      rw [happ] at hi'
                      rw [EVs.app_toL] at he'
                      rw [s3, Nat.zero_add]
                      rw [Nat.add_mul] at hi' hroom'
                      by_cases hii : i' < n * ei.size
                      · rw [List.getElem?_append_left (by rw [o1]; exact hii)] at he'
                        rw [if_neg (by omega)]
                        have := o2 i' hii
                        rw [he', Nat.zero_add] at this
                        obtain ⟨v, v1, v2⟩ := a5 i' e' this
                        exact ⟨v, v1, v2.mono hle⟩
                      · rw [List.getElem?_append_right (by rw [o1]; exact Nat.le_of_not_lt hii), o1] at he'
                        obtain ⟨v, v1, v2⟩ := hn1.get he'
                        refine ⟨v, ?_, v2.mono hle⟩
                        rw [if_pos ⟨by omega, by omega, by omega⟩]
                        exact v1
                    · cases he'
              · -- a new row
                have pk := Post.mk_kill (fl := fl) H F hflb hp1
                obtain ⟨h', g1, g2, g3⟩ := grow (old.app new) (us ++ vs) (n + m) (l.tot / l.esz) h1 pk.holds (u1.app hn1) (by rw [List.length_append, u2, hn2, Nat.add_mul]) hg3
                exact ⟨_, h', _, _, _, _, rungrow us (l.tot / l.esz) u2 u3 hlen (by omega) b1 b2, g2, pk.trans g3, g1⟩
      · exact absurd hg hf
    | _ => exact absurd hg hf
end
end Go.Proofs.YtmlkfgoiakcnhaaGreatDoor
