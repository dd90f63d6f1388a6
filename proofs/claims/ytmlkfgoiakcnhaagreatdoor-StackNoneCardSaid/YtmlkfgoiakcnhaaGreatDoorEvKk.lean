/- Conversions between strings and bytes; clear; copy. -/
import Derived.Test.YtmlkfgoiakcnhaaGreatDoorEvK
import Derived.Laws.IdiomStrings
namespace Go.Proofs.YtmlkfgoiakcnhaaGreatDoor
open Go Go.RowKit

theorem bytesE_VRs (σ : Sg) : ∀ s : List UInt8, VRs σ (bytesE s) (s.map fun b => Value.int .u8 b.toNat)
  | [] => by simp only [bytesE, VRs]; rfl
  | b :: s => VRs.cons (by simp only [VR]; rfl) (bytesE_VRs σ s)
theorem ofBytesE_spec {σ : Sg} : ∀ {l : EVs} {s : List UInt8} {vs : List Value}, ofBytesE l = some s → VRs σ l vs → vs = s.map fun b => Value.int .u8 b.toNat
  | .nil, s, vs, h, hv => by
    simp only [ofBytesE, Option.some.injEq] at h
    simp only [VRs] at hv
    subst h; subst hv; rfl
  | .cons e l, s, vs, h, hv => by
    simp only [VRs] at hv
    obtain ⟨u, m, rfl, h1, h2⟩ := hv
    unfold ofBytesE at h
    split at h
    · rename_i h0; cases h0
    · rename_i n l' heq
      cases heq
      cases hb : Nat.blt n 256 with
      | false => rw [hb] at h; cases h
      | true =>
        rw [hb] at h
        simp only [cond_true] at h
        cases hs : ofBytesE l with
        | none => rw [hs] at h; cases h
        | some s' =>
          rw [hs] at h
          simp only [Option.some.injEq] at h
          subst h
          have hn : n < 256 := by simpa [Nat.blt, Nat.succ_le_iff] using hb
          simp only [VR] at h1
          subst h1
          rw [List.map_cons, ← ofBytesE_spec hs h2]
          have : (UInt8.ofNat n).toNat = n := by simp; omega
          rw [this]; rfl
    · cases h

section
variable {P : Program} {tab : Tab} {β : Type} {fail : β} {G : β → Prop} (hf : ¬ G fail)
include hf
omit hf in
theorem descIs_spec (hT : TabOk P tab) {p : TypeDesc → Bool} {t : TypeId} (h : descIs tab p t = true) : ∃ d, P.underlying t = some d ∧ p d = true := by
  unfold descIs at h
  cases hi : tab.ty.get t with
  | none => rw [hi] at h; cases h
  | some i => rw [hi] at h; exact ⟨_, (hT.ty t i hi).und, h⟩
omit hf in
theorem isU8_spec {d : TypeDesc} (h : isU8 d = true) : d = .int .u8 := by
  unfold isU8 at h
  split at h
  · rfl
  · cases h
omit hf in
theorem isStr_spec {d : TypeDesc} (h : isStr d = true) : d = .string := by
  unfold isStr at h
  split at h
  · rfl
  · cases h
theorem toBytesE_spec (hT : TabOk P tab) {src dst : TypeId} {s : List UInt8} {h : Tr EO} {nx : Nat} {k : EV → Tr EO → Nat → β} {fl : Nat} {σ : Sg} {w : World} (hg : G (toBytesE tab fail src dst s h nx k)) (H : Holds σ h w) (F : Fresh σ nx) (hfl : fl ≤ nx) :
    ∃ e h' nx' σ' e' w', (convert src dst (.string ⟨s.toArray⟩)).run P w = .ok e' w' ∧ VR σ' e e' ∧ Post fl σ h nx w σ' h' nx' w' ∧ G (k e h' nx') := by
  unfold toBytesE at hg
  obtain ⟨e, ei, hu, _, hty, hg⟩ := elemE_spec hf hT hg
  cases hb : (descIs tab isU8 e && descIs tab isStr src) with
  | false => rw [hb] at hg; exact absurd hg hf
  | true =>
    rw [hb] at hg
    simp only [cond_true] at hg
    rw [Bool.and_eq_true] at hb
    obtain ⟨d1, u1, p1⟩ := descIs_spec hT hb.1
    obtain ⟨d2, u2, p2⟩ := descIs_spec hT hb.2
    rw [isU8_spec p1] at u1
    rw [isStr_spec p2] at u2
    obtain ⟨c, hc, hg⟩ := writeCells_spec hf _ _ _ _ hg
    simp only [newB] at hg
    obtain ⟨h', hp, hg⟩ := Tr.put_spec hf _ _ _ _ hg
    have hsz : (⟨s.toArray⟩ : ByteArray).size = s.length := by show s.toArray.size = _; simp
    have hrun := run_bytes_of_string (P := P) w src dst e ⟨s.toArray⟩ u2 hu u1
    have hge := grownCap_ge w s.length 0 e
    rw [hsz] at hrun
    have hrow : (bytesRow ⟨s.toArray⟩ (grownCap w s.length 0 e)).size = grownCap w s.length 0 e := by
      simp only [bytesRow, Array.size_append, Array.size_map, Array.size_replicate, hsz]
      simp; omega
    refine ⟨_, h', _, upd σ nx ⟨w.heap.size, grownCap w s.length 0 e, 1⟩, _, _, hrun, ?_, ?_, hg⟩
    · simp only [VR, Option.getD_none]
      exact ⟨_, upd_same _ _ _, by simp, by simp; exact hge⟩
    · refine Post.mk_new H F hfl hp rfl rfl rfl rfl ⟨_, e, _, rfl, hrow, fun _ => rfl, fun i ev he => ?_⟩
      rw [hc] at he
      split at he
      · rename_i hi
        simp only [Nat.sub_zero] at he
        obtain ⟨v, hv, hr⟩ := (bytesE_VRs (upd σ nx ⟨w.heap.size, grownCap w s.length 0 e, 1⟩) s).get he
        refine ⟨v, ?_, hr⟩
        have hi' : i < s.length := by simpa using (List.getElem?_eq_some_iff.1 hv).1
        unfold bytesRow
        rw [Array.getElem?_append_left (by simp; exact hi')]
        simpa using hv
      · simp [Tr.get_nil] at he
theorem markE_spec (hT : TabOk P tab) {fl : Nat} {src dst : TypeId} {v : EV} {h : Tr EO} {nx : Nat} {k : Tr EO → β} {σ : Sg} {w : World} {v' : Value} (hg : G (markE tab fail fl src dst v h k)) (hv : VR σ v v') (H : Holds σ h w) (F : Fresh σ nx) :
    ∃ h' w', (convert src dst v').run P w = .ok v' w' ∧ Post fl σ h nx w σ h' nx w' ∧ G (k h') := by
  unfold markE at hg
  obtain ⟨e, ei, hu, _, hty, hg⟩ := elemE_spec hf hT hg
  cases hb : (Nat.beq src dst && descIs tab isU8 e) with
  | false => rw [hb] at hg; exact absurd hg hf
  | true =>
    rw [hb] at hg
    simp only [cond_true] at hg
    rw [Bool.and_eq_true] at hb
    have hsd := Nat.eq_of_beq_eq_true hb.1
    rw [hsd]
    obtain ⟨d1, u1, p1⟩ := descIs_spec hT hb.2
    rw [isU8_spec p1] at u1
    split at hg
    · rename_i b off n cap hgx
      clear hgx
      split at hg
      · rename_i c m z hbk
        obtain ⟨hflb, h', hp, hg⟩ := setB_spec hf hg
        simp only [VR] at hv
        obtain ⟨l, hl, rfl, _⟩ := hv
        obtain ⟨l', ob, e1, e2, arr, t', rfl, a1, a2, a3, a4, a5⟩ := H.there b _ hbk
        rw [hl] at e1; cases e1
        have hsh : w.shape? l.blk = some (t', arr.size) := by simp [World.shape?, e2]
        refine ⟨h', w.freeze ⟨l.blk, arr.size, none⟩ 1, ?_, ?_, hg⟩
        · simp [convert, run_underlying hu, run_underlying u1, markStringish, hsh]
        · have hheap : (w.freeze ⟨l.blk, arr.size, none⟩ 1).heap = w.heap.modify l.blk (fun
              | .cells c elem (lo, hi) => .cells c elem (if lo == hi then (arr.size, arr.size + 1) else (min lo arr.size, max hi (arr.size + 1)))
              | o => o) := rfl
          refine Post.mk_set H F hflb (by rw [hbk]; rfl) hl hp (ob := .cells arr t' (arr.size, arr.size + 1)) ?_ (fun q hq => ?_) ?_ rfl rfl rfl ⟨arr, t', _, rfl, a1, a4, a5⟩
          · rw [hheap, Array.getElem?_modify, if_pos rfl, e2]; rfl
          · rw [hheap, Array.getElem?_modify, if_neg (fun e => hq e.symm)]
          · rw [hheap]; simp
      · exact absurd hg hf
    · exact absurd hg hf
theorem toStrE_spec (hT : TabOk P tab) {src dst : TypeId} {v : EV} {h : Tr EO} {k : EV → β} {σ : Sg} {w : World} {v' : Value} (hg : G (toStrE tab fail src dst v h k)) (hv : VR σ v v') (H : Holds σ h w) :
    ∃ e e', (convert src dst v').run P w = .ok e' w ∧ VR σ e e' ∧ G (k e) := by
  unfold toStrE at hg
  obtain ⟨e, ei, hu, _, hty, hg⟩ := elemE_spec hf hT hg
  cases hb : (descIs tab isU8 e && descIs tab isStr dst) with
  | false => rw [hb] at hg; exact absurd hg hf
  | true =>
    rw [hb] at hg
    simp only [cond_true] at hg
    rw [Bool.and_eq_true] at hb
    obtain ⟨d1, u1, p1⟩ := descIs_spec hT hb.1
    obtain ⟨d2, u2, p2⟩ := descIs_spec hT hb.2
    rw [isU8_spec p1] at u1
    rw [isStr_spec p2] at u2
    split at hg
    · simp only [VR] at hv
      subst hv
      refine ⟨_, .string ⟨#[]⟩, ?_, by simp only [VR], hg⟩
      rw [run_convert_bytes_string w src dst e none 0 0 hu u1 u2]
      simp [Conv.bytesToString]
      rfl
    · rename_i b off n cap hgx
      clear hgx
      obtain ⟨c, l, arr, t', fr, h1, h2, h3, hg⟩ := rdB_spec hf hg H
      obtain ⟨es, e1, e2, hg⟩ := readCells_spec hf _ _ _ hg
      cases hs : ofBytesE es with
      | none => rw [hs] at hg; exact absurd hg hf
      | some s =>
        simp only [hs] at hg
        obtain ⟨vs, v1, v2, v3⟩ := cells_read h2 h3 (off := off) (es := es) (fun i hi => e2 i (by omega))
        have hvs := ofBytesE_spec hs v1
        simp only [VR] at hv
        obtain ⟨l', hl', rfl, _⟩ := hv
        rw [h1] at hl'; cases hl'
        have hn : n = s.length := by rw [← e1, ← v2, hvs]; simp
        refine ⟨_, .string ⟨s.toArray⟩, ?_, by simp only [VR], hg⟩
        rw [hn]
        refine run_convert_bytes_back w src dst e ⟨l.blk, off, none⟩ _ s hu u1 u2 fun j hj => ?_
        exact v3 j _ (by rw [hvs]; simp [List.getElem?_eq_getElem hj])
    · exact absurd hg hf
theorem clearE_spec (hT : TabOk P tab) {fl : Nat} {t ty : TypeId} {v : EV} {h : Tr EO} {nx : Nat} {k : Tr EO → β} {σ : Sg} {w : World} {v' : Value} {ts : Array TypeId} (hts : ts[0]? = some t) (hg : G (clearE tab fail fl t v h k)) (hv : VR σ v v') (H : Holds σ h w) (F : Fresh σ nx) :
    ∃ h' w', (Builtin.clear_ ts ty #[v']).run P w = .ok (.tuple #[]) w' ∧ Post fl σ h nx w σ h' nx w' ∧ G (k h') := by
  unfold clearE at hg
  obtain ⟨e, ei, hu, _, hty, hg⟩ := elemE_spec hf hT hg
  split at hg
  · simp only [VR] at hv
    subst hv
    exact ⟨h, w, by simp [Builtin.clear_, hts, run_underlying hu], Post.refl H F, hg⟩
  · rename_i b off n cap hgx
    clear hgx
    simp only [VR] at hv
    obtain ⟨l, hl, rfl, hle⟩ := hv
    cases h0 : Nat.beq n 0 with
    | true =>
      rw [h0] at hg
      have := Nat.eq_of_beq_eq_true h0
      subst this
      exact ⟨h, w, by simp [Builtin.clear_, hts, run_underlying hu], Post.refl H F, hg⟩
    | false =>
      rw [h0] at hg
      simp only [cond_false] at hg
      have hn : n ≠ 0 := fun h => by rw [h] at h0; cases h0
      split at hg
      · rename_i c tot ex hb
        cases hq : (Nat.ble (Nat.add off (Nat.mul n ei.size)) tot && ei.zero.flat) with
        | false => rw [hq] at hg; exact absurd hg hf
        | true =>
          rw [hq] at hg
          rw [Bool.and_eq_true] at hq
          have q1 : off + n * ei.size ≤ tot := Nat.le_of_ble_eq_true hq.1
          simp only [cond_true] at hg
          obtain ⟨c', hc, hg⟩ := writeCells_spec hf _ _ _ _ hg
          obtain ⟨hflb, h', hp, hg⟩ := setB_spec hf hg
          obtain ⟨z, z1, z2, z3, z4⟩ := hty.run_zero w
          have hrep := rep_cells (n := n) (z4 σ) z2
          have hlen : ((Array.range (n * ei.size)).map (z.cells[· % z.cells.size]!)).toList.length = n * ei.size := by simp
          obtain ⟨l', l1, l2, l3, l4⟩ := Post.mk_write (fl := fl) (nx := nx) H F hflb hb hc hp hrep (by rw [hlen]; exact q1)
          rw [hl] at l1; cases l1
          refine ⟨h', _, ?_, l2, hg⟩
          have hflat : ∀ u ∈ ((Array.range (n * ei.size)).map (z.cells[· % z.cells.size]!)).toList, u.oneCell' = true := by
            intro u hu
            simp only [Array.toList_map, Array.toList_range, List.mem_map, List.mem_range] at hu
            obtain ⟨i, hi, rfl⟩ := hu
            have hz : 0 < z.cells.size := by
              rw [z2]
              rcases Nat.eq_zero_or_pos ei.size with h | h
              · rw [h] at hi; omega
              · exact h
            have hm : i % z.cells.size < z.cells.size := Nat.mod_lt _ hz
            have : z.cells[i % z.cells.size]! = z.cells[i % z.cells.size] := by simp [hm]
            rw [this]
            exact (z4 σ).flat hq.2 _ (by simp)
          have hst := run_storeCells_cells (P := P) l.blk off ((Array.range (n * ei.size)).map (z.cells[· % z.cells.size]!)).toList 0 w (by simpa using l3) (by simpa using l4) hflat
          simp only [Nat.add_zero] at hst
          have hzc : (Builtin.zeroCells z.cells n).toList = ((Array.range (n * ei.size)).map (z.cells[· % z.cells.size]!)).toList := by
            unfold Builtin.zeroCells; rw [z2]
          simp only [Builtin.clear_, hts, run_underlying hu, Sem.run_bind, Result.andThen_ok, List.getElem?_toArray, List.getElem?_cons_zero, z1, hzc, hst, Sem.run_pure]
      · exact absurd hg hf
  · exact absurd hg hf
omit hf in
theorem lenS_spec {σ : Sg} {w : World} {v : EV} {v' : Value} {n : Nat} (h : lenS v = some n) (hv : VR σ v v') : (Builtin.lenOf v').run P w = .ok n w := by
  unfold lenS at h
  split at h
  · cases h
    simp only [VR] at hv
    subst hv; rfl
  · cases h
    simp only [VR] at hv
    obtain ⟨l, _, rfl, _⟩ := hv
    exact run_lenOf _ _ _ _
  · cases h
omit hf in
theorem minN_eq (a b : Nat) : minN a b = Nat.min a b := by
  unfold minN
  show _ = min a b
  cases h : Nat.ble a b with
  | true => have := Nat.le_of_ble_eq_true h; simp; omega
  | false =>
    have : ¬ a ≤ b := fun hle => by rw [Nat.ble_eq_true_of_le hle] at h; cases h
    simp; omega
theorem copyE_spec (hT : TabOk P tab) {fl : Nat} {t ty : TypeId} {v x : EV} {h : Tr EO} {nx : Nat} {k : Nat → Tr EO → β} {σ : Sg} {w : World} {v' x' : Value} {ts : Array TypeId} (hts : ts[0]? = some t) (hg : G (copyE tab fail fl t v x h k)) (hv : VR σ v v') (hx : VR σ x x') (H : Holds σ h w) (F : Fresh σ nx) :
    ∃ n h' w', (Builtin.copy_ ts ty #[v', x']).run P w = .ok (.int .i64 (Int.ofNat n)) w' ∧ Post fl σ h nx w σ h' nx w' ∧ G (k n h') := by
  unfold copyE at hg
  obtain ⟨e, ei, hu, _, hty, hg⟩ := elemE_spec hf hT hg
  cases hn : lenS v with
  | none => simp only [hn] at hg; exact absurd hg hf
  | some n =>
    cases hm : lenS x with
    | none => simp only [hn, hm] at hg; exact absurd hg hf
    | some m =>
      simp only [hn, hm] at hg
      have lx := lenS_spec (P := P) (w := w) hm hx
      -- the slice that is written
      have hvs : ∃ a c, v' = .slice a n c := by
        unfold lenS at hn
        split at hn
        · cases hn; simp only [VR] at hv; exact ⟨_, _, hv⟩
        · cases hn; simp only [VR] at hv; obtain ⟨l, _, rfl, _⟩ := hv; exact ⟨_, _, rfl⟩
        · cases hn
      have hmin : Nat.min m n = minN m n := (minN_eq m n).symm
      cases h0 : Nat.beq (minN m n) 0 with
      | true =>
        rw [h0] at hg
        have hz := Nat.eq_of_beq_eq_true h0
        refine ⟨0, h, w, ?_, Post.refl H F, hg⟩
        have hfc : (Builtin.firstCells ei.size 0 x').run P w = .ok #[] w := by
          unfold lenS at hm
          split at hm
          · simp only [VR] at hx; subst hx; simp [Builtin.firstCells]
          · simp only [VR] at hx; obtain ⟨l, _, rfl, _⟩ := hx; simp [Builtin.firstCells, loadCells, loadCellsFrom]
          · cases hm
        obtain ⟨a, c, rfl⟩ := hvs
        simp only [Builtin.copy_, hts, List.getElem?_toArray, List.getElem?_cons_zero, List.getElem?_cons_succ, Sem.run_bind, run_underlying hu, Result.andThen_ok, lx, hmin, hz, hty.run_size, hfc]
        cases a <;> simp [storeCells, goInt]
      | false =>
        rw [h0] at hg
        simp only [cond_false] at hg
        split at hg
        · rename_i b off n1 cap1 b2 off2 n2 cap2 hgx
          clear hgx
          obtain ⟨c2, l2, arr, t', fr, q1, q2, q3, hg⟩ := rdB_spec hf hg H
          obtain ⟨es, e1, e2, hg⟩ := readCells_spec hf _ _ _ hg
          obtain ⟨vs, v1, v2, v3⟩ := cells_read q2 q3 (off := off2) (es := es) (fun i hi => e2 i (by omega))
          split at hg
          · rename_i c tot ex hb
            cases hq : (Nat.ble (Nat.add off (Nat.mul (minN m n) ei.size)) tot && es.flat) with
            | false => rw [hq] at hg; exact absurd hg hf
            | true =>
              rw [hq] at hg
              rw [Bool.and_eq_true] at hq
              have p1 : off + minN m n * ei.size ≤ tot := Nat.le_of_ble_eq_true hq.1
              simp only [cond_true] at hg
              obtain ⟨c', hc, hg⟩ := writeCells_spec hf _ _ _ _ hg
              obtain ⟨hflb, h', hp, hg⟩ := setB_spec hf hg
              have hlen : vs.length = minN m n * ei.size := v2.trans e1
              obtain ⟨l', l1, l3, l4, l5⟩ := Post.mk_write (fl := fl) (nx := nx) H F hflb hb hc hp v1 (by rw [hlen]; exact p1)
              refine ⟨minN m n, h', _, ?_, l3, hg⟩
              simp only [VR] at hv hx
              obtain ⟨lv, hlv, rfl, _⟩ := hv
              obtain ⟨lx', hlx, rfl, _⟩ := hx
              rw [l1] at hlv; cases hlv
              rw [q1] at hlx; cases hlx
              simp only [lenS, Option.some.injEq] at hn hm
              subst hn; subst hm
              have hfc : (Builtin.firstCells ei.size (minN n2 n1) (.slice (some ⟨l2.blk, off2, none⟩) n2 (cap2.getD ((l2.tot - off2) / l2.esz)))).run P w = .ok vs.toArray w := by
                simp only [Builtin.firstCells]
                rw [← hlen]
                exact run_loadCells_list (P := P) w ⟨l2.blk, off2, none⟩ vs v3
              have hst := run_storeCells_cells (P := P) l'.blk off vs 0 w (by simpa using l4) (by simpa using l5) (v1.flat hq.2)
              simp only [Nat.add_zero] at hst
              simp only [Builtin.copy_, hts, List.getElem?_toArray, List.getElem?_cons_zero, List.getElem?_cons_succ, Sem.run_bind, run_underlying hu, Result.andThen_ok, lx, hmin, hty.run_size, hfc, hst, Sem.run_pure, goInt]
              rfl
          · exact absurd hg hf
        · exact absurd hg hf
end
end Go.Proofs.YtmlkfgoiakcnhaaGreatDoor
