/- Slices of slices and strings; parts laid together. -/
import Derived.Test.YtmlkfgoiakcnhaaGreatDoorEvF
namespace Go.Proofs.YtmlkfgoiakcnhaaGreatDoor
open Go Go.RowKit

def OptR (σ : Sg) : Option EV → Option Value → Prop
  | none, none => True
  | some e, some v => VR σ e v
  | _, _ => False

/-- what the bounds of a slice come to -/
theorem run_bounds {P : Program} {w : World} {isSlice : Bool} {len cap l h m : Nat} {lo hi mx : Option Value}
    (hm : (mx = none ∧ m = cap) ∨ (∃ k, mx = some (.int k (Int.ofNat m)) ∧ m ≤ cap)) (hh : (hi = none ∧ mx = none ∧ h = len) ∨ (∃ k, hi = some (.int k (Int.ofNat h)) ∧ h ≤ m))
    (hl : (lo = none ∧ l = 0) ∨ (∃ k, lo = some (.int k (Int.ofNat l)) ∧ l ≤ h)) : (Instr.sliceBounds isSlice len cap lo hi mx).run P w = .ok (l, h, m) w := by
  have sb : ∀ (k : IntKind) (n y : Nat) (code : BoundsCode), n ≤ y → (Instr.sliceBound (.int k (Int.ofNat n)) y code).run P w = .ok n w := fun k n y code hle => by
    have : (0 : Int) ≤ Int.ofNat n ∧ Int.ofNat n ≤ (y : Int) := by constructor <;> simp <;> omega
    rw [run_sliceBound w k (Int.ofNat n) y code this.1 this.2]; rfl
  unfold Instr.sliceBounds
  rcases hm with ⟨rfl, rfl⟩ | ⟨k1, rfl, hm⟩ <;> rcases hh with ⟨rfl, h1, rfl⟩ | ⟨k2, rfl, hh⟩ <;> rcases hl with ⟨rfl, rfl⟩ | ⟨k3, rfl, hl⟩ <;> first
    | (cases h1; done)
    | (simp only [Sem.run_bind, Sem.run_pure, Result.andThen_ok]; done)
    | (simp only [Sem.run_bind, Sem.run_pure, Result.andThen_ok]; (try rw [sb _ _ _ _ hm]; simp only [Result.andThen_ok]); (try rw [sb _ _ _ _ hh]; simp only [Result.andThen_ok]); (try rw [sb _ _ _ _ hl]; simp only [Result.andThen_ok]))

section
variable {P : Program} {tab : Tab} {β : Type} {fail : β} {G : β → Prop} (hf : ¬ G fail)
include hf
theorem optN_spec {o : Option EV} {d : Nat} {k : Nat → β} {σ : Sg} {v : Option Value} (hg : G (optN fail o d k)) (hv : OptR σ o v) :
    ∃ n, G (k n) ∧ ((o = none ∧ v = none ∧ n = d) ∨ ∃ ki, v = some (.int ki (Int.ofNat n))) := by
  unfold optN at hg
  cases o with
  | none =>
    cases v with
    | none => exact ⟨d, hg, .inl ⟨rfl, rfl, rfl⟩⟩
    | some _ => exact hv.elim
  | some e =>
    cases v with
    | none => exact hv.elim
    | some v =>
      simp only at hg
      split at hg
      · rename_i ki n
        simp only [OptR, VR] at hv
        subst hv
        exact ⟨n, hg, .inr ⟨ki, rfl⟩⟩
      · exact absurd hg hf
omit hf in
theorem addr_keep {b off l m sz : Nat} : (if m = l then (⟨b, off, none⟩ : Addr) else (⟨b, off, none⟩ : Addr).add (l * sz)) = ⟨b, bif Nat.beq l m then off else off + l * sz, none⟩ := by
  by_cases h : m = l
  · subst h; simp
  · rw [if_neg h, addr_add']
    have : Nat.beq l m = false := by rw [Bool.eq_false_iff]; intro hb; exact h (Nat.eq_of_beq_eq_true hb).symm
    rw [this]; rfl
omit hf in
theorem run_sliceAt_parts {t e : TypeId} {a : Option Addr} {len cap l h m sz : Nat} {lo hi mx : Option Value} {w : World} (hu : P.underlying t = some (.slice e)) (hs : (sizeOf e).run P w = .ok sz w)
    (hb : (Instr.sliceBounds true len cap lo hi mx).run P w = .ok (l, h, m) w) :
    (Instr.sliceAt t (.slice a len cap) lo hi mx).run P w = .ok (.slice (if m = l then a else a.map (·.add (l * sz))) (h - l) (m - l)) w := by
  simp only [Instr.sliceAt, Sem.run_bind, run_underlying hu, Result.andThen_ok, Instr.slice, hb, hs, Sem.run_pure]
omit hf in
theorem run_sliceAt_str {t : TypeId} {s : ByteArray} {l h : Nat} {lo hi : Option Value} {w : World} (hu : P.underlying t = some .string) (hb : (Instr.sliceBounds false s.size s.size lo hi none).run P w = .ok (l, h, s.size) w) :
    (Instr.sliceAt t (.string s) lo hi none).run P w = .ok (.string (s.extract l h)) w := by
  simp [Instr.sliceAt, run_underlying hu, Instr.slice, hb]
omit hf in
theorem extract_bytes (s : List UInt8) (l r : Nat) : (⟨s.toArray⟩ : ByteArray).extract l r = ⟨((s.take r).drop l).toArray⟩ := by
  apply ByteArray.ext
  rw [ByteArray.data_extract]
  apply Array.ext'
  simp [List.extract_eq_take_drop, List.drop_take]
theorem sliceE_spec (hT : TabOk P tab) {t : TypeId} {v : EV} {lo hi mx : Option EV} {h : Tr EO} {k : EV → β} {σ : Sg} {w : World} {v' : Value} {lo' hi' mx' : Option Value} (hg : G (sliceE tab fail t v lo hi mx h k))
    (hv : VR σ v v') (h1 : OptR σ lo lo') (h2 : OptR σ hi hi') (h3 : OptR σ mx mx') (H : Holds σ h w) : ∃ e e', (Instr.sliceAt t v' lo' hi' mx').run P w = .ok e' w ∧ VR σ e e' ∧ G (k e) := by
  unfold sliceE at hg
  cases v with
  | str s =>
    simp only [VR] at hv
    subst hv
    simp only at hg
    split at hg
    · rename_i hty
      cases hti : tab.ty.get t with
      | none => simp only [hti] at hty; cases hty
      | some i =>
        simp only [hti] at hty
        have hu := (hT.ty t i hti).und
        cases hd : i.desc <;> simp only [hd] at hty <;> first | (cases hty; done) | skip
        rw [hd] at hu
        obtain ⟨l, hg, hl⟩ := optN_spec hf hg h1
        obtain ⟨r, hg, hr⟩ := optN_spec hf hg h2
        cases mx' with
        | some _ => exact h3.elim
        | none =>
          cases hb : (Nat.ble l r && Nat.ble r s.length) with
          | false => rw [hb] at hg; exact absurd hg hf
          | true =>
            rw [hb] at hg
            rw [Bool.and_eq_true] at hb
            have b1 := Nat.le_of_ble_eq_true hb.1
            have b2 := Nat.le_of_ble_eq_true hb.2
            refine ⟨_, .string ⟨((s.take r).drop l).toArray⟩, ?_, by simp only [VR], hg⟩
            rw [← extract_bytes]
            refine run_sliceAt_str hu (run_bounds (.inl ⟨rfl, rfl⟩) ?_ ?_)
            · rcases hr with ⟨_, rfl, rfl⟩ | ⟨ki, rfl⟩
              · exact .inl ⟨rfl, rfl, (size_bytes s).symm⟩
              · exact .inr ⟨ki, rfl, by rw [size_bytes]; exact b2⟩
            · rcases hl with ⟨_, rfl, rfl⟩ | ⟨ki, rfl⟩
              · exact .inl ⟨rfl, rfl⟩
              · exact .inr ⟨ki, rfl, b1⟩
    · exact absurd hg hf
  | slice0 =>
    simp only [VR] at hv
    subst hv
    simp only at hg
    obtain ⟨e, ei, hu, _, hty, hg⟩ := elemE_spec hf hT hg
    split at hg
    · obtain ⟨l, hg, hl⟩ := optN_spec hf hg h1
      obtain ⟨r, hg2, hr⟩ := optN_spec hf hg h2
      cases mx' with
      | some _ => exact h3.elim
      | none =>
        cases hb : (Nat.beq l 0 && Nat.beq r 0) with
        | false => rw [hb] at hg2; exact absurd hg2 hf
        | true =>
          rw [hb] at hg2
          rw [Bool.and_eq_true] at hb
          have b1 := Nat.eq_of_beq_eq_true hb.1
          have b2 := Nat.eq_of_beq_eq_true hb.2
          subst b1; subst b2
          refine ⟨_, .slice none 0 0, ?_, by simp only [VR], hg2⟩
          rw [run_sliceAt_parts (l := 0) (h := 0) (m := 0) hu (hty.run_size w) (run_bounds (.inl ⟨rfl, rfl⟩) ?_ ?_)]
          · simp
          · rcases hr with ⟨_, rfl, _⟩ | ⟨ki, rfl⟩
            · exact .inl ⟨rfl, rfl, rfl⟩
            · exact .inr ⟨ki, rfl, Nat.le_refl _⟩
          · rcases hl with ⟨_, rfl, _⟩ | ⟨ki, rfl⟩
            · exact .inl ⟨rfl, rfl⟩
            · exact .inr ⟨ki, rfl, Nat.le_refl _⟩
    · exact absurd hg hf
  | slice b off n cap =>
    simp only [VR] at hv
    obtain ⟨L, hL, rfl, hle⟩ := hv
    simp only at hg
    obtain ⟨e, ei, hu, _, hty, hg⟩ := elemE_spec hf hT hg
    cases mx with
    | some m =>
      cases mx' with
      | none => exact h3.elim
      | some m' =>
        cases hi with
        | none => cases cap <;> exact absurd hg hf
        | some hi =>
          cases hi' with
          | none => exact h2.elim
          | some hi' =>
            have fin : ∀ q, q ≤ cap.getD ((L.tot - off) / L.esz) → G (optN fail (some m) 0 fun m => optN fail lo 0 fun l => optN fail (some hi) n fun r =>
                bif Nat.ble l r && Nat.ble r m && Nat.ble m q then k (.slice b (bif Nat.beq l m then off else Nat.add off (Nat.mul l ei.size)) (Nat.sub r l) (some (Nat.sub m l))) else fail) →
                ∃ e e', (Instr.sliceAt t (.slice (some ⟨L.blk, off, none⟩) n (cap.getD ((L.tot - off) / L.esz))) lo' (some hi') (some m')).run P w = .ok e' w ∧ VR σ e e' ∧ G (k e) := by
              intro q hq hg
              obtain ⟨m, hg, hm⟩ := optN_spec hf hg (v := some m') h3
              obtain ⟨l, hg, hl⟩ := optN_spec hf hg h1
              obtain ⟨r, hg, hr⟩ := optN_spec hf hg (v := some hi') h2
              cases hb : (Nat.ble l r && Nat.ble r m && Nat.ble m q) with
              | false => rw [hb] at hg; exact absurd hg hf
              | true =>
                rw [hb] at hg
                rw [Bool.and_eq_true, Bool.and_eq_true] at hb
                have b1 := Nat.le_of_ble_eq_true hb.1.1
                have b2 := Nat.le_of_ble_eq_true hb.1.2
                have b3 := Nat.le_of_ble_eq_true hb.2
                refine ⟨_, _, run_sliceAt_parts (l := l) (h := r) (m := m) hu (hty.run_size w) (run_bounds ?_ ?_ ?_), ?_, hg⟩
                · rcases hm with ⟨_, h, _⟩ | ⟨ki, h⟩
                  · cases h
                  · exact .inr ⟨ki, h, by omega⟩
                · rcases hr with ⟨_, h, _⟩ | ⟨ki, h⟩
                  · cases h
                  · exact .inr ⟨ki, h, b2⟩
                · rcases hl with ⟨_, rfl, rfl⟩ | ⟨ki, rfl⟩
                  · exact .inl ⟨rfl, rfl⟩
                  · exact .inr ⟨ki, rfl, b1⟩
                · simp only [VR, Option.getD_some]
                  refine ⟨L, hL, ?_, by show r - l ≤ m - l; omega⟩
                  simp only [Option.map_some, ← apply_ite, addr_keep]
                  rfl
            cases cap with
            | some q => exact fin q (Nat.le_refl _) hg
            | none => exact fin n hle hg
    | none =>
      cases mx' with
      | some _ => exact h3.elim
      | none =>
        simp only at hg
        obtain ⟨l, hg, hl⟩ := optN_spec hf hg h1
        obtain ⟨r, hg, hr⟩ := optN_spec hf hg h2
        have bnd : l ≤ r → r ≤ cap.getD ((L.tot - off) / L.esz) → (Instr.sliceAt t (.slice (some ⟨L.blk, off, none⟩) n (cap.getD ((L.tot - off) / L.esz))) lo' hi' none).run P w =
            .ok (.slice (some ⟨L.blk, bif Nat.beq l (cap.getD ((L.tot - off) / L.esz)) then off else off + l * ei.size, none⟩) (r - l) (cap.getD ((L.tot - off) / L.esz) - l)) w := by
          intro b1 b2
          rw [run_sliceAt_parts (l := l) (h := r) (m := cap.getD ((L.tot - off) / L.esz)) hu (hty.run_size w) (run_bounds (.inl ⟨rfl, rfl⟩) ?_ ?_)]
          · simp only [Option.map_some, ← apply_ite, addr_keep]
          · rcases hr with ⟨_, rfl, rfl⟩ | ⟨ki, rfl⟩
            · exact .inl ⟨rfl, rfl, rfl⟩
            · exact .inr ⟨ki, rfl, b2⟩
          · rcases hl with ⟨_, rfl, rfl⟩ | ⟨ki, rfl⟩
            · exact .inl ⟨rfl, rfl⟩
            · exact .inr ⟨ki, rfl, b1⟩
        cases cap with
        | some q =>
          simp only at hg
          cases hb : (Nat.ble l r && Nat.ble r q) with
          | false => rw [hb] at hg; exact absurd hg hf
          | true =>
            rw [hb] at hg
            rw [Bool.and_eq_true] at hb
            have b1 := Nat.le_of_ble_eq_true hb.1
            have b2 := Nat.le_of_ble_eq_true hb.2
            refine ⟨_, _, bnd b1 b2, ?_, hg⟩
            simp only [VR, Option.getD_some]
            exact ⟨L, hL, rfl, by show r - l ≤ q - l; omega⟩
        | none =>
          simp only at hg
          cases hb : (Nat.ble l r && Nat.ble r n && ((Nat.ble (Nat.succ l) n && Nat.beq (zB h b) ei.size && Nat.ble 1 ei.size) || Nat.beq l 0)) with
          | false => rw [hb] at hg; exact absurd hg hf
          | true =>
            rw [hb] at hg
            rw [Bool.and_eq_true, Bool.and_eq_true, Bool.or_eq_true, Bool.and_eq_true, Bool.and_eq_true] at hb
            have b1 := Nat.le_of_ble_eq_true hb.1.1
            have b2 := Nat.le_of_ble_eq_true hb.1.2
            simp only [Option.getD_none] at hle bnd
            have hrun := bnd b1 (Nat.le_trans b2 hle)
            rcases hb.2 with ⟨⟨b3, b4⟩, b5⟩ | b3
            · have b3 := Nat.le_of_ble_eq_true b3
              have b4 := Nat.eq_of_beq_eq_true b4
              have b5 := Nat.le_of_ble_eq_true b5
              have hesz : L.esz = ei.size := by
                unfold zB at b4
                cases ho : h.get b with
                | none => rw [ho] at b4; simp only at b4; omega
                | some o =>
                  rw [ho] at b4
                  obtain ⟨L', ob, e1, e2, e3⟩ := H.there b o ho
                  rw [hL] at e1; cases e1
                  cases o with
                  | cells c m z => obtain ⟨_, _, _, _, _, _, h5, _⟩ := e3; simp only at b4; rw [h5 (by omega), b4]
                  | ro c z => obtain ⟨_, _, _, _, _, h5, _⟩ := e3; simp only at b4; rw [h5 (by omega), b4]
                  | map _ _ => simp only at b4; omega
                  | loop _ _ _ _ _ _ _ => simp only at b4; omega
                  | dfr => simp only at b4; omega
                  | mit _ _ _ _ => simp only at b4; omega
              have hne : Nat.beq l ((L.tot - off) / L.esz) = false := by
                rw [Bool.eq_false_iff]; intro hq
                have := Nat.eq_of_beq_eq_true hq
                omega
              rw [hne] at hrun
              refine ⟨_, _, hrun, ?_, hg⟩
              have hcap : (L.tot - (off + l * ei.size)) / L.esz = (L.tot - off) / L.esz - l := by
                rw [hesz, Nat.sub_add_eq, Nat.mul_comm l, Nat.sub_mul_div]
              simp only [VR, Option.getD_none, cond_false]
              refine ⟨L, hL, ?_, ?_⟩
              · show _ = Value.slice _ (r - l) ((L.tot - (off + l * ei.size)) / L.esz)
                rw [hcap]; rfl
              · show r - l ≤ (L.tot - (off + l * ei.size)) / L.esz
                rw [hcap]; omega
            · have b3 := Nat.eq_of_beq_eq_true b3
              subst b3
              refine ⟨_, _, hrun, ?_, hg⟩
              simp only [VR, Option.getD_none]
              refine ⟨L, hL, ?_, ?_⟩
              · simp
              · show r - 0 ≤ (L.tot - (off + 0 * ei.size)) / L.esz
                simp; omega
  | _ => exact absurd hg hf
end
end Go.Proofs.YtmlkfgoiakcnhaaGreatDoor
