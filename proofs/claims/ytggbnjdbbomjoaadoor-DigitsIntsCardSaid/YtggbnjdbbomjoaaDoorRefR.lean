/- Walks of the reference of layer 1: Read. -/
import Derived.Test.YtggbnjdbbomjoaaDoorDigF
namespace Go.Proofs.YtggbnjdbbomjoaaDoor
open Go.RowKit
theorem readP_bad (l : List UInt8) (c : UInt8) (h : c ∈ l) (hc : ¬ (48 ≤ c.toNat ∧ c.toNat ≤ 57)) : readP l = (0, 5) := if_pos (Or.inr (Or.inr (by
  cases q : l.all isD with
  | false => rfl
  | true => exact absurd ((isD_iff c).1 (List.all_eq_true.1 q c h)) hc)))
theorem numD_take (l : List UInt8) (k : Nat) (hk : k < l.length) : numD 0 (l.take (k + 1)) = numD 0 (l.take k) * 10 + ((l[k]'hk).toNat - 48) := by
  rw [(List.take_append_getElem hk).symm, numD_app, numD_one]
theorem numD_mono (l : List UInt8) (k : Nat) : numD 0 (l.take k) ≤ numD 0 l := by
  have e : numD 0 l = numD (numD 0 (l.take k)) (l.drop k) := by rw [← numD_app, List.take_append_drop]
  rw [e]; exact numD_le _ _
set_option maxRecDepth 100000 in
set_option maxHeartbeats 1000000 in
theorem refRead_any (s : ByteArray) (hs : s.size ≤ 281474976710656) (w : World) :
    Calls Tryd.prog 11 #[.string s] w fun e w' => e = .returned (.tuple #[.int .i64 (readP s.data.toList).1, .int .i64 (readP s.data.toList).2]) ∧ Below w.heap.size w w' := by
  obtain ⟨bs, hL⟩ : ∃ bs, bs = s.data.toList := ⟨_, rfl⟩
  have hLn : bs.length = s.size := by rw [hL, Lib.size_eq]
  rw [← hL]
  have hS : ∀ (k : Nat) (h : k < s.size), s[k]'h = bs.getD k 0 := by
    intro k h
    subst hL
    obtain ⟨⟨l⟩⟩ := s
    have h' : k < l.length := h
    show l[k] = l.getD k 0
    rw [List.getD, List.getElem?_eq_getElem h']; rfl
  clear hL
  cases hbs : bs with
  | nil =>
    have hz : s.size = 0 := by rw [← hLn, hbs]; rfl
    go_enter Tryd.func11, Tryd.ntmps11
    go_wp2
    go_ret2
    exact ⟨rfl, Below.refl _ _⟩
  | cons c r =>
    have hsz : 0 < s.size := by rw [← hLn, hbs]; simp
    have hc0 : ∀ h : 0 < s.size, s[0]'h = c := fun h => by rw [hS 0 h, hbs]; rfl
    have hz0 : ((s.size : Int) == 0) = false := by simp; intro e; rw [e] at hsz; simp at hsz
    have HLN := Lib.hid hLn
    by_cases h1 : 1 < s.size ∧ c = 48
    · have hl1 : 1 < (s.size : Int) := by omega
      have hc1 : ∀ h : 0 < s.size, s[0]'h = 48 := fun h => by rw [hc0 h]; exact h1.2
      have hp : readP (c :: r) = (0, 5) := if_pos (Or.inr (Or.inl ⟨by rw [← hbs, hLn]; exact h1.1, by rw [h1.2]; rfl⟩))
      rw [hp]
      clear h1 hc0 hS hLn hp hbs
      go_enter Tryd.func11, Tryd.ntmps11
      go_wp2
      go_ret2
      exact ⟨rfl, Below.refl _ _⟩
    · have h2 : s.size = 1 ∨ (1 < (s.size : Int) ∧ ((c.toNat : Int) == 48) = false) := by
        by_cases q : c = 48
        · have : ¬ 1 < s.size := fun h => h1 ⟨h, q⟩
          left; omega
        · by_cases hs1 : s.size = 1
          · exact Or.inl hs1
          right; refine ⟨by omega, ?_⟩; simp; intro e; exact q (UInt8.toNat_inj.mp (by simpa using (by omega : c.toNat = 48)))
      have h1' : ¬ (1 < (c :: r).length ∧ (c :: r).head? = some 48) := fun q => h1 ⟨by rw [← hLn, hbs]; exact q.1, by simpa using q.2⟩
      have hne : c :: r ≠ [] := by simp
      rw [← hbs] at h1' hne ⊢
      have H1 := Lib.hid h1'; have HNE := Lib.hid hne
      clear h1 h1' hne hbs
      have hK : s.size ≤ 9223372036854775807 := by omega
      have HS := Lib.hid hS
      clear hS
      go_enter Tryd.func11, Tryd.ntmps11
      rcases h2 with h2 | ⟨h2, h3⟩
      all_goals
        go_wp2
        go_loop [4] (fun vi => ∃ k : Nat, vi = .int .i64 k ∧ k ≤ s.size ∧ Hid ((bs.take k).all isD = true))
          (fun vi => s.size - (intOf vi).toNat)
        case atStart => exact ⟨0, rfl, by omega, Lib.hid rfl⟩
        case round =>
          obtain ⟨k, rfl, hk, hh⟩ := hrel
          by_cases hkn : k < s.size
          · have hc := HS.out k hkn
            have hget : bs.getD k 0 = bs[k]'(by omega) := by simp [List.getD, List.getElem?_eq_getElem (show k < bs.length by omega)]
            rw [hget] at hc
            have htk : bs.take (k + 1) = bs.take k ++ [bs[k]'(by omega)] := (List.take_append_getElem (by omega)).symm
            have hmem : bs[k]'(by omega) ∈ bs := List.getElem_mem _
            generalize bs[k]'(by omega) = d at hc htk hmem
            have hc256 : d.toNat < 256 := d.toNat_lt
            have HTK := Lib.hid htk
            have HME := Lib.hid hmem
            clear hget htk hmem
            by_cases hd : 48 ≤ d.toNat ∧ d.toNat ≤ 57
            · have HN : Hid ((bs.take (k + 1)).all isD = true) := Lib.hid (by rw [HTK.out, List.all_append, hh.out]; simp [isD, hd])
              go_wp2
              exact ⟨⟨k + 1, rfl, hkn, HN⟩, by simp [intOf]; omega⟩
            · have HF := Lib.hid (readP_bad bs d HME.out hd)
              go_wp2
              all_goals
                go_ret2
                exact ⟨by rw [HF.out]; rfl, Below.refl _ _⟩
          · have hkk : k = s.size := by omega
            subst hkk
            have hall : bs.all isD = true := by have := hh.out; rwa [List.take_of_length_le (by omega)] at this
            have hnq : ¬ (bs = [] ∨ (1 < bs.length ∧ bs.head? = some 48) ∨ bs.all isD = false) := by
              intro q; rcases q with q | q | q
              · exact HNE.out q
              · exact H1.out q
              · rw [hall] at q; cases q
            have hrp := readP_num bs hnq
            have HRP := Lib.hid hrp; have HALL := Lib.hid hall
            clear hnq hh hrp hall
            go_wp2
            go_loop [5, 6] (fun vn vi => ∃ (k : Nat) (a : Int), vi = .int .i64 k ∧ vn = .int .i64 a ∧ k ≤ s.size ∧ Hid (a = (numD 0 (bs.take k) : Int)) ∧ 0 ≤ a ∧ a ≤ 4611686018427387903)
              (fun _ vi => s.size - (intOf vi).toNat)
            case atStart => exact ⟨0, 0, rfl, rfl, by omega, Lib.hid rfl, by omega, by omega⟩
            case round =>
              obtain ⟨k, a, rfl, rfl, hk, ha, ha0, ha1⟩ := hrel
              by_cases hkn : k < s.size
              · have hc := HS.out k hkn
                have hget : bs.getD k 0 = bs[k]'(by omega) := by simp [List.getD, List.getElem?_eq_getElem (show k < bs.length by omega)]
                rw [hget] at hc
                have htk := numD_take bs k (by omega)
                have hdg := (isD_iff (bs[k]'(by omega))).1 (List.all_eq_true.1 HALL.out _ (List.getElem_mem _))
                have hmo := numD_mono bs (k + 1)
                rw [htk] at hmo
                generalize bs[k]'(by omega) = d at hc htk hdg hmo
                obtain ⟨x, hx⟩ : ∃ x : Int, x = (d.toNat : Int) - 48 := ⟨_, rfl⟩
                have hwd : IntKind.u8.wrap ((d.toNat : Int) - 48) = x := by rw [IntKind.wrap_u8, hx]; omega
                have x0 : 0 ≤ x := by omega
                have x1 : x ≤ 9 := by omega
                have htd : (4611686018427387903 - x).tdiv 10 = (4611686018427387903 - x) / 10 := Int.tdiv_eq_ediv_of_nonneg (by omega)
                have hA := ha.out
                by_cases hq : a ≤ (4611686018427387903 - x) / 10
                · have HN : Hid (a * 10 + x = (numD 0 (bs.take (k + 1)) : Int)) := Lib.hid (by rw [htk, hA, hx]; omega)
                  have b0 : 0 ≤ a * 10 + x := by omega
                  have b1 : a * 10 + x ≤ 4611686018427387903 := by omega
                  clear hA ha hget htk hmo hx hdg
                  go_wp2
                  exact ⟨⟨k + 1, a * 10 + x, rfl, rfl, hkn, HN, b0, b1⟩, by simp [intOf]; omega⟩
                · have HF : Hid (readP bs = (0, 6)) := Lib.hid (by rw [HRP.out, if_neg (by omega)])
                  have hq' : (4611686018427387903 - x) / 10 < a := by omega
                  clear hA ha hget htk hmo hx hdg hq
                  go_wp2
                  go_ret2
                  exact ⟨by rw [HF.out]; rfl, Below.refl _ _⟩
              · have hkk : k = s.size := by omega
                subst hkk
                have HF : Hid (readP bs = (a, 0)) := Lib.hid (by
                  have := ha.out
                  rw [List.take_of_length_le (by omega)] at this
                  rw [HRP.out, if_pos (by omega), this])
                clear ha
                go_wp2
                go_ret2
                exact ⟨by rw [HF.out]; rfl, Below.refl _ _⟩
end Go.Proofs.YtggbnjdbbomjoaaDoor
