/- Walks of the digits package: Text, Read (strconv by the shelf's contracts). -/
import Derived.Test.YtggbnjdbbomjoaaDoorDigD
import Derived.Test.YtggbnjdbbomjoaaDoorShelf
import Derived.Lib.SmallJoins
import Derived.Lib.AppendIntMem
import Derived.Lib.ParseIntB
import Derived.Laws.Strings3
import Derived.Laws.Closers25
import Derived.Laws.Closers25b
namespace Go.Proofs.YtggbnjdbbomjoaaDoor
open Go.RowKit

/-- what the package-level variables hold that strconv reads -/
structure Vars (w : World) : Prop where
  tab : Lib.TabIs Tryd.prog w "internal/strconv.uint64pow10" .u64 Lib.pow10Tab
  rng : ∃ tp p, w.var? Tryd.prog "strconv.ErrRange" = some #[.iface tp p]
theorem g_tab : Tryd.prog.globalNamed "internal/strconv.uint64pow10" = some 4 := by kernel_rfl
theorem g_rng : Tryd.prog.globalNamed "strconv.ErrRange" = some 3 := by kernel_rfl
theorem Vars.on {w w' : World} {B : Nat} (h : Vars w) (hb : Below B w w') (hB : w.heap.size ≤ B) : Vars w' :=
  ⟨Joins.tab_stays g_tab h.tab hb hB, by obtain ⟨tp, p, hv⟩ := h.rng; exact ⟨tp, p, Joins.var_stays g_rng hv hb hB⟩⟩
theorem text_any (n : Int) (h : I64 n) (w : World) (V : Vars w) : Calls Tryd.prog 12 #[.int .i64 n] w fun e w' => e = .returned (.string ⟨(Lib.itoa n).toArray⟩) ∧ Below w.heap.size w w' := by
  go_enter Tryd.func12, Tryd.ntmps12
  go_wp2_with (go_at_call 30; refine (Tryd.strconv_FormatInt_10 n h.1 h.2 _ V.tab).mono ?_; rintro e w1 ⟨rfl, k, os, rfl⟩)
  go_ret
  exact ⟨rfl, Lib.below_grow _ _ (Nat.le_refl _) _ _⟩

/-- a digit -/
def isD (c : UInt8) : Bool := decide (48 ≤ c.toNat) && decide (c.toNat ≤ 57)
/-- the number that digits spell, behind acc -/
def numD (acc : Nat) : List UInt8 → Nat
  | [] => acc
  | c :: r => numD (acc * 10 + (c.toNat - 48)) r
theorem numD_le (acc : Nat) (l : List UInt8) : acc ≤ numD acc l := by
  induction l generalizing acc with
  | nil => exact Nat.le_refl _
  | cons c r ih => exact Nat.le_trans (by omega) (ih _)
theorem isD_iff (c : UInt8) : isD c = true ↔ 48 ≤ c.toNat ∧ c.toNat ≤ 57 := by simp [isD]
theorem parseM_ok (M : Nat) (hM : M < 1844674407370955162 * 10) (l : List UInt8) (h : l.all isD = true) (acc : Nat) (ha : numD acc l ≤ M) : Lib.parseUintM M acc l = .ok (numD acc l) := by
  induction l generalizing acc with
  | nil => rfl
  | cons c r ih =>
    rw [List.all_cons, Bool.and_eq_true] at h
    have hc := (isD_iff c).1 h.1
    have hm := numD_le (acc * 10 + (c.toNat - 48)) r
    have ha' : numD (acc * 10 + (c.toNat - 48)) r ≤ M := ha
    rw [Lib.parseUintM, if_pos hc, if_neg (by omega), if_neg (by omega)]
    exact ih h.2 _ ha'
theorem parseM_range (M : Nat) (l : List UInt8) (h : l.all isD = true) (acc : Nat) (h0 : acc ≤ M) (ha : M < numD acc l) : Lib.parseUintM M acc l = .range := by
  induction l generalizing acc with
  | nil => exact absurd (show M < acc from ha) (by omega)
  | cons c r ih =>
    rw [List.all_cons, Bool.and_eq_true] at h
    have hc := (isD_iff c).1 h.1
    have ha' : M < numD (acc * 10 + (c.toNat - 48)) r := ha
    rw [Lib.parseUintM, if_pos hc]
    by_cases h1 : 1844674407370955162 ≤ acc
    · rw [if_pos h1]
    · rw [if_neg h1]
      by_cases h2 : M < acc * 10 + (c.toNat - 48)
      · rw [if_pos h2]
      · rw [if_neg h2]
        exact ih h.2 _ (by omega) ha'
theorem parse64_u (l : List UInt8) (h : l.all isD = true) (hl : l ≠ []) :
    (∀ u, Lib.parseUintM (2 ^ 64 - 1) 0 l = .ok u → Lib.parseIntB 64 l = if 2 ^ 63 ≤ u then .range else .ok (u : Int)) ∧
    (Lib.parseUintM (2 ^ 64 - 1) 0 l = .range → Lib.parseIntB 64 l = .range) := by
  cases l with
  | nil => exact absurd rfl hl
  | cons c r =>
    rw [List.all_cons, Bool.and_eq_true] at h
    have hc := (isD_iff c).1 h.1
    have e1 : ¬ c.toNat = 43 := by omega
    have e2 : ¬ c.toNat = 45 := by omega
    refine ⟨fun u he => ?_, fun he => ?_⟩ <;> simp only [Lib.parseIntB, e1, e2, or_self, if_false, Lib.parseUintB, hl, he, not_false_eq_true, true_and, false_and]
theorem parse64_ok (l : List UInt8) (h : l.all isD = true) (hl : l ≠ []) (hn : numD 0 l < 2 ^ 63) : Lib.parseIntB 64 l = .ok (numD 0 l : Int) := by
  have hb : (2 ^ 63 : Nat) ≤ 2 ^ 64 - 1 := by decide
  rw [(parse64_u l h hl).1 _ (parseM_ok _ (by decide) l h 0 (by omega))]
  exact if_neg (by omega)
theorem parse64_range (l : List UInt8) (h : l.all isD = true) (hl : l ≠ []) (hn : 2 ^ 63 ≤ numD 0 l) : Lib.parseIntB 64 l = .range := by
  by_cases h1 : numD 0 l ≤ 2 ^ 64 - 1
  · rw [(parse64_u l h hl).1 _ (parseM_ok _ (by decide) l h 0 h1)]
    exact if_pos hn
  · exact (parse64_u l h hl).2 (parseM_range _ l h 0 (Nat.zero_le _) (by omega))
/-- what Read answers: the number, the error -/
def readP (l : List UInt8) : Int × Int :=
  if l = [] ∨ (1 < l.length ∧ l.head? = some 48) ∨ l.all isD = false then (0, 5)
  else if numD 0 l ≤ 4611686018427387903 then (numD 0 l, 0) else (0, 6)
theorem readP_num (bs : List UInt8) (h : ¬ (bs = [] ∨ (1 < bs.length ∧ bs.head? = some 48) ∨ bs.all isD = false)) :
    readP bs = if numD 0 bs ≤ 4611686018427387903 then ((numD 0 bs : Int), 0) else (0, 6) := if_neg h

set_option maxRecDepth 100000 in
set_option maxHeartbeats 1000000 in
theorem read_any (s : ByteArray) (hs : s.size ≤ 281474976710656) (w : World) (V : Vars w) :
    Calls Tryd.prog 10 #[.string s] w fun e w' => e = .returned (.tuple #[.int .i64 (readP s.data.toList).1, .int .i64 (readP s.data.toList).2]) ∧ Below w.heap.size w w' := by
  have hcv := Lib.run_convert_string_bytes (P := Tryd.prog) w 9 53 5 s (u := .string) Tryd.underlying9 Tryd.underlying53 Tryd.underlying5
  have hB : ∀ j, j < s.size → (Lib.bytesWorld w 5 s).cell? ⟨w.heap.size, j, none⟩ = some (.int .u8 (s.data.toList.getD j 0).toNat) := fun j hj => Lib.bytesWorld_cell w 5 s j hj
  have hb1 := Joins.below_bytesWorld w.heap.size w 5 s (Nat.le_refl _)
  obtain ⟨W1, hW1⟩ : ∃ W1, W1 = Lib.bytesWorld w 5 s := ⟨_, rfl⟩
  rw [← hW1] at hcv hB hb1
  clear hW1
  obtain ⟨bs, hL⟩ : ∃ bs, bs = s.data.toList := ⟨_, rfl⟩
  have hLn : bs.length = s.size := by rw [hL, Lib.size_eq]
  rw [← hL] at hB ⊢
  have hLt : s.toList = bs := by rw [hL]; exact Lib.toList_data s
  have hS0 : ∀ h : 0 < s.size, s[0]'h = bs.getD 0 0 := by
    intro h
    subst hL
    obtain ⟨⟨l⟩⟩ := s
    have h' : 0 < l.length := h
    show l[0] = l.getD 0 0
    rw [List.getD, List.getElem?_eq_getElem h']; rfl
  have HL := Lib.hid hL; clear hL
  cases bs with
  | nil =>
    have hem : s.toList.isEmpty = true := by rw [hLt]; rfl
    clear hLt hB hcv
    go_enter Tryd.func10, Tryd.ntmps10
    go_wp2
    go_ret2
    exact ⟨rfl, Below.refl _ _⟩
  | cons c r =>
    have hem : s.toList.isEmpty = false := by rw [hLt]; rfl
    have hsz : 0 < s.size := by rw [← hLn]; simp
    have hc0 : ∀ h : 0 < s.size, s[0]'h = c := fun h => by rw [hS0 h]; rfl
    have HLN := Lib.hid hLn
    by_cases h1 : 1 < s.size ∧ c = 48
    · have hl1 : 1 < s.size := h1.1
      have hc1 : ∀ h : 0 < s.size, s[0]'h = 48 := fun h => by rw [hc0 h]; exact h1.2
      have hp : readP (c :: r) = (0, 5) := if_pos (Or.inr (Or.inl ⟨by rw [HLN.out]; exact hl1, by rw [h1.2]; rfl⟩))
      rw [hp]
      clear hLt hB hcv h1 hc0 hS0 hLn
      go_enter Tryd.func10, Tryd.ntmps10
      go_wp2
      go_ret2
      exact ⟨rfl, Below.refl _ _⟩
    · have h2 : s.size = 1 ∨ (1 < (s.size : Int) ∧ ((c.toNat : Int) == 48) = false) := by
        by_cases q : c = 48
        · have : ¬ 1 < s.size := fun h => h1 ⟨h, q⟩
          left; omega
        · by_cases hs1 : s.size = 1
          · exact Or.inl hs1
          right; refine ⟨by omega, ?_⟩; simp; intro e; exact q (UInt8.toNat_inj.mp (by simpa using (by omega : c.toNat = 48)))
      have h1' : ¬ (1 < (c :: r).length ∧ (c :: r).head? = some 48) := fun q => h1 ⟨by rw [← hLn]; exact q.1, by simpa using q.2⟩
      have H1 := Lib.hid h1'
      generalize c :: r = bs at *
      clear h1 h1' hS0 hLt
      go_enter Tryd.func10, Tryd.ntmps10
      have hK : s.size ≤ 9223372036854775807 := by omega
      rcases h2 with h2 | ⟨h2, h3⟩
      all_goals
        go_wp2
        go_loop [23] (fun vi => ∃ k : Nat, vi = .int .i64 k ∧ k ≤ s.size ∧ Hid ((bs.take k).all isD = true))
          (fun vi => s.size - (intOf vi).toNat)
        case atStart => exact ⟨0, rfl, by omega, Lib.hid rfl⟩
        case round =>
          obtain ⟨k, rfl, hk, hh⟩ := hrel
          by_cases hkn : k < s.size
          · have hc := hB k hkn
            have hget : bs.getD k 0 = bs[k]'(by omega) := by simp [List.getD, List.getElem?_eq_getElem (show k < bs.length by omega)]
            rw [hget] at hc
            have htk : bs.take (k + 1) = bs.take k ++ [bs[k]'(by omega)] := (List.take_append_getElem (by omega)).symm
            have hmem : bs[k]'(by omega) ∈ bs := List.getElem_mem _
            generalize bs[k]'(by omega) = d at hc htk hmem
            have hc256 : d.toNat < 256 := d.toNat_lt
            have HTK := Lib.hid htk
            have HME := Lib.hid hmem
            clear hB hget htk hmem
            by_cases hd : 48 ≤ d.toNat ∧ d.toNat ≤ 57
            · have HN : Hid ((bs.take (k + 1)).all isD = true) := Lib.hid (by rw [HTK.out, List.all_append, hh.out]; simp [isD, hd])
              go_wp2
              exact ⟨⟨k + 1, rfl, hkn, HN⟩, by simp [intOf]; omega⟩
            · have hF : readP bs = (0, 5) := if_pos (Or.inr (Or.inr (by
                cases q : bs.all isD with
                | false => rfl
                | true => exact absurd ((isD_iff d).1 (List.all_eq_true.1 q d HME.out)) hd)))
              have HF := Lib.hid hF
              clear hF
              go_wp2
              all_goals
                go_ret2
                exact ⟨by rw [HF.out]; rfl, hb1⟩
          · have hkk : k = s.size := by omega
            subst hkk
            clear hB
            have hall : bs.all isD = true := by have := hh.out; rwa [List.take_of_length_le (by omega)] at this
            have hne : bs ≠ [] := by intro e; rw [e] at hLn; simp at hLn; omega
            have hnq : ¬ (bs = [] ∨ (1 < bs.length ∧ bs.head? = some 48) ∨ bs.all isD = false) := by
              intro q; rcases q with q | q | q
              · exact hne q
              · exact H1.out q
              · rw [hall] at q; cases q
            have hrp := readP_num bs hnq
            clear hnq
            have hbt : ∀ (t : ByteArray), Below w.heap.size W1 (Lib.bytesWorld W1 5 t) := fun t => Joins.below_bytesWorld _ _ _ _ hb1.size
            have V1 : Vars W1 := V.on hb1 (Nat.le_refl _)
            obtain ⟨tp, pe, hvar⟩ := V1.rng
            by_cases hn : numD 0 bs < 2 ^ 63
            · have hp := parse64_ok bs hall hne hn
              have hx : (numD 0 bs : Int) < 9223372036854775808 := by omega
              clear hn
              by_cases hm : (numD 0 bs : Int) ≤ 4611686018427387903
              · have HR : Hid (readP bs = ((numD 0 bs : Int), 0)) := Lib.hid (by rw [hrp, if_pos (by omega)])
                clear hrp
                generalize (numD 0 bs : Int) = x at *
                rw [HL.out] at hp
                have HP := Lib.hid hp
                clear hp
                go_wp2_with (go_at_call 29; refine (Tryd.strconv_ParseInt_10_at64_ok s (by omega) _ HP.out _).mono ?_; rintro e w2 ⟨rfl, hb2⟩)
                go_ret2
                exact ⟨by rw [HR.out]; rfl, by rcases hb2 with rfl | ⟨t, rfl⟩; exact hb1; exact hb1.trans (hbt t)⟩
              · have HR : Hid (readP bs = (0, 6)) := Lib.hid (by rw [hrp, if_neg (by omega)])
                clear hrp
                generalize (numD 0 bs : Int) = x at *
                rw [HL.out] at hp
                have HP := Lib.hid hp
                clear hp
                go_wp2_with (go_at_call 29; refine (Tryd.strconv_ParseInt_10_at64_ok s (by omega) _ HP.out _).mono ?_; rintro e w2 ⟨rfl, hb2⟩)
                go_ret2
                exact ⟨by rw [HR.out]; rfl, by rcases hb2 with rfl | ⟨t, rfl⟩; exact hb1; exact hb1.trans (hbt t)⟩
            · have hp := parse64_range bs hall hne (by omega)
              rw [HL.out] at hp
              have HP := Lib.hid hp
              have HR : Hid (readP bs = (0, 6)) := Lib.hid (by rw [hrp, if_neg (by omega)])
              clear hp hrp hn
              go_wp2_with (go_at_call 29; refine (Tryd.strconv_ParseInt_10_at64_range_var s hs HP.out tp pe _ hvar).mono ?_; rintro e w2 ⟨N, rfl, hN1, hN2, hb2⟩)
              go_ret2
              exact ⟨by rw [HR.out]; rfl, hb1.trans (hb2.mono hb1.size)⟩
end Go.Proofs.YtggbnjdbbomjoaaDoor
