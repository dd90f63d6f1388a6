/- Walks of the sorts package: none, Index, Contains. -/
import Derived.Test.YtggbnjdbbomjoaaReg
import Derived.Lib.Strings
namespace Go.Proofs.Ytggbnjdbbomjoaa
open Go.RowKit
theorem map_nil_eq (w : World) : (binOp BinOp.eql 59 (.map none) (.map none)).run Try.prog w = .ok (.bool true) w := by kernel_rfl
theorem map_some_eq (m : Nat) (w : World) : (binOp BinOp.eql 59 (.map (some m)) (.map none)).run Try.prog w = .ok (.bool false) w := by kernel_rfl
theorem none_nil (w : World) : Calls Try.prog 24 #[.pointer none] w fun e w' => e = .returned (.bool true) ∧ w' = w := by
  go_enter Try.func24, Try.ntmps24
  go_wp2
  go_ret
  exact ⟨rfl, rfl⟩
set_option maxRecDepth 100000 in
theorem none_zero (b o : Nat) (w : World) (h : w.cell? ⟨b, o + 1, none⟩ = some (.map none)) : Calls Try.prog 24 #[.pointer (some ⟨b, o, none⟩)] w fun e w' => e = .returned (.bool true) ∧ w' = w := by
  have hm := map_nil_eq
  go_enter Try.func24, Try.ntmps24
  go_wp2
  go_ret
  exact ⟨rfl, rfl⟩
set_option maxRecDepth 100000 in
theorem none_there (b o m : Nat) (w : World) (h : w.cell? ⟨b, o + 1, none⟩ = some (.map (some m))) : Calls Try.prog 24 #[.pointer (some ⟨b, o, none⟩)] w fun e w' => e = .returned (.bool false) ∧ w' = w := by
  have hm := map_some_eq m
  go_enter Try.func24, Try.ntmps24
  go_wp2
  go_ret
  exact ⟨rfl, rfl⟩
/-- where the first one stands that is s; -1 -/
def idx (s : ByteArray) : List ByteArray → Int → Int
  | [], _ => -1
  | t :: r, i => if s = t then i else idx s r (i + 1)
set_option maxRecDepth 100000 in
theorem index_any (b o : Nat) (ws : List ByteArray) (c : Nat) (s : ByteArray) (w : World) (h : ∀ j, j < ws.length → w.cell? ⟨b, o + j, none⟩ = some (.string (ws.getD j ByteArray.empty))) (hl : ws.length ≤ 1000) :
    Calls Try.prog 51 #[.slice (some ⟨b, o, none⟩) ws.length c, .string s] w fun e w' => e = .returned (.int .i64 (idx s ws 0)) ∧ w' = w := by
  have H := Lib.hid h
  clear h
  go_enter Try.func51, Try.ntmps51
  go_wp2
  go_loop [8] (fun vi => ∃ k : Nat, vi = .int .i64 k ∧ k ≤ ws.length ∧ Hid (idx s ws 0 = idx s (ws.drop k) k))
    (fun vi => ws.length - (intOf vi).toNat)
  case atStart => exact ⟨0, rfl, by omega, Lib.hid rfl⟩
  case round =>
    obtain ⟨k, rfl, hk, hi⟩ := hrel
    by_cases hkn : k < ws.length
    · have hc := H.out k hkn
      have hd : ws.drop k = ws[k] :: ws.drop (k + 1) := List.drop_eq_getElem_cons hkn
      have hg : ws.getD k ByteArray.empty = ws[k] := by simp [List.getD, List.getElem?_eq_getElem hkn]
      rw [hg] at hc
      have hs := hi.out
      rw [hd] at hs
      generalize ws[k] = t at hc hs
      clear hd hg
      by_cases e : s = t
      · subst e
        have HS : Hid (idx s ws 0 = k) := Lib.hid (by rw [hs]; simp [idx])
        clear hs
        go_wp2
        go_ret
        exact ⟨by rw [HS.out]; rfl, rfl⟩
      · have hne : (s.toList == t.toList) = false := by
          rw [beq_eq_false_iff_ne]
          intro q
          rw [Lib.toList_data, Lib.toList_data] at q
          exact e (ByteArray.ext (by simpa using q))
        have HS : Hid (idx s ws 0 = idx s (ws.drop (k + 1)) ((k + 1 : Nat) : Int)) := Lib.hid (by rw [hs]; simp [idx, e])
        clear hs e
        go_wp2
        exact ⟨⟨k + 1, rfl, hkn, HS⟩, by simp [intOf]; omega⟩
    · have HS : Hid (idx s ws 0 = -1) := Lib.hid (by rw [hi.out, List.drop_of_length_le (by omega)]; rfl)
      go_wp2
      go_ret
      exact ⟨by rw [HS.out]; rfl, rfl⟩
theorem idx_neg (s : ByteArray) : ∀ (l : List ByteArray) (i : Int), 0 ≤ i → (0 ≤ idx s l i ↔ s ∈ l)
  | [], i, _ => by simp [idx]
  | t :: r, i, h => by
    by_cases e : s = t
    · subst e; simp [idx, h]
    · have := idx_neg s r (i + 1) (by omega)
      simp [idx, e, this]
set_option maxRecDepth 100000 in
theorem contains_any (b o : Nat) (ws : List ByteArray) (c : Nat) (s : ByteArray) (w : World) (h : ∀ j, j < ws.length → w.cell? ⟨b, o + j, none⟩ = some (.string (ws.getD j ByteArray.empty))) (hl : ws.length ≤ 1000) :
    Calls Try.prog 40 #[.slice (some ⟨b, o, none⟩) ws.length c, .string s] w fun e w' => e = .returned (.bool (decide (0 ≤ idx s ws 0))) ∧ w' = w := by
  have HI := Lib.hid (index_any b o ws c s w h hl)
  clear h
  go_enter Try.func40, Try.ntmps40
  go_wp2_with fail
  refine HI.out.mono ?_; rintro e w1 ⟨rfl, rfl⟩
  go_wp2
  go_ret
  exact ⟨rfl, rfl⟩
end Go.Proofs.Ytggbnjdbbomjoaa
