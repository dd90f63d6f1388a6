/- Walks of the sorts package: may. -/
import Derived.Test.YtggbnjdbbomjoaaSorA
import Derived.Maps.AppendAt
import Derived.Maps.Own
namespace Go.Proofs.Ytggbnjdbbomjoaa
open Go.RowKit
/-- the words that no name may be -/
def words13 : List ByteArray := [⟨#[95]⟩, ⟨#[33]⟩, ⟨#[97, 115]⟩, ⟨#[108, 101, 116]⟩, ⟨#[101, 120, 105, 115, 116, 115]⟩, ⟨#[102, 111, 114, 97, 108, 108]⟩, ⟨#[109, 97, 116, 99, 104]⟩, ⟨#[112, 97, 114]⟩, ⟨#[66, 73, 78, 65, 82, 89]⟩, ⟨#[68, 69, 67, 73, 77, 65, 76]⟩, ⟨#[72, 69, 88, 65, 68, 69, 67, 73, 77, 65, 76]⟩, ⟨#[78, 85, 77, 69, 82, 65, 76]⟩, ⟨#[83, 84, 82, 73, 78, 71]⟩]
theorem infoS : (Try.prog.info? 9).map (fun i => (i.zero, i.size, i.bytes)) = some (some (.string ByteArray.empty), 1, 16) := by kernel_rfl
/-- may a name be, beside these words? -/
def mayB (name : ByteArray) (ws : List ByteArray) : Bool :=
  !name.toList.isEmpty && decide (name.size ≤ 1000) && (name.data.toList.head? != some 46) && (name.data.toList.head? != some 64) && !decide (0 ≤ idx name (ws ++ words13) 0)
set_option maxRecDepth 100000 in
set_option maxHeartbeats 1000000 in
theorem may_any (name : ByteArray) (ws : List ByteArray) (v : Value) (B : Nat) (w : World) (hB : B ≤ w.heap.size) (hw : w.ownsRow B 9 1 v ws.length (ws.map Value.string)) (hl : ws.length ≤ 100) :
    Calls Try.prog 25 #[.string name, v] w fun e w' => e = .returned (.bool (mayB name ws)) ∧ Below B w w' := by
  obtain ⟨i0, hi, hz0, hz1, hz2⟩ := info_parts infoS
  have hn : ∀ j u, ([.string ⟨#[95]⟩, .string ⟨#[33]⟩, .string ⟨#[97, 115]⟩, .string ⟨#[108, 101, 116]⟩, .string ⟨#[101, 120, 105, 115, 116, 115]⟩, .string ⟨#[102, 111, 114, 97, 108, 108]⟩, .string ⟨#[109, 97, 116, 99, 104]⟩, .string ⟨#[112, 97, 114]⟩, .string ⟨#[66, 73, 78, 65, 82, 89]⟩, .string ⟨#[68, 69, 67, 73, 77, 65, 76]⟩, .string ⟨#[72, 69, 88, 65, 68, 69, 67, 73, 77, 65, 76]⟩, .string ⟨#[78, 85, 77, 69, 82, 65, 76]⟩, .string ⟨#[83, 84, 82, 73, 78, 71]⟩] : List Value)[j]? = some u → (w.alloc (.cells ([.string ⟨#[95]⟩, .string ⟨#[33]⟩, .string ⟨#[97, 115]⟩, .string ⟨#[108, 101, 116]⟩, .string ⟨#[101, 120, 105, 115, 116, 115]⟩, .string ⟨#[102, 111, 114, 97, 108, 108]⟩, .string ⟨#[109, 97, 116, 99, 104]⟩, .string ⟨#[112, 97, 114]⟩, .string ⟨#[66, 73, 78, 65, 82, 89]⟩, .string ⟨#[68, 69, 67, 73, 77, 65, 76]⟩, .string ⟨#[72, 69, 88, 65, 68, 69, 67, 73, 77, 65, 76]⟩, .string ⟨#[78, 85, 77, 69, 82, 65, 76]⟩, .string ⟨#[83, 84, 82, 73, 78, 71]⟩] : List Value).toArray 9)).cell? ((⟨w.heap.size, 0, none⟩ : Addr).add j) = some u := by
    intro j u h
    have := (CellsW.new w ([.string ⟨#[95]⟩, .string ⟨#[33]⟩, .string ⟨#[97, 115]⟩, .string ⟨#[108, 101, 116]⟩, .string ⟨#[101, 120, 105, 115, 116, 115]⟩, .string ⟨#[102, 111, 114, 97, 108, 108]⟩, .string ⟨#[109, 97, 116, 99, 104]⟩, .string ⟨#[112, 97, 114]⟩, .string ⟨#[66, 73, 78, 65, 82, 89]⟩, .string ⟨#[68, 69, 67, 73, 77, 65, 76]⟩, .string ⟨#[72, 69, 88, 65, 68, 69, 67, 73, 77, 65, 76]⟩, .string ⟨#[78, 85, 77, 69, 82, 65, 76]⟩, .string ⟨#[83, 84, 82, 73, 78, 71]⟩] : List Value) 9 j u h).1
    rw [show ((⟨w.heap.size, 0, none⟩ : Addr).add j) = ⟨w.heap.size, j, none⟩ by cases j <;> simp [Addr.add]]
    exact this
  have hS0 : ∀ h : 0 < name.size, name[0]'h = name.data.toList.getD 0 0 := by
    intro h
    obtain ⟨⟨l⟩⟩ := name
    have h' : 0 < l.length := h
    show l[0] = l.getD 0 0
    rw [List.getD, List.getElem?_eq_getElem h']; rfl
  have hsz : name.size = name.data.toList.length := Lib.size_eq name
  have hLt : name.toList = name.data.toList := Lib.toList_data name
  have hbel : ∀ o w1, (w.alloc o).grownBy w1 v.ownBlock → Below B w w1 := fun o w1 g =>
    ⟨g.os, g.tape, g.output, Nat.le_trans (by simp) g.size, fun k hk => by
      rw [g.block k (by simp; omega) (fun e => by have := hw.lt k e.symm; omega)]
      exact ((Below.refl B w).alloc hB o).block k hk⟩
  have HBEL := Lib.hid hbel
  clear hbel
  cases hb : name.data.toList with
  | nil =>
    have hem : name.toList.isEmpty = true := by rw [hLt, hb]; rfl
    have HR : Hid (mayB name ws = false) := Lib.hid (by unfold mayB; rw [hem]; rfl)
    clear hS0 hsz hLt hb
    go_enter Try.func25, Try.ntmps25
    go_wp2_with (first | (at_builtin; refine wpList_append_own _ rfl _ _ 77 rfl B 9 i0 (.string ByteArray.empty) 1 16 Try.underlying77 hi hz0 hz1 hz2 rfl (by decide) v ws.length (ws.map Value.string) rfl (hw.alloc _) ⟨w.heap.size, 0, none⟩ 13 13 [.string ⟨#[95]⟩, .string ⟨#[33]⟩, .string ⟨#[97, 115]⟩, .string ⟨#[108, 101, 116]⟩, .string ⟨#[101, 120, 105, 115, 116, 115]⟩, .string ⟨#[102, 111, 114, 97, 108, 108]⟩, .string ⟨#[109, 97, 116, 99, 104]⟩, .string ⟨#[112, 97, 114]⟩, .string ⟨#[66, 73, 78, 65, 82, 89]⟩, .string ⟨#[68, 69, 67, 73, 77, 65, 76]⟩, .string ⟨#[72, 69, 88, 65, 68, 69, 67, 73, 77, 65, 76]⟩, .string ⟨#[78, 85, 77, 69, 82, 65, 76]⟩, .string ⟨#[83, 84, 82, 73, 78, 71]⟩] rfl rfl hn (by simp [Value.oneCell']) (by unfold maxLen; omega) (by omega) (by simp; omega) ?_; intro v' w1 hown hgrow hnil) | fail)
    go_ret
    exact ⟨by rw [HR.out]; rfl, HBEL.out _ _ hgrow⟩
  | cons c r =>
    have hem : name.toList.isEmpty = false := by rw [hLt, hb]; rfl
    have h0 : 0 < name.size := by rw [hsz, hb]; simp
    have hc0 : ∀ h : 0 < name.size, name[0]'h = c := fun h => by rw [hS0 h, hb]; rfl
    have hhd : name.data.toList.head? = some c := by rw [hb]; rfl
    have hmay : mayB name ws = (decide (name.size ≤ 1000) && (some c != some 46) && (some c != some 64) && !decide (0 ≤ idx name (ws ++ words13) 0)) := by
      unfold mayB; rw [hem, hhd]; simp
    have HMAY := Lib.hid hmay
    clear hS0 hsz hLt hb hhd hmay
    by_cases h1 : name.size ≤ 1000
    case neg =>
      have h1' : 1000 < (name.size : Int) := by omega
      have HR : Hid (mayB name ws = false) := Lib.hid (by rw [HMAY.out, decide_eq_false h1]; rfl)
      clear hc0 h1
      go_enter Try.func25, Try.ntmps25
      go_wp2_with (first | (at_builtin; refine wpList_append_own _ rfl _ _ 77 rfl B 9 i0 (.string ByteArray.empty) 1 16 Try.underlying77 hi hz0 hz1 hz2 rfl (by decide) v ws.length (ws.map Value.string) rfl (hw.alloc _) ⟨w.heap.size, 0, none⟩ 13 13 [.string ⟨#[95]⟩, .string ⟨#[33]⟩, .string ⟨#[97, 115]⟩, .string ⟨#[108, 101, 116]⟩, .string ⟨#[101, 120, 105, 115, 116, 115]⟩, .string ⟨#[102, 111, 114, 97, 108, 108]⟩, .string ⟨#[109, 97, 116, 99, 104]⟩, .string ⟨#[112, 97, 114]⟩, .string ⟨#[66, 73, 78, 65, 82, 89]⟩, .string ⟨#[68, 69, 67, 73, 77, 65, 76]⟩, .string ⟨#[72, 69, 88, 65, 68, 69, 67, 73, 77, 65, 76]⟩, .string ⟨#[78, 85, 77, 69, 82, 65, 76]⟩, .string ⟨#[83, 84, 82, 73, 78, 71]⟩] rfl rfl hn (by simp [Value.oneCell']) (by unfold maxLen; omega) (by omega) (by simp; omega) ?_; intro v' w1 hown hgrow hnil) | fail)
      go_ret
      exact ⟨by rw [HR.out]; rfl, HBEL.out _ _ hgrow⟩
    have h1' : (name.size : Int) ≤ 1000 := by omega
    by_cases h2 : c = 46
    · subst h2
      have HR : Hid (mayB name ws = false) := Lib.hid (by rw [HMAY.out]; simp)
      go_enter Try.func25, Try.ntmps25
      go_wp2_with (first | (at_builtin; refine wpList_append_own _ rfl _ _ 77 rfl B 9 i0 (.string ByteArray.empty) 1 16 Try.underlying77 hi hz0 hz1 hz2 rfl (by decide) v ws.length (ws.map Value.string) rfl (hw.alloc _) ⟨w.heap.size, 0, none⟩ 13 13 [.string ⟨#[95]⟩, .string ⟨#[33]⟩, .string ⟨#[97, 115]⟩, .string ⟨#[108, 101, 116]⟩, .string ⟨#[101, 120, 105, 115, 116, 115]⟩, .string ⟨#[102, 111, 114, 97, 108, 108]⟩, .string ⟨#[109, 97, 116, 99, 104]⟩, .string ⟨#[112, 97, 114]⟩, .string ⟨#[66, 73, 78, 65, 82, 89]⟩, .string ⟨#[68, 69, 67, 73, 77, 65, 76]⟩, .string ⟨#[72, 69, 88, 65, 68, 69, 67, 73, 77, 65, 76]⟩, .string ⟨#[78, 85, 77, 69, 82, 65, 76]⟩, .string ⟨#[83, 84, 82, 73, 78, 71]⟩] rfl rfl hn (by simp [Value.oneCell']) (by unfold maxLen; omega) (by omega) (by simp; omega) ?_; intro v' w1 hown hgrow hnil) | fail)
      go_ret
      exact ⟨by rw [HR.out]; rfl, HBEL.out _ _ hgrow⟩
    by_cases h3 : c = 64
    · subst h3
      have HR : Hid (mayB name ws = false) := Lib.hid (by rw [HMAY.out]; simp)
      go_enter Try.func25, Try.ntmps25
      go_wp2_with (first | (at_builtin; refine wpList_append_own _ rfl _ _ 77 rfl B 9 i0 (.string ByteArray.empty) 1 16 Try.underlying77 hi hz0 hz1 hz2 rfl (by decide) v ws.length (ws.map Value.string) rfl (hw.alloc _) ⟨w.heap.size, 0, none⟩ 13 13 [.string ⟨#[95]⟩, .string ⟨#[33]⟩, .string ⟨#[97, 115]⟩, .string ⟨#[108, 101, 116]⟩, .string ⟨#[101, 120, 105, 115, 116, 115]⟩, .string ⟨#[102, 111, 114, 97, 108, 108]⟩, .string ⟨#[109, 97, 116, 99, 104]⟩, .string ⟨#[112, 97, 114]⟩, .string ⟨#[66, 73, 78, 65, 82, 89]⟩, .string ⟨#[68, 69, 67, 73, 77, 65, 76]⟩, .string ⟨#[72, 69, 88, 65, 68, 69, 67, 73, 77, 65, 76]⟩, .string ⟨#[78, 85, 77, 69, 82, 65, 76]⟩, .string ⟨#[83, 84, 82, 73, 78, 71]⟩] rfl rfl hn (by simp [Value.oneCell']) (by unfold maxLen; omega) (by omega) (by simp; omega) ?_; intro v' w1 hown hgrow hnil) | fail)
      go_ret
      exact ⟨by rw [HR.out]; rfl, HBEL.out _ _ hgrow⟩
    have h2' : ((c.toNat : Int) != 46) = true := by simp; intro e; exact h2 (UInt8.toNat_inj.mp (by simpa using (by omega : c.toNat = 46)))
    have h3' : ((c.toNat : Int) != 64) = true := by simp; intro e; exact h3 (UInt8.toNat_inj.mp (by simpa using (by omega : c.toNat = 64)))
    have HR : Hid (mayB name ws = !decide (0 ≤ idx name (ws ++ words13) 0)) := Lib.hid (by rw [HMAY.out, decide_eq_true h1]; simp [h2, h3])
    clear h2 h3 h1
    go_enter Try.func25, Try.ntmps25
    go_wp2_with (first | (at_builtin; refine wpList_append_own _ rfl _ _ 77 rfl B 9 i0 (.string ByteArray.empty) 1 16 Try.underlying77 hi hz0 hz1 hz2 rfl (by decide) v ws.length (ws.map Value.string) rfl (hw.alloc _) ⟨w.heap.size, 0, none⟩ 13 13 [.string ⟨#[95]⟩, .string ⟨#[33]⟩, .string ⟨#[97, 115]⟩, .string ⟨#[108, 101, 116]⟩, .string ⟨#[101, 120, 105, 115, 116, 115]⟩, .string ⟨#[102, 111, 114, 97, 108, 108]⟩, .string ⟨#[109, 97, 116, 99, 104]⟩, .string ⟨#[112, 97, 114]⟩, .string ⟨#[66, 73, 78, 65, 82, 89]⟩, .string ⟨#[68, 69, 67, 73, 77, 65, 76]⟩, .string ⟨#[72, 69, 88, 65, 68, 69, 67, 73, 77, 65, 76]⟩, .string ⟨#[78, 85, 77, 69, 82, 65, 76]⟩, .string ⟨#[83, 84, 82, 73, 78, 71]⟩] rfl rfl hn (by simp [Value.oneCell']) (by unfold maxLen; omega) (by omega) (by simp; omega) ?_; intro v' w1 hown hgrow hnil) | fail)
    have hlw : (ws ++ words13).length = ws.length + 13 := by simp [words13]
    have hown' : w1.ownsRow B 9 1 v' (ws ++ words13).length ((ws ++ words13).map Value.string) := by rw [hlw, List.map_append]; exact hown
    clear hown hnil
    obtain ⟨g, cap, cur, rfl, hg⟩ : ∃ g cap cur, v' = .slice (some ⟨g, 0, none⟩) (ws ++ words13).length cap ∧ w1.heap[g]? = some (.cells cur 9 (0, 0)) := by
      rcases hown'.2 with ⟨_, h⟩ | ⟨g, cap, cur, h1, _, h2, _⟩
      · omega
      · exact ⟨g, cap, cur, h1, h2⟩
    have hcells := hown'.cells (g := g) rfl
    have HC := Lib.hid (contains_any g 0 (ws ++ words13) cap name w1 (fun j hj => by
      have := hcells j (.string ((ws ++ words13).getD j ByteArray.empty)) (by rw [List.getElem?_map, List.getElem?_eq_getElem hj]; simp [List.getD, List.getElem?_eq_getElem hj])
      rw [show ((⟨g, 0, none⟩ : Addr).add j) = ⟨g, 0 + j, none⟩ by cases j <;> simp [Addr.add]] at this
      exact this) (by omega))
    clear hcells hown' hg
    refine HC.out.mono ?_; rintro e w2 ⟨rfl, rfl⟩
    have HG := Lib.hid hgrow
    clear hgrow HC
    go_wp2
    go_ret
    exact ⟨by rw [HR.out]; rfl, HBEL.out _ _ HG.out⟩
end Go.Proofs.Ytggbnjdbbomjoaa
