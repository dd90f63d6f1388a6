/- Walks of the sorts package: the test of each argument's sort, Clone, Info. -/
import Derived.Test.YtggbnjdbbomjoaaSorG
namespace Go.Proofs.Ytggbnjdbbomjoaa
open Go.RowKit
theorem own_lower {w : World} {base base' : Nat} {e : TypeId} {size n : Nat} {v : Value} {xs : List Value} (h : w.ownsRow base e size v n xs) (hb : base' ≤ base) : w.ownsRow base' e size v n xs :=
  ⟨h.1, h.2.imp id (fun ⟨g, cap, cur, h1, h2, r⟩ => ⟨g, cap, cur, h1, Nat.le_trans hb h2, r⟩)⟩
set_option maxRecDepth 100000 in
theorem test_any {B : Nat} {w : World} {b : Nat} {x y : Nm} (h : STab B w b x y) (tb : Nat) (ht : w.cell? ⟨tb, 0, none⟩ = some (.pointer (some ⟨b, 0, none⟩))) (s : Int) (hs : I64 s) :
    Calls Try.prog 29 #[.int .i64 s, .pointer (some ⟨tb, 0, none⟩)] w fun e w' => saysB e ∧ Below w.heap.size w w' := by
  have HT := Lib.hid (there_any h s hs)
  clear h
  go_enter Try.func29, Try.ntmps29
  go_wp2_with fail
  refine HT.out.mono ?_; rintro e w1 ⟨⟨v, rfl⟩, hb⟩
  clear HT
  go_wp2
  go_ret
  exact ⟨⟨_, rfl⟩, hb⟩
def saysI (e : Ending) : Prop := ∃ i, e = .returned (.int .i64 i)
set_option maxRecDepth 100000 in
theorem indexFunc_any {B B0 : Nat} {w : World} {b : Nat} {x y : Nm} (h : STab B w b x y) (tb : Nat) (ht : w.cell? ⟨tb, 0, none⟩ = some (.pointer (some ⟨b, 0, none⟩))) (htl : tb < w.heap.size)
    (v : Value) (l : List Int) (hv : w.ownsRow B0 27 1 v l.length (l.map (Value.int .i64))) (hl : l.length ≤ 40) (hI : ∀ z ∈ l, I64 z) :
    Calls Try.prog 41 #[v, .func (.func 29) #[] #[.pointer (some ⟨tb, 0, none⟩)]] w fun e w' => saysI e ∧ Below w.heap.size w w' := by
  obtain ⟨ao, cap, rfl, hcap⟩ := own_slice hv
  have HT := Lib.hid (show ∀ w', Below w.heap.size w w' → ∀ s, I64 s → Calls Try.prog 29 #[.int .i64 s, .pointer (some ⟨tb, 0, none⟩)] w' fun e w'' => saysB e ∧ Below w'.heap.size w' w'' from
    fun w' hb s hs => test_any (h.below hb) tb (((bcell hb).1 tb 0 htl).trans ht) s hs)
  have HV := Lib.hid hv
  have HI := Lib.hid hI
  clear h ht hv hI
  go_enter Try.func41, Try.ntmps41
  go_wp2
  go_loopw [8] (fun vi wr => ∃ k : Nat, vi = .int .i64 k ∧ k ≤ l.length ∧ Hid (Below w.heap.size w wr)) (fun vi _ => l.length - (intOf vi).toNat)
  case atStart => exact ⟨0, rfl, by omega, Lib.hid (Below.refl _ _)⟩
  case round =>
    obtain ⟨k, rfl, hk, hb⟩ := hrel
    by_cases hkl : k < l.length
    · have hkl' : (k : Int) < l.length := by omega
      obtain ⟨g, rfl⟩ : ∃ g, ao = some ⟨g, 0, none⟩ := by
        rcases HV.out.2 with ⟨_, h⟩ | ⟨g, cap', cur, h1, _⟩
        · omega
        · simp at h1; exact ⟨g, h1.1⟩
      have hgl := (HV.out.lt g rfl).2
      have cN : wr.cell? ⟨g, k, none⟩ = some (.int .i64 l[k]) := by
        rw [(bcell hb.out).1 g k hgl, HV.out.cellAt k (by omega)]
        simp [hkl]
      have HZ := Lib.hid (HI.out l[k] (List.getElem_mem hkl))
      generalize l[k] = z at cN HZ
      go_wp2_with fail
      refine (HT.out wr hb.out z HZ.out).mono ?_; rintro e w1 ⟨⟨bb, rfl⟩, hb1⟩
      have HB1 := Lib.hid (hb.out.trans (hb1.mono hb.out.size))
      clear hb1 hb cN
      cases bb
      · go_wp2
        go_roundw
        case rel => exact ⟨k + 1, by go_num, by omega, HB1⟩
        case measure => simp [intOf]; omega
      · go_wp2
        go_ret
        exact ⟨⟨_, rfl⟩, HB1.out⟩
    · have hkl' : ¬ (k : Int) < l.length := by omega
      go_wp2
      go_ret
      exact ⟨⟨_, rfl⟩, hb.out⟩
set_option maxRecDepth 100000 in
theorem containsFunc_any {B B0 : Nat} {w : World} {b : Nat} {x y : Nm} (h : STab B w b x y) (tb : Nat) (ht : w.cell? ⟨tb, 0, none⟩ = some (.pointer (some ⟨b, 0, none⟩))) (htl : tb < w.heap.size)
    (v : Value) (l : List Int) (hv : w.ownsRow B0 27 1 v l.length (l.map (Value.int .i64))) (hl : l.length ≤ 40) (hI : ∀ z ∈ l, I64 z) :
    Calls Try.prog 28 #[v, .func (.func 29) #[] #[.pointer (some ⟨tb, 0, none⟩)]] w fun e w' => saysB e ∧ Below w.heap.size w w' := by
  have HX := Lib.hid (indexFunc_any h tb ht htl v l hv hl hI)
  clear h ht htl hv hl hI
  go_enter Try.func28, Try.ntmps28
  go_wp2_with fail
  refine HX.out.mono ?_; rintro e w1 ⟨⟨i, rfl⟩, hb⟩
  clear HX
  go_wp2
  go_ret
  exact ⟨⟨_, rfl⟩, hb⟩
theorem infoI : (Try.prog.info? 27).map (fun i => (i.zero, i.size, i.bytes)) = some (some (.int .i64 0), 1, 8) := by kernel_rfl
theorem nil_slice (w : World) : (binOp BinOp.eql 28 (.slice none 0 0) (.slice none 0 0)).run Try.prog w = .ok (.bool true) w := by kernel_rfl
theorem some_slice (g n c : Nat) (w : World) : (binOp BinOp.eql 28 (.slice (some ⟨g, 0, none⟩) n c) (.slice none 0 0)).run Try.prog w = .ok (.bool false) w := by kernel_rfl
set_option maxRecDepth 100000 in
/-- a copy of its own -/
theorem clone_any {B0 : Nat} {w : World} (v : Value) (l : List Int) (hv : w.ownsRow B0 27 1 v l.length (l.map (Value.int .i64))) (hl : l.length ≤ 40) :
    Calls Try.prog 30 #[v] w fun e w' => (∃ v', e = .returned v' ∧ w'.ownsRow w.heap.size 27 1 v' l.length (l.map (Value.int .i64))) ∧ Below w.heap.size w w' := by
  obtain ⟨i0, hi, hz0, hz1, hz2⟩ := info_parts infoI
  rcases hv.2 with ⟨rfl, hn⟩ | ⟨g, cap, cur, rfl, hg1, hg2, hg3, hg4, hg5, hg6⟩
  · have : l = [] := List.length_eq_zero_iff.1 hn
    subst this
    have hm := nil_slice
    go_enter Try.func30, Try.ntmps30
    go_wp2
    go_ret
    exact ⟨⟨_, rfl, World.ownsRow_nil _ _ _ _⟩, Below.refl _ _⟩
  · have hm := some_slice g l.length cap
    have hgl := lt_of_block hg2
    have h1 : ∀ u ∈ l.map (Value.int .i64), u.oneCell' = true := by
      intro u hu
      obtain ⟨z, _, rfl⟩ := List.mem_map.1 hu
      rfl
    have HV := Lib.hid (hv.alloc (.cells #[] 27))
    have HO := Lib.hid (World.ownsRow_made (base := w.heap.size) (e := 27) (size := 1) w #[] 0 (Nat.le_refl _) (by decide) rfl)
    have H1 := Lib.hid h1
    clear hv hg2 hg5 hg6 h1
    go_enter Try.func30, Try.ntmps30
    go_wp2_with (first | (at_builtin; refine wpList_append_own_at _ rfl _ _ 28 rfl w.heap.size 27 i0 (.int .i64 0) 1 8 Try.underlying28 hi hz0 hz1 hz2 rfl (by decide) (.slice (some ⟨w.heap.size, 0, none⟩) 0 0) 0 [] rfl HO.out ⟨g, 0, none⟩ l.length cap (l.map (Value.int .i64)) rfl (by simp) (HV.out.cells rfl) H1.out (by unfold maxLen; omega) (by omega) (by simp) ?_; intro v' w1 hown hgrow hnil hat) | fail)
    go_ret
    refine ⟨⟨_, rfl, ?_⟩, ?_⟩
    · rw [Nat.zero_add, List.nil_append] at hown; exact hown
    · exact ((Below.refl w.heap.size w).alloc (Nat.le_refl _) _).grown hgrow (by simp) (fun k e => by simp [Value.ownBlock] at e; omega)
set_option maxRecDepth 100000 in
theorem info_any {B : Nat} {w : World} {b : Nat} {x y : Nm} (h : STab B w b x y) (n : Nat) (f : Fd) (hf : y.fs[n]? = some f) (l : List Int) (hl : l.length ≤ 20) (hv : w.ownsRow B 27 1 f.ar l.length (l.map (Value.int .i64))) :
    Calls Try.prog 14 #[.pointer (some ⟨b, 0, none⟩), .int .i64 n] w fun e w' =>
      (∃ v', e = .returned (.tuple #[.agg #[.string f.nm, v', .int .i64 f.res, .bool f.df], .int .i64 0]) ∧ w'.ownsRow w.heap.size 27 1 v' l.length (l.map (Value.int .i64))) ∧ Below w.heap.size w w' := by
  have c3 := h.c3
  have hbl := h.lt
  obtain ⟨ao, cap, hAe, hcap⟩ := own_slice h.oky.oA
  have hA := h.oky.oA
  rw [hAe] at hA c3
  have hin : n < y.fs.length := (List.getElem?_eq_some_iff.1 hf).1
  obtain ⟨g', rfl⟩ : ∃ g', ao = some ⟨g', 0, none⟩ := by
    rcases hA.2 with ⟨_, h⟩ | ⟨g', cap', cur, h1, _⟩
    · omega
    · simp at h1; exact ⟨g', h1.1⟩
  have hc : ∀ j, j < 4 → w.cell? ⟨g', n * 4 + j, none⟩ = f.cells[j]? := fun j hj => by
    rw [hA.cellAt (n * 4 + j) (by omega), flatF_get y.fs n f j hf hj]
  have k0 := hc 0 (by omega); have k1 := hc 1 (by omega); have k2 := hc 2 (by omega); have k3 := hc 3 (by omega)
  simp only [Fd.cells, List.getElem?_cons_zero, List.getElem?_cons_succ, Nat.add_zero] at k0 k1 k2 k3
  have hgl' : g' < w.heap.size := (hA.lt g' rfl).2
  have HN := Lib.hid (show ∀ w', Below w.heap.size w w' → Calls Try.prog 24 #[.pointer (some ⟨b, 0, none⟩)] w' fun e w'' => e = .returned (.bool false) ∧ w'' = w' from fun w' hb => none_tab (h.below hb).toSTab0)
  have HV := Lib.hid hv
  have hin' : (n : Int) < y.fs.length := by omega
  obtain ⟨av, avn, hav⟩ : ∃ ao cap, f.ar = .slice ao l.length cap := by obtain ⟨ao, cap, e, _⟩ := own_slice hv; exact ⟨ao, cap, e⟩
  rw [hav] at k1 HV
  clear h hA hc hf hv
  go_enter Try.func14, Try.ntmps14
  go_wp2_with fail
  refine (HN.out _ (by (repeat (first | (with_reducible exact Below.refl _ _) | ((with_reducible refine Below.alloc ?_ ?_ _); rotate_left; focus (first | (simp; done) | (simp; omega))) | ((with_reducible refine Below.setCell ?_ ?_ _); rotate_left; focus (first | (simp; done) | (simp; omega))) | (with_reducible refine Below.drew ?_) | (with_reducible refine Below.drewN' ?_ _))))).mono ?_; rintro e w1 ⟨rfl, rfl⟩
  go_wp2_with fail
  refine (clone_any (B0 := B) _ l ((HV.out.alloc _).alloc _) (by omega)).mono ?_; rintro e w2 ⟨⟨v', rfl, ho⟩, hb2⟩
  obtain ⟨ao', cap', rfl, _⟩ := own_slice ho
  have ho' := own_lower ho (show w.heap.size ≤ _ by simp; omega)
  have HB := Lib.hid (show Below w.heap.size w w2 by (repeat (first | (with_reducible exact Below.refl _ _) | ((with_reducible refine Below.alloc ?_ ?_ _); rotate_left; focus (first | (simp; done) | (simp; omega) | (have q0 := hb2.size; (try simp at q0); (try simp); omega))) | ((with_reducible refine Below.setCell ?_ ?_ _); rotate_left; focus (first | (simp; done) | (simp; omega) | (have q0 := hb2.size; (try simp at q0); (try simp); omega))) | (with_reducible refine Below.drew ?_) | (with_reducible refine Below.drewN' ?_ _) | (with_reducible refine Below.trans ?_ (hb2.mono ?_); rotate_left; focus (first | (simp; done) | (simp; omega) | (have q0 := hb2.size; (try simp at q0); (try simp); omega))))))
  obtain ⟨hc2, hf2⟩ := bcell hb2
  have z0 := hc2 w.heap.size 0 (by simp; omega); have z1 := hc2 w.heap.size 1 (by simp; omega); have z2 := hc2 w.heap.size 2 (by simp; omega); have z3 := hc2 w.heap.size 3 (by simp; omega)
  have y0 := hf2 w.heap.size 0 (by simp; omega); have y1 := hf2 w.heap.size 1 (by simp; omega); have y2 := hf2 w.heap.size 2 (by simp; omega); have y3 := hf2 w.heap.size 3 (by simp; omega)
  have x0 := hc2 (w.heap.size + 1) 0 (by simp); have x1 := hc2 (w.heap.size + 1) 1 (by simp); have x2 := hc2 (w.heap.size + 1) 2 (by simp); have x3 := hc2 (w.heap.size + 1) 3 (by simp)
  have u1 := hf2 (w.heap.size + 1) 1 (by simp)
  simp at z0 z1 z2 z3 y0 y1 y2 y3 x0 x1 x2 x3 u1
  have HO := Lib.hid ho'
  have hsz := hb2.size
  simp at hsz
  have hne : ∀ k, (Value.slice ao' l.length cap').ownBlock = some k → w.heap.size + 2 ≤ k := fun k hk => by have := (ho.lt k hk).1; simpa using this
  have HNE := Lib.hid hne
  clear hc2 hf2 hb2 ho ho' HN HV k0 k1 k2 k3 c3 hne
  generalize hN : w.heap.size = N at *
  have HN := Lib.hid hN
  clear hN
  go_wp2
  have n0 : (Value.slice ao' l.length cap').ownBlock ≠ some N := fun e => by have := HNE.out _ e; omega
  have n1 : (Value.slice ao' l.length cap').ownBlock ≠ some (N + 1) := fun e => by have := HNE.out _ e; omega
  refine bodyPost_ret (v := .tuple #[.agg #[.string f.nm, .slice ao' l.length cap', .int .i64 f.res, .bool f.df], .int .i64 0]) (by simp [results, Try.results14, go_sem, z0, z1, z2, z3]) rfl ⟨⟨_, rfl, ?_⟩, ?_⟩
  · rw [HN.out]
    exact ownsRow_setCell_other (ownsRow_setCell_other (ownsRow_setCell_other (ownsRow_setCell_other (ownsRow_setCell_other HO.out (a := ⟨N + 1, 1, none⟩) n1 _) (a := ⟨N, 0, none⟩) n0 _) (a := ⟨N, 1, none⟩) n0 _) (a := ⟨N, 2, none⟩) n0 _) (a := ⟨N, 3, none⟩) n0 _
  · rw [HN.out]
    exact ((((HB.out.setCell (p := ⟨N + 1, 1, none⟩) (by simp) _).setCell (p := ⟨N, 0, none⟩) (by simp) _).setCell (p := ⟨N, 1, none⟩) (by simp) _).setCell (p := ⟨N, 2, none⟩) (by simp) _).setCell (p := ⟨N, 3, none⟩) (by simp) _
end Go.Proofs.Ytggbnjdbbomjoaa
