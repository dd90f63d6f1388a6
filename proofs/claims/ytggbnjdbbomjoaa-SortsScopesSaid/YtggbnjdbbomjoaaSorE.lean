/- Walks of the sorts package: add. -/
import Derived.Test.YtggbnjdbbomjoaaSorD
namespace Go.Proofs.Ytggbnjdbbomjoaa
open Go.RowKit
theorem infoF : (Try.prog.info? 30).map (fun i => (i.zero, i.size, i.bytes)) = some (some (.agg #[.string ByteArray.empty, .slice none 0 0, .int .i64 0, .bool false]), 4, 56) := by kernel_rfl
/-- what is known of each operation's value where a function is added -/
def ZA (b o : Nat) (A : Value) (B n : Nat) (xs : List Value) (f : Fd) (W : Nat) : Nat → World → Value → Prop
  | 4, _, v => v = A
  | 5, _, v => v = .agg f.cells.toArray
  | 6, w, v => ∃ ad, v = .slice (some ⟨ad, 0, none⟩) 1 1 ∧ W ≤ ad ∧ RowB w ad 30 f.cells
  | 7, w, v => w.ownsRow B 30 4 v (n + 1) (xs ++ f.cells) ∧ (v.ownBlock = A.ownBlock ∨ ∃ g, v.ownBlock = some g ∧ W ≤ g)
  | _, _, v => v = .pointer (some ⟨b, o, none⟩)
def CA (A : Value) (B n : Nat) (xs : List Value) (w w' : World) : Prop := Ch (fun k => A.ownBlock = some k) w w' ∧ w'.ownsRow B 30 4 A n xs
theorem ZA.keep {b o : Nat} {A : Value} {B n : Nat} {xs : List Value} {f : Fd} {W : Nat} {w w' : World} {i : Nat} (h6 : i ≠ 6 → ∀ ad, W ≤ ad → RowB w ad 30 f.cells → RowB w' ad 30 f.cells)
    (h7 : i ≠ 7 → ∀ v, w.ownsRow B 30 4 v (n + 1) (xs ++ f.cells) → w'.ownsRow B 30 4 v (n + 1) (xs ++ f.cells)) : ∀ j u, j ≠ i → ZA b o A B n xs f W j w u → ZA b o A B n xs f W j w' u := by
  intro j u hj h
  unfold ZA at h ⊢
  split at h
  · exact h
  · exact h
  · obtain ⟨ad, h1, h2, h3⟩ := h
    exact ⟨ad, h1, h2, h6 (Ne.symm hj) ad h2 h3⟩
  · exact ⟨h7 (Ne.symm hj) _ h.1, h.2⟩
  · exact h
theorem own_slice {w : World} {base : Nat} {e : TypeId} {size : Nat} {v : Value} {n : Nat} {xs : List Value} (h : w.ownsRow base e size v n xs) : ∃ ao cap, v = .slice ao n cap ∧ n ≤ cap := by
  rcases h.2 with ⟨rfl, rfl⟩ | ⟨g, cap, cur, rfl, _, _, hc, _⟩
  · exact ⟨none, 0, rfl, Nat.le_refl _⟩
  · exact ⟨_, cap, rfl, hc⟩
theorem Fd.one {f : Fd} (h : f.ar.oneCell' = true) : ∀ u ∈ f.cells, u.oneCell' = true := by
  intro u hu
  simp only [Fd.cells, List.mem_cons, List.not_mem_nil, or_false] at hu
  rcases hu with rfl | rfl | rfl | rfl
  · rfl
  · exact h
  · rfl
  · rfl
theorem RowB.at {w : World} {b : Nat} {t : TypeId} {vs : List Value} (h : RowB w b t vs) : CellsAt w b 0 vs := fun j v hv => by rw [Nat.zero_add, h.cell]; exact hv
/-- what is wrong with one more name -/
def addE (D : DataW Unit) (s : ByteArray) (n : Nat) : Int := if Maps.has D (kS s) then 8 else if 2000 ≤ n then 9 else 0
theorem wf_small (n : Nat) (h : n ≤ 2000) : (Lit.int .i64 n).wf = true := by
  have l1 : IntKind.i64.min = -9223372036854775808 := by decide
  have l2 : IntKind.i64.max = 9223372036854775807 := by decide
  simp only [Lit.wf, Bool.and_eq_true, decide_eq_true_eq]
  rw [l1, l2]; omega
theorem wrap_small (n : Nat) (h : n ≤ 2000) : IntKind.i64.wrap n = n := IntWalk.i64_in _ (by constructor <;> omega)
set_option maxRecDepth 100000 in
set_option maxHeartbeats 1000000 in
theorem add_any (b o B m n : Nat) (vs : List Value) (A : Value) (xs : List Value) (D : DataW Unit) (f : Fd) (w : World)
    (hrow : RowB w b 63 vs) (h0 : vs[o]? = some A) (h1 : vs[o + 1]? = some (.map (some m)))
    (hA : w.ownsRow B 30 4 A n xs) (hm : ownsD w m n D) (hB : B ≤ w.heap.size) (hn : n ≤ 2000) (hnm : f.nm.size ≤ maxLen) (har : f.ar.oneCell' = true) :
    Calls Try.prog 26 #[.pointer (some ⟨b, o, none⟩), .agg f.cells.toArray] w fun e w' =>
      (addE D f.nm n ≠ 0 ∧ e = .returned (.tuple #[.int .i64 0, .int .i64 (addE D f.nm n)]) ∧ Ch (fun _ => False) w w') ∨
      (∃ A', addE D f.nm n = 0 ∧ e = .returned (.tuple #[.int .i64 n, .int .i64 0]) ∧ Maps.has D (kS f.nm) = false ∧ n < 2000 ∧ RowB w' b 63 (vs.set o A') ∧ w'.ownsRow B 30 4 A' (n + 1) (xs ++ f.cells) ∧
        ownsD w' m (n + 1) (D.put (kS f.nm) (.lit (.int .i64 n))) ∧ (A'.ownBlock = A.ownBlock ∨ ∃ g, A'.ownBlock = some g ∧ w.heap.size ≤ g) ∧ Ch (fun k => k = b ∨ A.ownBlock = some k ∨ k = m) w w') := by
  have hbl := hrow.lt
  have c0 : w.cell? ⟨b, o, none⟩ = some A := by rw [hrow.cell]; exact h0
  have c1 : w.cell? ⟨b, o + 1, none⟩ = some (.map (some m)) := by rw [hrow.cell]; exact h1
  go_enter Try.func26, Try.ntmps26
  go_wp2
  refine wp_region_below (by kernel_rfl) (by kernel_rfl) ?_
  (refine wq_val (by rfl) (fun w' hw' => by obtain ⟨hc, hf⟩ := bcell hw'; go_simp; try rfl) ?_; (intro K hK; go_simp; refine hK _ ?_; clear hK K))
  (refine wq_val (by rfl) (fun w' hw' => by obtain ⟨hc, hf⟩ := bcell hw'; go_simp; try rfl) ?_; (intro K hK; go_simp; refine hK _ ?_; clear hK K))
  (refine wq_val (by rfl) (fun w' hw' => by obtain ⟨hc, hf⟩ := bcell hw'; go_simp; try rfl) ?_; (intro K hK; go_simp; refine hK _ ?_; clear hK K))
  (refine wq_val (by rfl) (fun w' hw' => by obtain ⟨hc, hf⟩ := bcell hw'; go_simp; try rfl) ?_; (intro K hK; go_simp; refine hK _ ?_; clear hK K))
  (refine wq_val (by rfl) (fun w' hw' => by obtain ⟨hc, hf⟩ := bcell hw'; go_simp; try rfl) ?_; (intro K hK; go_simp; refine hK _ ?_; clear hK K))
  (refine wq_val (by rfl) (fun w' hw' => by obtain ⟨hc, hf⟩ := bcell hw'; go_simp; try rfl) ?_; (intro K hK; go_simp; refine hK _ ?_; clear hK K))
  (refine wq_val (v := .tuple #[.int .i64 (numOf D f.nm), .bool (Maps.has D (kS f.nm))]) (by rfl) (fun w' hw' => by have hl := (look_num (ownsMap_ch (hm.alloc _) (Ch.ofBelow (S := fun _ => False) hw') (fun h => h)) hnm).1; go_simp; try rfl) ?_; (intro K hK; go_simp; refine hK _ ?_; clear hK K))
  (refine wq_val (by rfl) (fun w' hw' => by obtain ⟨hc, hf⟩ := bcell hw'; go_simp; try rfl) ?_; (intro K hK; go_simp; refine hK _ ?_; clear hK K))
  (refine wq_val (by rfl) (fun w' hw' => by obtain ⟨hc, hf⟩ := bcell hw'; go_simp; try rfl) ?_; (intro K hK; go_simp; refine hK _ ?_; clear hK K))
  (refine wq_val (by rfl) (fun w' hw' => by obtain ⟨hc, hf⟩ := bcell hw'; go_simp; try rfl) ?_; (intro K hK; go_simp; refine hK _ ?_; clear hK K))
  (refine wq_val (by rfl) (fun w' hw' => by obtain ⟨hc, hf⟩ := bcell hw'; go_simp; try rfl) ?_; (intro K hK; go_simp; refine hK _ ?_; clear hK K))
  (refine wq_val (by rfl) (fun w' hw' => by obtain ⟨hc, hf⟩ := bcell hw'; go_simp; try rfl) ?_; (intro K hK; go_simp; refine hK _ ?_; clear hK K))
  refine wpQuiet_nil ?_; intro w4 hb4
  have ch4 : Ch (fun _ => False) w w4 := ((Ch.refl _ w).alloc (.cells f.cells.toArray 30)).trans (Ch.ofBelow hb4)
  have hrow4 : RowB w4 b 63 vs := hrow.kept ch4 (fun h => h)
  have hbox4 : RowB w4 w.heap.size 30 f.cells := RowB.kept (S := fun _ => False) (RowB.new w f.cells 30) (Ch.ofBelow hb4) (fun h => h)
  have hA4 : w4.ownsRow B 30 4 A n xs := ownsRow_ch hA ch4 (fun _ _ h => h)
  have hm4 : ownsD w4 m n D := ownsMap_ch hm ch4 (fun h => h)
  have hB4 : B ≤ w4.heap.size := Nat.le_trans hB ch4.size
  have hAlt : ∀ k, A.ownBlock = some k → k < w.heap.size := fun k hk => (hA.lt k hk).2
  have c0' : w4.cell? ⟨b, o, none⟩ = some A := by rw [hrow4.cell]; exact h0
  obtain ⟨ao, cap, hAe, hcap⟩ := own_slice hA
  clear hb4 c0 c1 hA hm hrow
  generalize hfb : w.heap.size = fb at hbox4 hB hbl hAlt ⊢
  have HFB := Lib.hid hfb
  clear hfb
  have HL := Lib.hid (And.intro h0 h1)
  have HN := Lib.hid hn
  subst hAe
  clear h0 h1
  cases hhas : Maps.has D (kS f.nm)
  case true =>
    go_wp2
    go_ret2
    have hE : addE D f.nm n = 8 := by unfold addE; rw [hhas]; rfl
    exact Or.inl ⟨by rw [hE]; decide, by rw [hE]; rfl, ch4⟩
  case false =>
    by_cases h2 : 2000 ≤ n
    case pos =>
      have h2' : (2000 : Int) ≤ n := by omega
      go_wp2
      go_ret2
      have hE : addE D f.nm n = 9 := by unfold addE; rw [hhas, if_pos h2]; rfl
      exact Or.inl ⟨by rw [hE]; decide, by rw [hE]; rfl, ch4⟩
    case neg =>
      have h2' : ¬ (2000 : Int) ≤ n := by omega
      go_wp2
      have hne : ∀ k, (Value.slice ao n cap).ownBlock = some k → k ≠ fb ∧ k ≠ b ∧ k ≠ m := fun k hk => ⟨by have := hAlt k hk; omega, fun e => own_ne_row hA4 hrow4 (by decide) (by rw [hk, e]), fun e => own_ne_map hA4 hm4 (by rw [hk, e])⟩
      have cellK : ∀ w', CA (.slice ao n cap) B n xs w4 w' → w'.cell? ⟨b, o, none⟩ = some (.slice ao n cap) := fun w' h => by rw [(hrow4.kept h.1 (fun e => (hne b e).2.1 rfl)).cell]; exact HL.out.1
      have fboxK : ∀ w', CA (.slice ao n cap) B n xs w4 w' → CellsAt w' fb 0 f.cells := fun w' h => (hbox4.kept h.1 (fun e => (hne fb e).1 rfl)).at
      have allocK : ∀ w', CA (.slice ao n cap) B n xs w4 w' → ZA b o (.slice ao n cap) B n xs f w4.heap.size 6 (w'.alloc (.cells f.cells.toArray 30)) (.slice (some ⟨w'.heap.size, 0, none⟩) 1 1) ∧ CA (.slice ao n cap) B n xs w4 (w'.alloc (.cells f.cells.toArray 30)) ∧
          ∀ j u, j ≠ 6 → ZA b o (.slice ao n cap) B n xs f w4.heap.size j w' u → ZA b o (.slice ao n cap) B n xs f w4.heap.size j (w'.alloc (.cells f.cells.toArray 30)) u := fun w' h =>
        ⟨⟨_, rfl, h.1.size, RowB.new _ _ _⟩, ⟨h.1.alloc _, h.2.alloc _⟩, ZA.keep (fun e => absurd rfl e) (fun _ v hv => hv.alloc _)⟩
      have appK : ∀ w', CA (.slice ao n cap) B n xs w4 w' → ∀ ad, w4.heap.size ≤ ad → RowB w' ad 30 f.cells → ∃ v' w'', (Builtin.append_ #[58, 58] 58 #[.slice ao n cap, .slice (some ⟨ad, 0, none⟩) 1 1]).run Try.prog w' = .ok v' w'' ∧
          (ZA b o (.slice ao n cap) B n xs f w4.heap.size 7 w'' v' ∧ CA (.slice ao n cap) B n xs w4 w'' ∧ ∀ j u, j ≠ 7 → ZA b o (.slice ao n cap) B n xs f w4.heap.size j w' u → ZA b o (.slice ao n cap) B n xs f w4.heap.size j w'' u) := fun w' h ad h1 h3 => by
        obtain ⟨i0, hi, hz0, hz1, hz2⟩ := info_parts infoF
        obtain ⟨v', w'', hr, ho, hg, hat, hold⟩ := run_append_both (P := Try.prog) w' B 58 58 30 i0 _ 4 56 Try.underlying58 hi hz0 hz1 hz2 rfl (by decide) (.slice ao n cap) n xs h.2 ⟨ad, 0, none⟩ 1 1 f.cells rfl
          (fun j u hu => by rw [show ((⟨ad, 0, none⟩ : Addr).add j) = ⟨ad, j, none⟩ by cases j <;> simp [Addr.add], h3.cell]; exact hu) (Fd.one har) (by unfold maxLen; omega) (by omega) (Nat.le_trans hB4 h.1.size)
        have hch : Ch (fun k => (Value.slice ao n cap).ownBlock = some k) w' w'' := Ch.grown hg (fun k e => e.symm)
        refine ⟨v', w'', hr, ⟨ho, hat.imp id (fun e => ⟨_, e, h.1.size⟩)⟩, ⟨h.1.trans hch, hold⟩, ZA.keep (fun _ ad' hd hr' => hr'.kept hch (fun e => by have := hA4.lt _ e; omega)) (fun e => absurd rfl e)⟩
      refine wp_region_flow3 10 (by kernel_rfl) (by kernel_rfl) ?_ (ZA b o (.slice ao n cap) B n xs f w4.heap.size) (CA (.slice ao n cap) B n xs w4) ⟨(Ch.refl _ w4).drawn, hA4⟩ ?_ ?_
      · intro i o' d hi ho hd
        have : i = 0 ∨ i = 1 ∨ i = 2 ∨ i = 3 ∨ i = 4 ∨ i = 5 ∨ i = 6 ∨ i = 7 ∨ i = 8 ∨ i = 9 := by omega
        rcases this with rfl | rfl | rfl | rfl | rfl | rfl | rfl | rfl | rfl | rfl <;> (simp at ho; subst ho; simp at hd; subst hd; simp)
      · intro i o' hi ho
        have : i = 0 ∨ i = 1 ∨ i = 2 ∨ i = 3 ∨ i = 4 ∨ i = 5 ∨ i = 6 ∨ i = 7 ∨ i = 8 ∨ i = 9 := by omega
        rcases this with rfl | rfl | rfl | rfl | rfl | rfl | rfl | rfl | rfl | rfl <;> (simp at ho; subst ho; intro a w' hC hd hr; rw [if_pos (by rfl)])
        · have e0 : a.tmps.getD 0 undef = Value.pointer (some ⟨b, o, none⟩) := hr 0 (free_of (by rfl))
          have e0' : a.tmps[0]?.getD undef = Value.pointer (some ⟨b, o, none⟩) := by simpa using e0
          exact flow_val (v := Value.pointer (some ⟨b, o, none⟩)) (by go_simp) ⟨rfl, hC, fun _ _ _ h => h⟩
        · have e0 : a.tmps.getD 0 undef = Value.pointer (some ⟨b, o, none⟩) := hr 0 (free_of (by rfl))
          have e0' : a.tmps[0]?.getD undef = Value.pointer (some ⟨b, o, none⟩) := by simpa using e0
          exact flow_val (v := Value.pointer (some ⟨b, o, none⟩)) (by go_simp) ⟨rfl, hC, fun _ _ _ h => h⟩
        · have e26 : a.tmps.getD 26 undef = Value.pointer (some ⟨b, o, none⟩) := hd ⟨1, .data⟩ (by simp) rfl _ _ rfl rfl
          have e26' : a.tmps[26]?.getD undef = Value.pointer (some ⟨b, o, none⟩) := by simpa using e26
          exact flow_val (v := Value.pointer (some ⟨b, o, none⟩)) (by go_simp) ⟨rfl, hC, fun _ _ _ h => h⟩
        · have e27 : a.tmps.getD 27 undef = Value.pointer (some ⟨b, o, none⟩) := hd ⟨2, .data⟩ (by simp) rfl _ _ rfl rfl
          have e27' : a.tmps[27]?.getD undef = Value.pointer (some ⟨b, o, none⟩) := by simpa using e27
          exact flow_val (v := Value.pointer (some ⟨b, o, none⟩)) (by go_simp) ⟨rfl, hC, fun _ _ _ h => h⟩
        · have e28 : a.tmps.getD 28 undef = Value.pointer (some ⟨b, o, none⟩) := hd ⟨3, .data⟩ (by simp) rfl _ _ rfl rfl
          have e28' : a.tmps[28]?.getD undef = Value.pointer (some ⟨b, o, none⟩) := by simpa using e28
          have c0 := cellK w' hC
          exact flow_val (v := .slice ao n cap) (by go_simp) ⟨rfl, hC, fun _ _ _ h => h⟩
        · have e3 : a.tmps.getD 3 undef = Value.pointer (some ⟨fb, 0, none⟩) := hr 3 (free_of (by rfl))
          have e3' : a.tmps[3]?.getD undef = Value.pointer (some ⟨fb, 0, none⟩) := by simpa using e3
          exact flow_val (run_load_cells 30 (.tmp 3) rfl fb 0 e3 f.cells _ Try.underlying30 rfl (by kernel_rfl) (fboxK w' hC)) ⟨rfl, hC, fun _ _ _ h => h⟩
        · have e30 : a.tmps.getD 30 undef = .agg #[.string f.nm, f.ar, .int .i64 f.res, .bool f.df] := hd ⟨5, .data⟩ (by simp) rfl _ _ rfl rfl
          have e30' : a.tmps[30]?.getD undef = .agg #[.string f.nm, f.ar, .int .i64 f.res, .bool f.df] := by simpa using e30
          refine flow_new (v := .slice (some ⟨w'.heap.size, 0, none⟩) 1 1) (w' := w'.alloc (.cells f.cells.toArray 30)) (by go_simp; rfl) ?_
          exact allocK w' hC
        · have e29 : a.tmps.getD 29 undef = .slice ao n cap := hd ⟨4, .data⟩ (by simp) rfl _ _ rfl rfl
          have e29' : a.tmps[29]?.getD undef = .slice ao n cap := by simpa using e29
          have h31 := hd ⟨6, .data⟩ (by simp) rfl _ _ rfl rfl
          obtain ⟨ad, h31a, h31b, h31c⟩ : ∃ ad, a.tmps.getD 31 undef = .slice (some ⟨ad, 0, none⟩) 1 1 ∧ w4.heap.size ≤ ad ∧ RowB w' ad 30 f.cells := h31
          obtain ⟨v', w'', hr1, hr2⟩ := appK w' hC ad h31b h31c
          exact flow_new (exec_append _ (.tmp 29) (.tmp 31) 58 rfl e29 h31a hr1) hr2
        · have e25 : a.tmps.getD 25 undef = Value.pointer (some ⟨b, o, none⟩) := hd ⟨0, .data⟩ (by simp) rfl _ _ rfl rfl
          have e25' : a.tmps[25]?.getD undef = Value.pointer (some ⟨b, o, none⟩) := by simpa using e25
          exact flow_val (v := Value.pointer (some ⟨b, o, none⟩)) (by go_simp) ⟨rfl, hC, fun _ _ _ h => h⟩
        · have e33 : a.tmps.getD 33 undef = Value.pointer (some ⟨b, o, none⟩) := hd ⟨8, .data⟩ (by simp) rfl _ _ rfl rfl
          have e33' : a.tmps[33]?.getD undef = Value.pointer (some ⟨b, o, none⟩) := by simpa using e33
          exact flow_val (v := Value.pointer (some ⟨b, o, none⟩)) (by go_simp) ⟨rfl, hC, fun _ _ _ h => h⟩
      · intro vs' w5 hC5 hZ
        have v7 := hZ 7 _ _ (by omega) rfl rfl
        have v9 : vs' 9 = .pointer (some ⟨b, o, none⟩) := hZ 9 _ _ (by omega) rfl rfl
        obtain ⟨hoA', hatA'⟩ : w5.ownsRow B 30 4 (vs' 7) (n + 1) (xs ++ f.cells) ∧ ((vs' 7).ownBlock = (Value.slice ao n cap).ownBlock ∨ ∃ g, (vs' 7).ownBlock = some g ∧ w4.heap.size ≤ g) := v7
        clear cellK fboxK allocK appK
        have hrow5 := hrow4.kept hC5.1 (fun e => (hne b e).2.1 rfl)
        simp only [List.drop_succ_cons, List.drop_zero, List.take_succ_cons, List.take_zero, putAll, v9]
        obtain ⟨ao', cap', hAe', _⟩ := own_slice hoA'
        simp only [hAe'] at *
        have c5 : w5.cell? ⟨b, o, none⟩ = some (.slice ao n cap) := by rw [hrow5.cell]; exact HL.out.1
        have f5 := hrow5.free o
        have hbl5 := hrow5.lt
        clear hZ
        go_wp2
        have hnA' : (Value.slice ao' (n + 1) cap').ownBlock ≠ some b := own_ne_row hoA' hrow5 (by decide)
        have hnm6 : ¬ (Value.slice ao n cap).ownBlock = some m := fun e => (hne m e).2.2 rfl
        have hm5 := ownsMap_ch hm4 hC5.1 hnm6
        have hbm : m ≠ b := fun e => row_ne_map hrow5 hm5 e.symm
        have hrow6 := hrow5.set o (.slice ao' (n + 1) cap')
        have ho6 := ownsRow_setCell_other hoA' (a := ⟨b, o, none⟩) hnA' (.slice ao' (n + 1) cap')
        have hm6 := hm5.setCell (a := ⟨b, o, none⟩) hbm (.slice ao' (n + 1) cap')
        have hbox6 : RowB (w5.setCell ⟨b, o, none⟩ (.slice ao' (n + 1) cap')) fb 30 f.cells := (hbox4.kept hC5.1 (fun e => (hne fb e).1 rfl)).kept (S := fun k => k = b) ((Ch.refl (fun k => k = b) w5).setC b o rfl _) (fun (e : fb = b) => by omega)
        have ch5 : Ch (fun k => k = b ∨ (Value.slice ao n cap).ownBlock = some k ∨ k = m) w w5 := (ch4.mono (fun _ _ h => h.elim)).trans (hC5.1.mono (fun _ _ h => Or.inr (Or.inl h)))
        have ch6 := ch5.setC b o (Or.inl rfl) (.slice ao' (n + 1) cap')
        have hs4 : fb ≤ w4.heap.size := by have := ch4.size; have := HFB.out; omega
        have holt : o < vs.length := (List.getElem?_eq_some_iff.1 HL.out.1).1
        have c60 : (w5.setCell ⟨b, o, none⟩ (.slice ao' (n + 1) cap')).cell? ⟨b, o, none⟩ = some (.slice ao' (n + 1) cap') := by rw [hrow6.cell]; simp [holt]
        have c61 : (w5.setCell ⟨b, o, none⟩ (.slice ao' (n + 1) cap')).cell? ⟨b, o + 1, none⟩ = some (.map (some m)) := by rw [hrow6.cell, List.getElem?_set_ne (by omega)]; exact HL.out.2
        have c62 : (w5.setCell ⟨b, o, none⟩ (.slice ao' (n + 1) cap')).cell? ⟨fb, 0, none⟩ = some (.string f.nm) := by rw [hbox6.cell]; rfl
        have hl6 := hrow6.lt
        have hl6' := hbox6.lt
        clear ch5 hrow5 hoA' hC5 hm5 c5 f5 hbl5 hA4 c0' hrow4 hm4 hbox4 ch4
        generalize w5.setCell ⟨b, o, none⟩ (.slice ao' (n + 1) cap') = w6 at *
        refine wp_region_below_tail 12 (by kernel_rfl) (by kernel_rfl) ?_
        (refine wq_val (by rfl) (fun w' hw' => by obtain ⟨hc, hf⟩ := bcell hw'; go_simp; try rfl) ?_; (intro K hK; go_simp; refine hK _ ?_; clear hK K))
        (refine wq_val (by rfl) (fun w' hw' => by obtain ⟨hc, hf⟩ := bcell hw'; go_simp; try rfl) ?_; (intro K hK; go_simp; refine hK _ ?_; clear hK K))
        (refine wq_val (by rfl) (fun w' hw' => by obtain ⟨hc, hf⟩ := bcell hw'; go_simp; try rfl) ?_; (intro K hK; go_simp; refine hK _ ?_; clear hK K))
        (refine wq_val (by rfl) (fun w' hw' => by obtain ⟨hc, hf⟩ := bcell hw'; go_simp; try rfl) ?_; (intro K hK; go_simp; refine hK _ ?_; clear hK K))
        (refine wq_val (by rfl) (fun w' hw' => by obtain ⟨hc, hf⟩ := bcell hw'; go_simp; try rfl) ?_; (intro K hK; go_simp; refine hK _ ?_; clear hK K))
        (refine wq_val (by rfl) (fun w' hw' => by obtain ⟨hc, hf⟩ := bcell hw'; go_simp; try rfl) ?_; (intro K hK; go_simp; refine hK _ ?_; clear hK K))
        (refine wq_val (by rfl) (fun w' hw' => by obtain ⟨hc, hf⟩ := bcell hw'; go_simp; try rfl) ?_; (intro K hK; go_simp; refine hK _ ?_; clear hK K))
        (refine wq_val (by rfl) (fun w' hw' => by obtain ⟨hc, hf⟩ := bcell hw'; go_simp; try rfl) ?_; (intro K hK; go_simp; refine hK _ ?_; clear hK K))
        (refine wq_val (by rfl) (fun w' hw' => by obtain ⟨hc, hf⟩ := bcell hw'; go_simp; try rfl) ?_; (intro K hK; go_simp; refine hK _ ?_; clear hK K))
        (refine wq_val (by rfl) (fun w' hw' => by obtain ⟨hc, hf⟩ := bcell hw'; go_simp; try rfl) ?_; (intro K hK; go_simp; refine hK _ ?_; clear hK K))
        (refine wq_val (by rfl) (fun w' hw' => by obtain ⟨hc, hf⟩ := bcell hw'; go_simp; try rfl) ?_; (intro K hK; go_simp; refine hK _ ?_; clear hK K))
        (refine wq_val (by rfl) (fun w' hw' => by obtain ⟨hc, hf⟩ := bcell hw'; go_simp; try rfl) ?_; (intro K hK; go_simp; refine hK _ ?_; clear hK K))
        refine wpQuiet_nil ?_; intro w7 hb7
        have ch7 := ch6.trans (Ch.ofBelow hb7)
        have hrow7 := hrow6.kept (S := fun _ => False) (Ch.ofBelow hb7) (fun h => h)
        have ho7 := ownsRow_ch (S := fun _ => False) ho6 (Ch.ofBelow hb7) (fun _ _ h => h)
        have hm7 := ownsMap_ch (S := fun _ => False) hm6 (Ch.ofBelow hb7) (fun h => h)
        simp only [List.drop_succ_cons, List.drop_zero]
        refine wpList_mapUpdate_own _ rfl _ _ _ 59 rfl 9 3 (Maps.string_keyed Try.underlying9) Try.underlying59 _ m n D (by go_simp) hm7 (by unfold maxLen; omega) (.string f.nm) (.int .i64 n) (kS f.nm) (by go_simp) (by go_simp; rw [wrap_small n (by omega)]) (keyS hnm) (.lit (.int .i64 n)) [] (plainElem_int Try.underlying3 (wf_small n (by omega))) ?_
        intro w8 hm8 hg8
        have hbm7 : ¬ (some b = some m) := fun e => hbm (by simpa using e.symm)
        have ch78 : Ch (fun k => some k = some m) w7 w8 := Ch.ofGrown hg8
        have ch8 := ch7.trans (ch78.mono (fun k _ e => Or.inr (Or.inr (by simpa using e))))
        have hrow8 := hrow7.kept ch78 hbm7
        have ho8 := ownsRow_ch ho7 ch78 (fun k hk e => own_ne_map ho7 hm7 (by rw [hk]; exact e))
        have c80 : w8.cell? ⟨b, o, none⟩ = some (.slice ao' (n + 1) cap') := by rw [hrow8.cell]; simp [holt]
        clear hb7 ch7 hrow7 ho7 hm7 c60 c61 c62 hrow6 ho6 hm6 hbox6 ch6 hg8 ch78
        go_wp2
        go_ret2
        refine Or.inr ⟨.slice ao' (n + 1) cap', by unfold addE; rw [hhas, if_neg h2]; rfl, ?_, hhas, by omega, hrow8, ho8, hm8, ?_, ch8⟩
        · simp
        · rcases hatA' with e | ⟨g, e1, e2⟩
          · exact Or.inl e
          · exact Or.inr ⟨g, e1, by have := HFB.out; omega⟩
end Go.Proofs.Ytggbnjdbbomjoaa
