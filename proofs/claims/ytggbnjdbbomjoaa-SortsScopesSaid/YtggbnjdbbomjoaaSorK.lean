/- Walks of the sorts package: Push. -/
import Derived.Test.YtggbnjdbbomjoaaSorJ
namespace Go.Proofs.Ytggbnjdbbomjoaa
open Go.RowKit
def Nm.push (x : Nm) (M' : Value) : Nm := { x with M := M', ms := x.ms ++ [(x.fs.length : Int)] }
theorem infoN : (Try.prog.info? 3).map (fun i => (i.zero, i.size, i.bytes)) = some (some (.int .i64 0), 1, 8) := by kernel_rfl
/-- what is known of each operation's value where a mark is added -/
def ZP (b o : Nat) (A M : Value) (B n : Nat) (ms : List Int) (W : Nat) : Nat → World → Value → Prop
  | 3, _, v => v = .pointer (some ⟨b, o, none⟩)
  | 4, _, v => v = .pointer (some ⟨b, o + 2, none⟩)
  | 5, _, v => v = M
  | 8, _, v => v = .pointer (some ⟨b, o, none⟩)
  | 9, _, v => v = .pointer (some ⟨b, o, none⟩)
  | 10, _, v => v = A
  | 11, _, v => v = .int .i64 n
  | 12, w, v => ∃ ad, v = .slice (some ⟨ad, 0, none⟩) 1 1 ∧ W ≤ ad ∧ RowB w ad 3 [.int .i64 n]
  | 13, w, v => w.ownsRow B 3 1 v (ms.length + 1) (ms.map (Value.int .i64) ++ [.int .i64 n]) ∧ (v.ownBlock = M.ownBlock ∨ ∃ g, v.ownBlock = some g ∧ W ≤ g)
  | 15, _, v => v = .pointer (some ⟨b, o, none⟩)
  | 16, _, v => v = .pointer (some ⟨b, o + 2, none⟩)
  | _, _, v => v = .pointer (some ⟨b, 0, none⟩)
def CM (M : Value) (B : Nat) (ms : List Int) (w w' : World) : Prop := Ch (fun k => M.ownBlock = some k) w w' ∧ w'.ownsRow B 3 1 M ms.length (ms.map (Value.int .i64))
theorem ZP.keep {b o : Nat} {A M : Value} {B n : Nat} {ms : List Int} {W : Nat} {w w' : World} {i : Nat} (h6 : i ≠ 12 → ∀ ad, W ≤ ad → RowB w ad 3 [.int .i64 n] → RowB w' ad 3 [.int .i64 n])
    (h7 : i ≠ 13 → ∀ v, w.ownsRow B 3 1 v (ms.length + 1) (ms.map (Value.int .i64) ++ [.int .i64 n]) → w'.ownsRow B 3 1 v (ms.length + 1) (ms.map (Value.int .i64) ++ [.int .i64 n])) : ∀ j u, j ≠ i → ZP b o A M B n ms W j w u → ZP b o A M B n ms W j w' u := by
  intro j u hj h
  unfold ZP at h ⊢
  split at h
  case h_8 =>
    obtain ⟨ad, h1, h2, h3⟩ := h
    exact ⟨ad, h1, h2, h6 (Ne.symm hj) ad h2 h3⟩
  case h_9 => exact ⟨h7 (Ne.symm hj) _ h.1, h.2⟩
  all_goals exact h
theorem push_app {b o : Nat} {A M : Value} {B n : Nat} {ms : List Int} {w w' : World} (h : CM M B ms w w') (hM : w.ownsRow B 3 1 M ms.length (ms.map (Value.int .i64))) (hl : ms.length ≤ 200) (hB : B ≤ w.heap.size)
    {ad : Nat} (h3 : RowB w' ad 3 [.int .i64 n]) :
    ∃ v' w'', (Builtin.append_ #[52, 52] 52 #[M, .slice (some ⟨ad, 0, none⟩) 1 1]).run Try.prog w' = .ok v' w'' ∧ (ZP b o A M B n ms w.heap.size 13 w'' v' ∧ CM M B ms w w'' ∧ ∀ j u, j ≠ 13 → ZP b o A M B n ms w.heap.size j w' u → ZP b o A M B n ms w.heap.size j w'' u) := by
  obtain ⟨i0, hi, hz0, hz1, hz2⟩ := info_parts infoN
  obtain ⟨v', w'', hr, ho, hg, hat, hold⟩ := run_append_both (P := Try.prog) w' B 52 52 3 i0 _ 1 8 Try.underlying52 hi hz0 hz1 hz2 rfl (by decide) M ms.length (ms.map (Value.int .i64)) h.2 ⟨ad, 0, none⟩ 1 1 [.int .i64 n] rfl
    (fun j u hu => by rw [show ((⟨ad, 0, none⟩ : Addr).add j) = ⟨ad, j, none⟩ by cases j <;> simp [Addr.add], h3.cell]; exact hu) (by simp [Value.oneCell']) (by unfold maxLen; omega) (by omega) (Nat.le_trans hB h.1.size)
  have hch : Ch (fun k => M.ownBlock = some k) w' w'' := Ch.grown hg (fun k e => e.symm)
  exact ⟨v', w'', hr, ⟨ho, hat.imp id (fun e => ⟨_, e, h.1.size⟩)⟩, ⟨h.1.trans hch, hold⟩, ZP.keep (fun _ ad' hd hr' => hr'.kept hch (fun e => by have := (hM.lt _ e).2; omega)) (fun e => absurd rfl e)⟩
theorem NmOk.push {B : Nat} {w w' : World} {x : Nm} {M' : Value} (h : NmOk B w x) (hn : x.ms.length < 200) (hA : w'.ownsRow B 30 4 x.A x.fs.length (flatF x.fs)) (hM : w'.ownsRow B 3 1 M' (x.ms.length + 1) (x.ms.map (Value.int .i64) ++ [.int .i64 x.fs.length]))
    (hD : ownsD w' x.m x.fs.length x.D) (har : ∀ g ∈ x.fs, ∃ l : List Int, l.length ≤ 20 ∧ w'.ownsRow B 27 1 g.ar l.length (l.map (Value.int .i64))) : NmOk B w' (x.push M') := by
  refine ⟨hA, ?_, hD, h.nf, by simp [Nm.push]; omega, fun z hz => ?_, h.sz, h.gm, har⟩
  · simpa [Nm.push] using hM
  · rcases List.mem_append.1 hz with h1 | h1
    · exact h.mks z h1
    · rw [List.mem_singleton.1 h1]; exact ⟨by omega, Int.le_refl _⟩
theorem STab0.pushx {B : Nat} {w w' : World} {b : Nat} {x y : Nm} {M' : Value} (h : STab0 B w b x y) (hn : x.ms.length < 200) (hrow : RowB w' b 63 ((rowOf x y).set 2 M'))
    (hM : w'.ownsRow B 3 1 M' (x.ms.length + 1) (x.ms.map (Value.int .i64) ++ [.int .i64 x.fs.length])) (hat : M'.ownBlock = x.M.ownBlock ∨ ∃ g, M'.ownBlock = some g ∧ w.heap.size ≤ g)
    (hc : Ch (fun k => k = b ∨ x.M.ownBlock = some k) w w') : STab0 B w' b (x.push M') y ∧ Below B w w' ∧ Ch (Own b x) w w' := by
  have hc' : Ch (Own b x) w w' := hc.mono (fun k _ e => e.elim Or.inl (fun e => Or.inr (Or.inr (Or.inr e))))
  have hA := ownsRow_ch h.okx.oA hc (fun k hk hs => by
    rcases hs with rfl | e
    · exact own_ne_row h.okx.oA h.row (by decide) hk
    · exact own_ne h.okx.oA h.okx.oM (by decide) hk e)
  have hD := ownsMap_ch h.okx.oD hc (fun hs => by
    rcases hs with e | e
    · exact row_ne_map h.row h.okx.oD e.symm
    · exact own_ne_map h.okx.oM h.okx.oD e)
  have har : ∀ g ∈ x.fs, ∃ l : List Int, l.length ≤ 20 ∧ w'.ownsRow B 27 1 g.ar l.length (l.map (Value.int .i64)) := fun g hg => by
    obtain ⟨l, h1, h2⟩ := h.okx.ar g hg
    exact ⟨l, h1, ownsRow_ch h2 hc' ((own_args h).1 g.ar (l.map (Value.int .i64)) (by simpa using h2))⟩
  exact ⟨⟨hrow, h.gb, NmOk.push h.okx hn hA hM hD har, h.yx hc', h.nA, fun k hk hk' => by
    rcases hat with e | ⟨g, e, e2⟩
    · exact h.nM k (by rw [← e]; exact hk) hk'
    · have e3 : M'.ownBlock = some k := hk
      rw [e] at e3
      have : g = k := by simpa using e3
      have := (h.oky.oM.lt k hk').2
      omega, h.nD⟩, h.lowx hc', hc'⟩
theorem STab0.pushy {B : Nat} {w w' : World} {b : Nat} {x y : Nm} {M' : Value} (h : STab0 B w b x y) (hn : y.ms.length < 200) (hrow : RowB w' b 63 ((rowOf x y).set 5 M'))
    (hM : w'.ownsRow B 3 1 M' (y.ms.length + 1) (y.ms.map (Value.int .i64) ++ [.int .i64 y.fs.length])) (hat : M'.ownBlock = y.M.ownBlock ∨ ∃ g, M'.ownBlock = some g ∧ w.heap.size ≤ g)
    (hc : Ch (fun k => k = b ∨ y.M.ownBlock = some k) w w') : STab0 B w' b x (y.push M') ∧ Below B w w' ∧ Ch (Own b y) w w' := by
  have hc' : Ch (Own b y) w w' := hc.mono (fun k _ e => e.elim Or.inl (fun e => Or.inr (Or.inr (Or.inr e))))
  have hA := ownsRow_ch h.oky.oA hc (fun k hk hs => by
    rcases hs with rfl | e
    · exact own_ne_row h.oky.oA h.row (by decide) hk
    · exact own_ne h.oky.oA h.oky.oM (by decide) hk e)
  have hD := ownsMap_ch h.oky.oD hc (fun hs => by
    rcases hs with e | e
    · exact row_ne_map h.row h.oky.oD e.symm
    · exact own_ne_map h.oky.oM h.oky.oD e)
  have har : ∀ g ∈ y.fs, ∃ l : List Int, l.length ≤ 20 ∧ w'.ownsRow B 27 1 g.ar l.length (l.map (Value.int .i64)) := fun g hg => by
    obtain ⟨l, h1, h2⟩ := h.oky.ar g hg
    exact ⟨l, h1, ownsRow_ch h2 hc' ((own_args h).2 g.ar (l.map (Value.int .i64)) (by simpa using h2))⟩
  exact ⟨⟨hrow, h.gb, h.xy hc', NmOk.push h.oky hn hA hM hD har, h.nA, fun k hk hk' => by
    rcases hat with e | ⟨g, e, e2⟩
    · exact h.nM k hk (by rw [← e]; exact hk')
    · have e3 : M'.ownBlock = some k := hk'
      rw [e] at e3
      have : g = k := by simpa using e3
      have := (h.okx.oM.lt k hk).2
      omega, h.nD⟩, h.lowy hc', hc'⟩
/-- a row's block is what it was, or new -/
def NewM (M M' : Value) (w : World) : Prop := ∀ k, M'.ownBlock = some k → M.ownBlock = some k ∨ w.heap.size ≤ k
theorem NewM.of {M M' : Value} {w : World} (h : M'.ownBlock = M.ownBlock ∨ ∃ g, M'.ownBlock = some g ∧ w.heap.size ≤ g) : NewM M M' w := by
  intro k hk
  rcases h with e | ⟨g, e, e2⟩
  · exact Or.inl (by rw [← e]; exact hk)
  · rw [e] at hk
    have : g = k := by simpa using hk
    exact Or.inr (by omega)
theorem NewM.back {M M' : Value} {w w' : World} (h : NewM M M' w') (hs : w.heap.size ≤ w'.heap.size) : NewM M M' w := fun k hk => (h k hk).imp id (fun e => by omega)
/-- what is told of a push -/
def PushR (B : Nat) (w : World) (b : Nat) (x y : Nm) (e : Ending) (w' : World) : Prop :=
  (∃ er : Int, er ≠ 0 ∧ e = .returned (.int .i64 er) ∧ x.ms.length = 200 ∧ STab B w' b x y ∧ Below B w w' ∧ Chg b x y w w') ∨ (∃ M1 M2, e = .returned (.int .i64 0) ∧ STab B w' b (x.push M1) (y.push M2) ∧ Below B w w' ∧ Chg b x y w w' ∧ NewM x.M M1 w ∧ NewM y.M M2 w)
set_option maxRecDepth 100000 in
set_option maxHeartbeats 2000000 in
theorem push_any {B : Nat} {w1 : World} {b : Nat} {x y : Nm} (h : STab B w1 b x y) : Calls Try.prog 16 #[.pointer (some ⟨b, 0, none⟩)] w1 (PushR B w1 b x y) := by
  have HN := Lib.hid (none_tab h.toSTab0)
  have HL := Lib.hid (level_any h)
  have HT := Lib.hid h
  have hlex := h.okx.nm
  have hley := h.oky.nm
  clear h
  go_enter Try.func16, Try.ntmps16
  go_wp2_with fail
  refine HN.out.mono ?_; rintro e w2 ⟨rfl, rfl⟩
  clear HN
  go_wp2_with fail
  refine HL.out.mono ?_; rintro e w3 ⟨rfl, rfl⟩
  clear HL
  by_cases hful : 200 ≤ x.ms.length
  · have hful' : (200 : Int) ≤ x.ms.length := by omega
    go_wp2
    go_ret
    exact Or.inl ⟨51, by decide, rfl, by omega, HT.out, Below.refl _ _, Ch.refl _ _⟩
  have hful' : ¬ (200 : Int) ≤ x.ms.length := by omega
  have hltx : x.ms.length < 200 := by omega
  have hlty : y.ms.length < 200 := by rw [← HT.out.ln]; exact hltx
  obtain ⟨ax, dx, hax, _⟩ := own_slice HT.out.okx.oA
  obtain ⟨mx, ex, hmx, _⟩ := own_slice HT.out.okx.oM
  obtain ⟨ay, dy, hay, _⟩ := own_slice HT.out.oky.oA
  obtain ⟨my, ey, hmy, _⟩ := own_slice HT.out.oky.oM
  go_wp2_with fail
  have hMo := HT.out.toSTab0.okx.oM
  rw [hmx] at hMo
  have hneb : ∀ k, (Value.slice mx x.ms.length ex).ownBlock = some k → k ≠ b := fun k hk e => own_ne_row hMo HT.out.toSTab0.row (by decide) (by rw [hk, e])
  have rowK : ∀ w', CM (.slice mx x.ms.length ex) B x.ms w3 w' → RowB w' b 63 (rowOf x y) := fun w' h => HT.out.toSTab0.row.kept h.1 (fun e => hneb b e rfl)
  have allocK : ∀ w', CM (.slice mx x.ms.length ex) B x.ms w3 w' → ZP b 0 (.slice ax x.fs.length dx) (.slice mx x.ms.length ex) B x.fs.length x.ms w3.heap.size 12 (w'.alloc (.cells #[.int .i64 x.fs.length] 3)) (.slice (some ⟨w'.heap.size, 0, none⟩) 1 1) ∧ CM (.slice mx x.ms.length ex) B x.ms w3 (w'.alloc (.cells #[.int .i64 x.fs.length] 3)) ∧ ∀ j u, j ≠ 12 → ZP b 0 (.slice ax x.fs.length dx) (.slice mx x.ms.length ex) B x.fs.length x.ms w3.heap.size j w' u → ZP b 0 (.slice ax x.fs.length dx) (.slice mx x.ms.length ex) B x.fs.length x.ms w3.heap.size j (w'.alloc (.cells #[.int .i64 x.fs.length] 3)) u := fun w' h => ⟨⟨_, rfl, h.1.size, RowB.new w' [.int .i64 x.fs.length] 3⟩, ⟨h.1.alloc _, h.2.alloc _⟩, ZP.keep (fun e => absurd rfl e) (fun _ v hv => hv.alloc _)⟩
  have appK : ∀ w', CM (.slice mx x.ms.length ex) B x.ms w3 w' → ∀ ad, w3.heap.size ≤ ad → RowB w' ad 3 [.int .i64 x.fs.length] → ∃ v' w'', (Builtin.append_ #[52, 52] 52 #[(.slice mx x.ms.length ex), .slice (some ⟨ad, 0, none⟩) 1 1]).run Try.prog w' = .ok v' w'' ∧ (ZP b 0 (.slice ax x.fs.length dx) (.slice mx x.ms.length ex) B x.fs.length x.ms w3.heap.size 13 w'' v' ∧ CM (.slice mx x.ms.length ex) B x.ms w3 w'' ∧ ∀ j u, j ≠ 13 → ZP b 0 (.slice ax x.fs.length dx) (.slice mx x.ms.length ex) B x.fs.length x.ms w3.heap.size j w' u → ZP b 0 (.slice ax x.fs.length dx) (.slice mx x.ms.length ex) B x.fs.length x.ms w3.heap.size j w'' u) := fun w' h ad h1 h3 => push_app (b := b) (o := 0) (A := (.slice ax x.fs.length dx)) h hMo hlex HT.out.toSTab0.B_le h3
  refine wp_region_flow3 17 (by kernel_rfl) (by kernel_rfl) ?_ (ZP b 0 (.slice ax x.fs.length dx) (.slice mx x.ms.length ex) B x.fs.length x.ms w3.heap.size) (CM (.slice mx x.ms.length ex) B x.ms w3) ⟨(Ch.refl _ w3).drawn, hMo⟩ ?_ ?_
  · intro i o' d hi ho hd
    have : i = 0 ∨ i = 1 ∨ i = 2 ∨ i = 3 ∨ i = 4 ∨ i = 5 ∨ i = 6 ∨ i = 7 ∨ i = 8 ∨ i = 9 ∨ i = 10 ∨ i = 11 ∨ i = 12 ∨ i = 13 ∨ i = 14 ∨ i = 15 ∨ i = 16 := by omega
    rcases this with rfl | rfl | rfl | rfl | rfl | rfl | rfl | rfl | rfl | rfl | rfl | rfl | rfl | rfl | rfl | rfl | rfl <;> (simp at ho; subst ho; simp at hd; subst hd; simp)
  · intro i o' hi ho
    have : i = 0 ∨ i = 1 ∨ i = 2 ∨ i = 3 ∨ i = 4 ∨ i = 5 ∨ i = 6 ∨ i = 7 ∨ i = 8 ∨ i = 9 ∨ i = 10 ∨ i = 11 ∨ i = 12 ∨ i = 13 ∨ i = 14 ∨ i = 15 ∨ i = 16 := by omega
    rcases this with rfl | rfl | rfl | rfl | rfl | rfl | rfl | rfl | rfl | rfl | rfl | rfl | rfl | rfl | rfl | rfl | rfl <;> (simp at ho; subst ho; intro a w' hC hd hr; rw [if_pos (by rfl)])
    · have e0 : a.tmps.getD 0 undef = .pointer (some ⟨b, 0, none⟩) := hr 0 (free_of (by rfl))
      have e0' : a.tmps[0]?.getD undef = .pointer (some ⟨b, 0, none⟩) := by simpa using e0
      exact flow_val (v := .pointer (some ⟨b, 0, none⟩)) (by go_simp) ⟨rfl, hC, fun _ _ _ h => h⟩
    · have e0 : a.tmps.getD 0 undef = .pointer (some ⟨b, 0, none⟩) := hr 0 (free_of (by rfl))
      have e0' : a.tmps[0]?.getD undef = .pointer (some ⟨b, 0, none⟩) := by simpa using e0
      exact flow_val (v := .pointer (some ⟨b, 0, none⟩)) (by go_simp) ⟨rfl, hC, fun _ _ _ h => h⟩
    · have e11 : a.tmps.getD 11 undef = .pointer (some ⟨b, 0, none⟩) := hd ⟨1, .data⟩ (by simp) rfl _ _ rfl rfl
      have e11' : a.tmps[11]?.getD undef = .pointer (some ⟨b, 0, none⟩) := by simpa using e11
      exact flow_val (v := .pointer (some ⟨b, 0, none⟩)) (by go_simp) ⟨rfl, hC, fun _ _ _ h => h⟩
    · have e12 : a.tmps.getD 12 undef = .pointer (some ⟨b, 0, none⟩) := hd ⟨2, .data⟩ (by simp) rfl _ _ rfl rfl
      have e12' : a.tmps[12]?.getD undef = .pointer (some ⟨b, 0, none⟩) := by simpa using e12
      exact flow_val (v := .pointer (some ⟨b, 0, none⟩)) (by go_simp) ⟨rfl, hC, fun _ _ _ h => h⟩
    · have e13 : a.tmps.getD 13 undef = .pointer (some ⟨b, 0, none⟩) := hd ⟨3, .data⟩ (by simp) rfl _ _ rfl rfl
      have e13' : a.tmps[13]?.getD undef = .pointer (some ⟨b, 0, none⟩) := by simpa using e13
      exact flow_val (v := .pointer (some ⟨b, 2, none⟩)) (by go_simp) ⟨rfl, hC, fun _ _ _ h => h⟩
    · have e14 : a.tmps.getD 14 undef = .pointer (some ⟨b, 2, none⟩) := hd ⟨4, .data⟩ (by simp) rfl _ _ rfl rfl
      have e14' : a.tmps[14]?.getD undef = .pointer (some ⟨b, 2, none⟩) := by simpa using e14
      have c0 : w'.cell? ⟨b, 2, none⟩ = some (.slice mx x.ms.length ex) := by rw [(rowK w' hC).cell, ← hmx]; rfl
      exact flow_val (v := (.slice mx x.ms.length ex)) (by go_simp) ⟨rfl, hC, fun _ _ _ h => h⟩
    · have e0 : a.tmps.getD 0 undef = .pointer (some ⟨b, 0, none⟩) := hr 0 (free_of (by rfl))
      have e0' : a.tmps[0]?.getD undef = .pointer (some ⟨b, 0, none⟩) := by simpa using e0
      exact flow_val (v := .pointer (some ⟨b, 0, none⟩)) (by go_simp) ⟨rfl, hC, fun _ _ _ h => h⟩
    · have e16 : a.tmps.getD 16 undef = .pointer (some ⟨b, 0, none⟩) := hd ⟨6, .data⟩ (by simp) rfl _ _ rfl rfl
      have e16' : a.tmps[16]?.getD undef = .pointer (some ⟨b, 0, none⟩) := by simpa using e16
      exact flow_val (v := .pointer (some ⟨b, 0, none⟩)) (by go_simp) ⟨rfl, hC, fun _ _ _ h => h⟩
    · have e17 : a.tmps.getD 17 undef = .pointer (some ⟨b, 0, none⟩) := hd ⟨7, .data⟩ (by simp) rfl _ _ rfl rfl
      have e17' : a.tmps[17]?.getD undef = .pointer (some ⟨b, 0, none⟩) := by simpa using e17
      exact flow_val (v := .pointer (some ⟨b, 0, none⟩)) (by go_simp) ⟨rfl, hC, fun _ _ _ h => h⟩
    · have e18 : a.tmps.getD 18 undef = .pointer (some ⟨b, 0, none⟩) := hd ⟨8, .data⟩ (by simp) rfl _ _ rfl rfl
      have e18' : a.tmps[18]?.getD undef = .pointer (some ⟨b, 0, none⟩) := by simpa using e18
      exact flow_val (v := .pointer (some ⟨b, 0, none⟩)) (by go_simp) ⟨rfl, hC, fun _ _ _ h => h⟩
    · have e19 : a.tmps.getD 19 undef = .pointer (some ⟨b, 0, none⟩) := hd ⟨9, .data⟩ (by simp) rfl _ _ rfl rfl
      have e19' : a.tmps[19]?.getD undef = .pointer (some ⟨b, 0, none⟩) := by simpa using e19
      have c0 : w'.cell? ⟨b, 0, none⟩ = some (.slice ax x.fs.length dx) := by rw [(rowK w' hC).cell, ← hax]; rfl
      exact flow_val (v := (.slice ax x.fs.length dx)) (by go_simp) ⟨rfl, hC, fun _ _ _ h => h⟩
    · have e20 : a.tmps.getD 20 undef = (.slice ax x.fs.length dx) := hd ⟨10, .data⟩ (by simp) rfl _ _ rfl rfl
      have e20' : a.tmps[20]?.getD undef = (.slice ax x.fs.length dx) := by simpa using e20
      exact flow_val (v := .int .i64 x.fs.length) (by go_simp) ⟨rfl, hC, fun _ _ _ h => h⟩
    · have e21 : a.tmps.getD 21 undef = .int .i64 x.fs.length := hd ⟨11, .data⟩ (by simp) rfl _ _ rfl rfl
      have e21' : a.tmps[21]?.getD undef = .int .i64 x.fs.length := by simpa using e21
      refine flow_new (v := .slice (some ⟨w'.heap.size, 0, none⟩) 1 1) (w' := w'.alloc (.cells #[.int .i64 x.fs.length] 3)) (by go_simp; try rfl) ?_
      exact allocK w' hC
    · have e15 : a.tmps.getD 15 undef = (.slice mx x.ms.length ex) := hd ⟨5, .data⟩ (by simp) rfl _ _ rfl rfl
      have e15' : a.tmps[15]?.getD undef = (.slice mx x.ms.length ex) := by simpa using e15
      have h31 := hd ⟨12, .data⟩ (by simp) rfl _ _ rfl rfl
      obtain ⟨ad, h31a, h31b, h31c⟩ : ∃ ad, a.tmps.getD 22 undef = .slice (some ⟨ad, 0, none⟩) 1 1 ∧ w3.heap.size ≤ ad ∧ RowB w' ad 3 [.int .i64 x.fs.length] := h31
      obtain ⟨v', w'', hr1, hr2⟩ := appK w' hC ad h31b h31c
      exact flow_new (exec_append _ (.tmp 15) (.tmp 22) 52 rfl e15 h31a hr1) hr2
    · have e10 : a.tmps.getD 10 undef = .pointer (some ⟨b, 0, none⟩) := hd ⟨0, .data⟩ (by simp) rfl _ _ rfl rfl
      have e10' : a.tmps[10]?.getD undef = .pointer (some ⟨b, 0, none⟩) := by simpa using e10
      exact flow_val (v := .pointer (some ⟨b, 0, none⟩)) (by go_simp) ⟨rfl, hC, fun _ _ _ h => h⟩
    · have e24 : a.tmps.getD 24 undef = .pointer (some ⟨b, 0, none⟩) := hd ⟨14, .data⟩ (by simp) rfl _ _ rfl rfl
      have e24' : a.tmps[24]?.getD undef = .pointer (some ⟨b, 0, none⟩) := by simpa using e24
      exact flow_val (v := .pointer (some ⟨b, 0, none⟩)) (by go_simp) ⟨rfl, hC, fun _ _ _ h => h⟩
    · have e25 : a.tmps.getD 25 undef = .pointer (some ⟨b, 0, none⟩) := hd ⟨15, .data⟩ (by simp) rfl _ _ rfl rfl
      have e25' : a.tmps[25]?.getD undef = .pointer (some ⟨b, 0, none⟩) := by simpa using e25
      exact flow_val (v := .pointer (some ⟨b, 2, none⟩)) (by go_simp) ⟨rfl, hC, fun _ _ _ h => h⟩
  · intro vsx vx hC5 hZ
    have v13 := hZ 13 _ _ (by omega) rfl rfl
    have v16 : vsx 16 = .pointer (some ⟨b, 2, none⟩) := hZ 16 _ _ (by omega) rfl rfl
    obtain ⟨hoM', hatM'⟩ : vx.ownsRow B 3 1 (vsx 13) (x.ms.length + 1) (x.ms.map (Value.int .i64) ++ [Value.int .i64 ((x.fs.length : Nat) : Int)]) ∧ ((vsx 13).ownBlock = (Value.slice mx x.ms.length ex).ownBlock ∨ ∃ g, (vsx 13).ownBlock = some g ∧ w3.heap.size ≤ g) := v13
    have hrow5 := rowK _ hC5
    simp only [List.drop_succ_cons, List.drop_zero, List.take_succ_cons, List.take_zero, putAll, v16]
    obtain ⟨gx, qx, hMe', _⟩ := own_slice hoM'
    rw [hMe'] at hoM' hatM'
    simp only [hMe']
    have hrow6 := hrow5.set 2 (.slice gx (x.ms.length + 1) qx)
    have hM6 := ownsRow_setCell_other hoM' (a := ⟨b, 2, none⟩) (own_ne_row hoM' hrow5 (by decide)) (.slice gx (x.ms.length + 1) qx)
    have ch5 : Ch (fun k => k = b ∨ x.M.ownBlock = some k) w3 vx := hC5.1.mono (fun k _ e => Or.inr (by rw [hmx]; exact e))
    have hnewx : NewM x.M (.slice gx (x.ms.length + 1) qx) w3 := NewM.of (by rw [hmx]; exact hatM')
    have HNX := Lib.hid hnewx
    have hszx : w3.heap.size ≤ vx.heap.size := hC5.1.size
    have HSX := Lib.hid (show w3.heap.size ≤ (vx.setCell ⟨b, 2, none⟩ (.slice gx (x.ms.length + 1) qx)).heap.size by simpa [World.setCell] using hszx)
    clear hnewx hszx
    have HXx := Lib.hid (HT.out.toSTab0.pushx hltx hrow6 hM6 (by rw [hmx]; exact hatM') (ch5.setC b 2 (Or.inl rfl) _))
    have c5 : ∃ u, vx.cell? ⟨b, 2, none⟩ = some u := ⟨_, hrow5.cell 2⟩
    obtain ⟨u5, c5⟩ := c5
    have f5 := hrow5.free 2
    clear hZ hrow5 hoM' hatM' hrow6 hM6 ch5 rowK allocK appK hMo hneb v16 hMe' hC5
    go_wp2
    have HTX := Lib.hid (HXx.out)
    clear HXx c5 f5
    generalize vx.setCell ⟨b, 2, none⟩ (.slice gx (x.ms.length + 1) qx) = w4 at *
    obtain ⟨x1, hx1⟩ : ∃ x1, x1 = x.push (.slice gx (x.ms.length + 1) qx) := ⟨_, rfl⟩
    rw [← hx1] at HTX
    have HX1 := Lib.hid hx1
    clear hx1
    have hMo := HTX.out.1.oky.oM
    rw [hmy] at hMo
    have hneb : ∀ k, (Value.slice my y.ms.length ey).ownBlock = some k → k ≠ b := fun k hk e => own_ne_row hMo HTX.out.1.row (by decide) (by rw [hk, e])
    have rowK : ∀ w', CM (.slice my y.ms.length ey) B y.ms w4 w' → RowB w' b 63 (rowOf x1 y) := fun w' h => HTX.out.1.row.kept h.1 (fun e => hneb b e rfl)
    have allocK : ∀ w', CM (.slice my y.ms.length ey) B y.ms w4 w' → ZP b 3 (.slice ay y.fs.length dy) (.slice my y.ms.length ey) B y.fs.length y.ms w4.heap.size 12 (w'.alloc (.cells #[.int .i64 y.fs.length] 3)) (.slice (some ⟨w'.heap.size, 0, none⟩) 1 1) ∧ CM (.slice my y.ms.length ey) B y.ms w4 (w'.alloc (.cells #[.int .i64 y.fs.length] 3)) ∧ ∀ j u, j ≠ 12 → ZP b 3 (.slice ay y.fs.length dy) (.slice my y.ms.length ey) B y.fs.length y.ms w4.heap.size j w' u → ZP b 3 (.slice ay y.fs.length dy) (.slice my y.ms.length ey) B y.fs.length y.ms w4.heap.size j (w'.alloc (.cells #[.int .i64 y.fs.length] 3)) u := fun w' h => ⟨⟨_, rfl, h.1.size, RowB.new w' [.int .i64 y.fs.length] 3⟩, ⟨h.1.alloc _, h.2.alloc _⟩, ZP.keep (fun e => absurd rfl e) (fun _ v hv => hv.alloc _)⟩
    have appK : ∀ w', CM (.slice my y.ms.length ey) B y.ms w4 w' → ∀ ad, w4.heap.size ≤ ad → RowB w' ad 3 [.int .i64 y.fs.length] → ∃ v' w'', (Builtin.append_ #[52, 52] 52 #[(.slice my y.ms.length ey), .slice (some ⟨ad, 0, none⟩) 1 1]).run Try.prog w' = .ok v' w'' ∧ (ZP b 3 (.slice ay y.fs.length dy) (.slice my y.ms.length ey) B y.fs.length y.ms w4.heap.size 13 w'' v' ∧ CM (.slice my y.ms.length ey) B y.ms w4 w'' ∧ ∀ j u, j ≠ 13 → ZP b 3 (.slice ay y.fs.length dy) (.slice my y.ms.length ey) B y.fs.length y.ms w4.heap.size j w' u → ZP b 3 (.slice ay y.fs.length dy) (.slice my y.ms.length ey) B y.fs.length y.ms w4.heap.size j w'' u) := fun w' h ad h1 h3 => push_app (b := b) (o := 3) (A := (.slice ay y.fs.length dy)) h hMo hley HTX.out.1.B_le h3
    refine wp_region_flow3 17 (by kernel_rfl) (by kernel_rfl) ?_ (ZP b 3 (.slice ay y.fs.length dy) (.slice my y.ms.length ey) B y.fs.length y.ms w4.heap.size) (CM (.slice my y.ms.length ey) B y.ms w4) ⟨(Ch.refl _ w4).drawn, hMo⟩ ?_ ?_
    · intro i o' d hi ho hd
      have : i = 0 ∨ i = 1 ∨ i = 2 ∨ i = 3 ∨ i = 4 ∨ i = 5 ∨ i = 6 ∨ i = 7 ∨ i = 8 ∨ i = 9 ∨ i = 10 ∨ i = 11 ∨ i = 12 ∨ i = 13 ∨ i = 14 ∨ i = 15 ∨ i = 16 := by omega
      rcases this with rfl | rfl | rfl | rfl | rfl | rfl | rfl | rfl | rfl | rfl | rfl | rfl | rfl | rfl | rfl | rfl | rfl <;> (simp at ho; subst ho; simp at hd; subst hd; simp)
    · intro i o' hi ho
      have : i = 0 ∨ i = 1 ∨ i = 2 ∨ i = 3 ∨ i = 4 ∨ i = 5 ∨ i = 6 ∨ i = 7 ∨ i = 8 ∨ i = 9 ∨ i = 10 ∨ i = 11 ∨ i = 12 ∨ i = 13 ∨ i = 14 ∨ i = 15 ∨ i = 16 := by omega
      rcases this with rfl | rfl | rfl | rfl | rfl | rfl | rfl | rfl | rfl | rfl | rfl | rfl | rfl | rfl | rfl | rfl | rfl <;> (simp at ho; subst ho; intro a w' hC hd hr; rw [if_pos (by rfl)])
      · have e0 : a.tmps.getD 0 undef = .pointer (some ⟨b, 0, none⟩) := hr 0 (free_of (by rfl))
        have e0' : a.tmps[0]?.getD undef = .pointer (some ⟨b, 0, none⟩) := by simpa using e0
        exact flow_val (v := .pointer (some ⟨b, 0, none⟩)) (by go_simp) ⟨rfl, hC, fun _ _ _ h => h⟩
      · have e0 : a.tmps.getD 0 undef = .pointer (some ⟨b, 0, none⟩) := hr 0 (free_of (by rfl))
        have e0' : a.tmps[0]?.getD undef = .pointer (some ⟨b, 0, none⟩) := by simpa using e0
        exact flow_val (v := .pointer (some ⟨b, 0, none⟩)) (by go_simp) ⟨rfl, hC, fun _ _ _ h => h⟩
      · have e28 : a.tmps.getD 28 undef = .pointer (some ⟨b, 0, none⟩) := hd ⟨1, .data⟩ (by simp) rfl _ _ rfl rfl
        have e28' : a.tmps[28]?.getD undef = .pointer (some ⟨b, 0, none⟩) := by simpa using e28
        exact flow_val (v := .pointer (some ⟨b, 0, none⟩)) (by go_simp) ⟨rfl, hC, fun _ _ _ h => h⟩
      · have e29 : a.tmps.getD 29 undef = .pointer (some ⟨b, 0, none⟩) := hd ⟨2, .data⟩ (by simp) rfl _ _ rfl rfl
        have e29' : a.tmps[29]?.getD undef = .pointer (some ⟨b, 0, none⟩) := by simpa using e29
        exact flow_val (v := .pointer (some ⟨b, 3, none⟩)) (by go_simp) ⟨rfl, hC, fun _ _ _ h => h⟩
      · have e30 : a.tmps.getD 30 undef = .pointer (some ⟨b, 3, none⟩) := hd ⟨3, .data⟩ (by simp) rfl _ _ rfl rfl
        have e30' : a.tmps[30]?.getD undef = .pointer (some ⟨b, 3, none⟩) := by simpa using e30
        exact flow_val (v := .pointer (some ⟨b, 5, none⟩)) (by go_simp) ⟨rfl, hC, fun _ _ _ h => h⟩
      · have e31 : a.tmps.getD 31 undef = .pointer (some ⟨b, 5, none⟩) := hd ⟨4, .data⟩ (by simp) rfl _ _ rfl rfl
        have e31' : a.tmps[31]?.getD undef = .pointer (some ⟨b, 5, none⟩) := by simpa using e31
        have c0 : w'.cell? ⟨b, 5, none⟩ = some (.slice my y.ms.length ey) := by rw [(rowK w' hC).cell, ← hmy]; rfl
        exact flow_val (v := (.slice my y.ms.length ey)) (by go_simp) ⟨rfl, hC, fun _ _ _ h => h⟩
      · have e0 : a.tmps.getD 0 undef = .pointer (some ⟨b, 0, none⟩) := hr 0 (free_of (by rfl))
        have e0' : a.tmps[0]?.getD undef = .pointer (some ⟨b, 0, none⟩) := by simpa using e0
        exact flow_val (v := .pointer (some ⟨b, 0, none⟩)) (by go_simp) ⟨rfl, hC, fun _ _ _ h => h⟩
      · have e33 : a.tmps.getD 33 undef = .pointer (some ⟨b, 0, none⟩) := hd ⟨6, .data⟩ (by simp) rfl _ _ rfl rfl
        have e33' : a.tmps[33]?.getD undef = .pointer (some ⟨b, 0, none⟩) := by simpa using e33
        exact flow_val (v := .pointer (some ⟨b, 0, none⟩)) (by go_simp) ⟨rfl, hC, fun _ _ _ h => h⟩
      · have e34 : a.tmps.getD 34 undef = .pointer (some ⟨b, 0, none⟩) := hd ⟨7, .data⟩ (by simp) rfl _ _ rfl rfl
        have e34' : a.tmps[34]?.getD undef = .pointer (some ⟨b, 0, none⟩) := by simpa using e34
        exact flow_val (v := .pointer (some ⟨b, 3, none⟩)) (by go_simp) ⟨rfl, hC, fun _ _ _ h => h⟩
      · have e35 : a.tmps.getD 35 undef = .pointer (some ⟨b, 3, none⟩) := hd ⟨8, .data⟩ (by simp) rfl _ _ rfl rfl
        have e35' : a.tmps[35]?.getD undef = .pointer (some ⟨b, 3, none⟩) := by simpa using e35
        exact flow_val (v := .pointer (some ⟨b, 3, none⟩)) (by go_simp) ⟨rfl, hC, fun _ _ _ h => h⟩
      · have e36 : a.tmps.getD 36 undef = .pointer (some ⟨b, 3, none⟩) := hd ⟨9, .data⟩ (by simp) rfl _ _ rfl rfl
        have e36' : a.tmps[36]?.getD undef = .pointer (some ⟨b, 3, none⟩) := by simpa using e36
        have c0 : w'.cell? ⟨b, 3, none⟩ = some (.slice ay y.fs.length dy) := by rw [(rowK w' hC).cell, ← hay]; rfl
        exact flow_val (v := (.slice ay y.fs.length dy)) (by go_simp) ⟨rfl, hC, fun _ _ _ h => h⟩
      · have e37 : a.tmps.getD 37 undef = (.slice ay y.fs.length dy) := hd ⟨10, .data⟩ (by simp) rfl _ _ rfl rfl
        have e37' : a.tmps[37]?.getD undef = (.slice ay y.fs.length dy) := by simpa using e37
        exact flow_val (v := .int .i64 y.fs.length) (by go_simp) ⟨rfl, hC, fun _ _ _ h => h⟩
      · have e38 : a.tmps.getD 38 undef = .int .i64 y.fs.length := hd ⟨11, .data⟩ (by simp) rfl _ _ rfl rfl
        have e38' : a.tmps[38]?.getD undef = .int .i64 y.fs.length := by simpa using e38
        refine flow_new (v := .slice (some ⟨w'.heap.size, 0, none⟩) 1 1) (w' := w'.alloc (.cells #[.int .i64 y.fs.length] 3)) (by go_simp; try rfl) ?_
        exact allocK w' hC
      · have e32 : a.tmps.getD 32 undef = (.slice my y.ms.length ey) := hd ⟨5, .data⟩ (by simp) rfl _ _ rfl rfl
        have e32' : a.tmps[32]?.getD undef = (.slice my y.ms.length ey) := by simpa using e32
        have h31 := hd ⟨12, .data⟩ (by simp) rfl _ _ rfl rfl
        obtain ⟨ad, h31a, h31b, h31c⟩ : ∃ ad, a.tmps.getD 39 undef = .slice (some ⟨ad, 0, none⟩) 1 1 ∧ w4.heap.size ≤ ad ∧ RowB w' ad 3 [.int .i64 y.fs.length] := h31
        obtain ⟨v', w'', hr1, hr2⟩ := appK w' hC ad h31b h31c
        exact flow_new (exec_append _ (.tmp 32) (.tmp 39) 52 rfl e32 h31a hr1) hr2
      · have e27 : a.tmps.getD 27 undef = .pointer (some ⟨b, 0, none⟩) := hd ⟨0, .data⟩ (by simp) rfl _ _ rfl rfl
        have e27' : a.tmps[27]?.getD undef = .pointer (some ⟨b, 0, none⟩) := by simpa using e27
        exact flow_val (v := .pointer (some ⟨b, 0, none⟩)) (by go_simp) ⟨rfl, hC, fun _ _ _ h => h⟩
      · have e41 : a.tmps.getD 41 undef = .pointer (some ⟨b, 0, none⟩) := hd ⟨14, .data⟩ (by simp) rfl _ _ rfl rfl
        have e41' : a.tmps[41]?.getD undef = .pointer (some ⟨b, 0, none⟩) := by simpa using e41
        exact flow_val (v := .pointer (some ⟨b, 3, none⟩)) (by go_simp) ⟨rfl, hC, fun _ _ _ h => h⟩
      · have e42 : a.tmps.getD 42 undef = .pointer (some ⟨b, 3, none⟩) := hd ⟨15, .data⟩ (by simp) rfl _ _ rfl rfl
        have e42' : a.tmps[42]?.getD undef = .pointer (some ⟨b, 3, none⟩) := by simpa using e42
        exact flow_val (v := .pointer (some ⟨b, 5, none⟩)) (by go_simp) ⟨rfl, hC, fun _ _ _ h => h⟩
    · intro vsy vy hC5 hZ
      have v13 := hZ 13 _ _ (by omega) rfl rfl
      have v16 : vsy 16 = .pointer (some ⟨b, 5, none⟩) := hZ 16 _ _ (by omega) rfl rfl
      obtain ⟨hoM', hatM'⟩ : vy.ownsRow B 3 1 (vsy 13) (y.ms.length + 1) (y.ms.map (Value.int .i64) ++ [Value.int .i64 ((y.fs.length : Nat) : Int)]) ∧ ((vsy 13).ownBlock = (Value.slice my y.ms.length ey).ownBlock ∨ ∃ g, (vsy 13).ownBlock = some g ∧ w4.heap.size ≤ g) := v13
      have hrow5 := rowK _ hC5
      simp only [List.drop_succ_cons, List.drop_zero, List.take_succ_cons, List.take_zero, putAll, v16]
      obtain ⟨gy, qy, hMe', _⟩ := own_slice hoM'
      rw [hMe'] at hoM' hatM'
      simp only [hMe']
      have hrow6 := hrow5.set 5 (.slice gy (y.ms.length + 1) qy)
      have hM6 := ownsRow_setCell_other hoM' (a := ⟨b, 5, none⟩) (own_ne_row hoM' hrow5 (by decide)) (.slice gy (y.ms.length + 1) qy)
      have ch5 : Ch (fun k => k = b ∨ y.M.ownBlock = some k) w4 vy := hC5.1.mono (fun k _ e => Or.inr (by rw [hmy]; exact e))
      have HNY := Lib.hid (show NewM y.M (.slice gy (y.ms.length + 1) qy) w3 from (NewM.of (w := w4) (by rw [hmy]; exact hatM')).back HSX.out)
      have HXy := Lib.hid (HTX.out.1.pushy hlty hrow6 hM6 (by rw [hmy]; exact hatM') (ch5.setC b 5 (Or.inl rfl) _))
      have c5 : ∃ u, vy.cell? ⟨b, 5, none⟩ = some u := ⟨_, hrow5.cell 5⟩
      obtain ⟨u5, c5⟩ := c5
      have f5 := hrow5.free 5
      clear hZ hrow5 hoM' hatM' hrow6 hM6 ch5 rowK allocK appK hMo hneb v16 hMe' hC5
      go_wp2
      go_ret
      refine Or.inr ⟨.slice gx (x.ms.length + 1) qx, .slice gy (y.ms.length + 1) qy, rfl, ⟨?_, ?_⟩, HTX.out.2.1.trans HXy.out.2.1, Ch.trans (Chg.ofx HTX.out.2.2) (Chg.ofy HXy.out.2.2), HNX.out, HNY.out⟩
      · rw [← HX1.out]; exact HXy.out.1
      · simp [Nm.push, HT.out.ln]
end Go.Proofs.Ytggbnjdbbomjoaa
