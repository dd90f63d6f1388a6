/- The reference's DeclareSort and DeclareFun. -/
import Derived.Test.YtggbnjdbbomjoaaSorS
import Derived.Test.YtggbnjdbbomjoaaSorMm
namespace Go.Proofs.Ytggbnjdbbomjoaa
open Go Go.RowKit Go.Proofs.YtggbnjdbbomjoaaW.PrintWords Go.Proofs.Ytggbnjdbbomjoaa.PSortsScopes
theorem infoE : (Try.prog.info? 84).map (fun i => (i.zero, i.size, i.bytes)) = some (some (.agg #[.string ByteArray.empty, .slice none 0 0, .int .i64 0, .bool false, .int .i64 0, .bool false]), 6, 72) := by kernel_rfl
/-- what is known of each operation's value where an entry is added -/
def ZR (g o : Nat) (A : Value) (B n : Nat) (xs : List Value) (W : Nat) (v5 : Value) (Par : Value → Prop) (nm : ByteArray) (rs : Int) (df : Bool) (dp : Nat) : Nat → World → Value → Prop
  | 3, _, v => v = .pointer (some ⟨g, o, none⟩)
  | 4, _, v => v = A
  | 5, _, v => v = v5
  | 6, _, v => ∃ ar, Par ar ∧ v = .agg #[.string nm, ar, .int .i64 rs, .bool df]
  | 9, _, v => v = .pointer (some ⟨g, 2, none⟩)
  | 10, _, v => v = .int .i64 dp
  | 11, _, v => ∃ ar, Par ar ∧ v = .agg (En.cells ⟨nm, ar, rs, df, dp, true⟩).toArray
  | 12, w, v => ∃ ad ar, Par ar ∧ v = .slice (some ⟨ad, 0, none⟩) 1 1 ∧ W ≤ ad ∧ RowB w ad 84 (En.cells ⟨nm, ar, rs, df, dp, true⟩)
  | 13, w, v => ∃ ar, Par ar ∧ w.ownsRow B 84 6 v (n + 1) (xs ++ En.cells ⟨nm, ar, rs, df, dp, true⟩) ∧ (v.ownBlock = A.ownBlock ∨ ∃ g, v.ownBlock = some g ∧ W ≤ g)
  | _, _, v => v = .pointer (some ⟨g, 0, none⟩)
def CE (A : Value) (B n : Nat) (xs : List Value) (w w' : World) : Prop := Ch (fun k => A.ownBlock = some k) w w' ∧ w'.ownsRow B 84 6 A n xs
section
variable {g o : Nat} {A : Value} {B n : Nat} {xs : List Value} {W : Nat} {v5 : Value} {Par : Value → Prop} {nm : ByteArray} {rs : Int} {df : Bool} {dp : Nat}
theorem ZR.keep {w w' : World} {i : Nat} (h6 : i ≠ 12 → ∀ ad cs, W ≤ ad → RowB w ad 84 cs → RowB w' ad 84 cs)
    (h7 : i ≠ 13 → ∀ v k ys, w.ownsRow B 84 6 v k ys → w'.ownsRow B 84 6 v k ys) : ∀ j u, j ≠ i → ZR g o A B n xs W v5 Par nm rs df dp j w u → ZR g o A B n xs W v5 Par nm rs df dp j w' u := by
  intro j u hj h
  unfold ZR at h ⊢
  split at h
  case h_8 =>
    obtain ⟨ad, ar, h0, h1, h2, h3⟩ := h
    exact ⟨ad, ar, h0, h1, h2, h6 (Ne.symm hj) ad _ h2 h3⟩
  case h_9 =>
    obtain ⟨ar, h0, h1, h2⟩ := h
    exact ⟨ar, h0, h7 (Ne.symm hj) _ _ _ h1, h2⟩
  all_goals exact h
theorem En.one {x : En} (h : x.ar.oneCell' = true) : ∀ u ∈ x.cells, u.oneCell' = true := by
  intro u hu
  simp only [En.cells, List.mem_cons, List.not_mem_nil, or_false] at hu
  rcases hu with rfl | rfl | rfl | rfl | rfl | rfl
  · rfl
  · exact h
  all_goals rfl
theorem appE {w w' : World} (h : CE A B n xs w w') (hA : w.ownsRow B 84 6 A n xs) (hl : n ≤ 2000) (hB : B ≤ w.heap.size) {ad : Nat} {ar : Value} (hp : Par ar) (h1 : ar.oneCell' = true) (_hd : w.heap.size ≤ ad)
    (h3 : RowB w' ad 84 (En.cells ⟨nm, ar, rs, df, dp, true⟩)) :
    ∃ v' w'', (Builtin.append_ #[47, 47] 47 #[A, .slice (some ⟨ad, 0, none⟩) 1 1]).run Try.prog w' = .ok v' w'' ∧ (ZR g o A B n xs w.heap.size v5 Par nm rs df dp 13 w'' v' ∧ CE A B n xs w w'' ∧
      ∀ j u, j ≠ 13 → ZR g o A B n xs w.heap.size v5 Par nm rs df dp j w' u → ZR g o A B n xs w.heap.size v5 Par nm rs df dp j w'' u) := by
  obtain ⟨i0, hi, hz0, hz1, hz2⟩ := info_parts infoE
  obtain ⟨v', w'', hr, ho, hg, hat, hold⟩ := run_append_both (P := Try.prog) w' B 47 47 84 i0 _ 6 72 Try.underlying47 hi hz0 hz1 hz2 rfl (by decide) A n xs h.2 ⟨ad, 0, none⟩ 1 1 (En.cells ⟨nm, ar, rs, df, dp, true⟩) rfl
    (fun j u hu => by rw [show ((⟨ad, 0, none⟩ : Addr).add j) = ⟨ad, j, none⟩ by cases j <;> simp [Addr.add], h3.cell]; exact hu) (En.one h1) (by unfold maxLen; omega) (by omega) (Nat.le_trans hB h.1.size)
  have hch : Ch (fun k => A.ownBlock = some k) w' w'' := Ch.grown hg (fun k e => e.symm)
  exact ⟨v', w'', hr, ⟨ar, hp, ho, hat.imp id (fun e => ⟨_, e, h.1.size⟩)⟩, ⟨h.1.trans hch, hold⟩, ZR.keep (fun _ ad' _ hd hr' => hr'.kept hch (fun e => by have := (hA.lt _ e).2; omega)) (fun e => absurd rfl e)⟩
end
theorem RTab.put0 {B : Nat} {w w' : World} {g : Nat} {r : Rt} {A' : Value} {x : En} (h : RTab B w g r) (hn : r.l0.length < 2000) (hrow : RowB w' g 49 [r.A0, r.A1, .int .i64 r.dp]) (hc : Ch (fun k => r.A0.ownBlock = some k) w w')
    (ho : w'.ownsRow B 84 6 A' (r.l0.length + 1) (flatE r.l0 ++ x.cells)) (hat : A'.ownBlock = r.A0.ownBlock ∨ ∃ g, A'.ownBlock = some g ∧ w.heap.size ≤ g) :
    RTab B (w'.setCell ⟨g, 0, none⟩ A') g { r with A0 := A', l0 := r.l0 ++ [x] } ∧ Ch (ROwn g r) w (w'.setCell ⟨g, 0, none⟩ A') := by
  have hn1 : r.A1.ownBlock ≠ some g := own_ne_row h.o1 h.row (by decide)
  have ho1 : w'.ownsRow B 84 6 r.A1 r.l1.length (flatE r.l1) := ownsRow_ch h.o1 hc (fun k hk hk' => h.n01 k hk' hk)
  refine ⟨⟨hrow.set 0 A', h.gb, ?_, ownsRow_setCell_other ho1 (a := ⟨g, 0, none⟩) hn1 _, fun k hk hk' => ?_, by simp; omega, h.s1, h.dl⟩, Ch.setC (S := ROwn g r) (hc.mono fun k _ e => Or.inr (Or.inl e)) g 0 (Or.inl rfl) _⟩
  · have := ownsRow_setCell_other ho (a := ⟨g, 0, none⟩) (own_ne_row ho hrow (by decide)) A'
    simpa [flatE_snoc] using this
  · rcases hat with e | ⟨q, e, e2⟩
    · exact h.n01 k (by rw [← e]; exact hk) hk'
    · have e3 : A'.ownBlock = some k := hk
      rw [e] at e3
      have : q = k := by simpa using e3
      have := (h.o1.lt k hk').2
      omega
theorem RTab.put1 {B : Nat} {w w' : World} {g : Nat} {r : Rt} {A' : Value} {x : En} (h : RTab B w g r) (hn : r.l1.length < 2000) (hrow : RowB w' g 49 [r.A0, r.A1, .int .i64 r.dp]) (hc : Ch (fun k => r.A1.ownBlock = some k) w w')
    (ho : w'.ownsRow B 84 6 A' (r.l1.length + 1) (flatE r.l1 ++ x.cells)) (hat : A'.ownBlock = r.A1.ownBlock ∨ ∃ g, A'.ownBlock = some g ∧ w.heap.size ≤ g) :
    RTab B (w'.setCell ⟨g, 1, none⟩ A') g { r with A1 := A', l1 := r.l1 ++ [x] } ∧ Ch (ROwn g r) w (w'.setCell ⟨g, 1, none⟩ A') := by
  have hn1 : r.A0.ownBlock ≠ some g := own_ne_row h.o0 h.row (by decide)
  have ho0 : w'.ownsRow B 84 6 r.A0 r.l0.length (flatE r.l0) := ownsRow_ch h.o0 hc (fun k hk hk' => h.n01 k hk hk')
  refine ⟨⟨hrow.set 1 A', h.gb, ownsRow_setCell_other ho0 (a := ⟨g, 1, none⟩) hn1 _, ?_, fun k hk hk' => ?_, h.s0, by simp; omega, h.dl⟩, Ch.setC (S := ROwn g r) (hc.mono fun k _ e => Or.inr (Or.inr e)) g 1 (Or.inl rfl) _⟩
  · have := ownsRow_setCell_other ho (a := ⟨g, 1, none⟩) (own_ne_row ho hrow (by decide)) A'
    simpa [flatE_snoc] using this
  · rcases hat with e | ⟨q, e, e2⟩
    · exact h.n01 k hk (by rw [← e]; exact hk')
    · have e3 : A'.ownBlock = some k := hk'
      rw [e] at e3
      have : q = k := by simpa using e3
      have := (h.o0.lt k hk).2
      omega
/-- what is told of the reference's DeclareSort -/
def RDeclS (B : Nat) (w : World) (g : Nat) (r : Rt) (nm : ByteArray) (mr : Bool) (e : Ending) (w' : World) : Prop :=
  (∃ er : Int, er ≠ 0 ∧ e = .returned (.tuple #[.int .i64 0, .int .i64 er]) ∧ er = (if mr = false then 50 else if 0 ≤ seekE nm r.l0 0 then 8 else 9) ∧ RTab B w' g r ∧ Below w.heap.size w w') ∨
  (∃ A' ar, ar = .slice none 0 0 ∧ mr = true ∧ seekE nm r.l0 0 < 0 ∧ r.l0.length < 2000 ∧ e = .returned (.tuple #[.int .i64 ((r.l0.length : Int) + 2), .int .i64 0]) ∧ RTab B w' g { r with A0 := A', l0 := r.l0 ++ [⟨nm, ar, 0, false, r.dp, true⟩] } ∧ Ch (ROwn g r) w w')
set_option maxRecDepth 100000 in
set_option maxHeartbeats 1000000 in
theorem rdeclareSort_any {B : Nat} {w : World} {g : Nat} {r : Rt} (h : RTab B w g r) (nm : ByteArray) (mr : Bool) (k0 : Nat) (hm : juristref05_May.f k0 nm true = some mr) :
    Calls Try.prog 33 #[.pointer (some ⟨g, 0, none⟩), .string nm] w (RDeclS B w g r nm mr) := by
  have HMC := Lib.hid (juristref05_May.calls k0 nm true mr w hm)
  have HT0 := Lib.hid h
  clear h hm
  go_enter Try.func33, Try.ntmps33
  go_wp2_with fail
  refine HMC.out.mono ?_; rintro e w1 ⟨rfl, hdr⟩
  have hb1 : Below w.heap.size w w1 := Drawn0.below hdr
  have HT := Lib.hid (HT0.out.below hb1)
  have HB1 := Lib.hid hb1
  clear HMC hdr hb1
  cases mr
  case false =>
    go_wp2_with fail
    go_ret2
    exact Or.inl ⟨50, by decide, rfl, rfl, HT.out, HB1.out⟩
  case true =>
  have c0 := HT.out.c0
  have c2 := HT.out.c2
  have hgl := HT.out.lt
  have hl0 := HT.out.s0
  obtain ⟨ao, cap, hAe, _⟩ := own_slice HT.out.o0
  rw [hAe] at c0
  go_wp2_with fail
  have HF := Lib.hid (find_any (w := w1) _ r.l0 HT.out.o0 HT.out.s0 nm)
  rw [hAe] at HF
  refine HF.out.mono ?_; rintro e w2 ⟨rfl, rfl⟩
  clear HF
  by_cases hfe : 0 ≤ seekE nm r.l0 0
  case pos =>
    have HE := Lib.hid hfe
    go_wp2_with fail
    go_ret2
    exact Or.inl ⟨8, by decide, rfl, by rw [if_neg (by decide), if_pos HE.out], HT.out, HB1.out⟩
  case neg =>
  by_cases hlt : 2000 ≤ r.l0.length
  case pos =>
    have HE := Lib.hid hfe
    have hlt' : (2000 : Int) ≤ r.l0.length := by omega
    go_wp2_with fail
    go_ret2
    exact Or.inl ⟨9, by decide, rfl, by rw [if_neg (by decide), if_neg (by have := HE.out; omega)], HT.out, HB1.out⟩
  case neg =>
  have hlt' : ¬ (2000 : Int) ≤ r.l0.length := by omega
  have HFN := Lib.hid (show seekE nm r.l0 0 < 0 by omega)
  have HM := Lib.hid (show true = true from rfl)
  have hltL : r.l0.length < 2000 := by omega
  have hlL : r.l0.length ≤ 2000 := by omega
  go_wp2_with fail
  have hAo := HT.out.o0
  rw [hAe] at hAo
  have hBw : B ≤ w2.heap.size := Nat.le_trans HT.out.gb (Nat.le_of_lt hgl)
  have hrow4 := HT.out.row
  rw [hAe] at hrow4
  have hneg : ∀ k, (Value.slice ao r.l0.length cap).ownBlock = some k → k ≠ g := fun k hk e => own_ne_row hAo hrow4 (by decide) (by rw [hk, e])
  have rowK : ∀ w', CE (.slice ao r.l0.length cap) B r.l0.length (flatE r.l0) w2 w' → RowB w' g 49 [.slice ao r.l0.length cap, r.A1, .int .i64 r.dp] := fun w' h => hrow4.kept h.1 (fun e => hneg g e rfl)
  have cellK : ∀ w', CE (.slice ao r.l0.length cap) B r.l0.length (flatE r.l0) w2 w' → w'.cell? ⟨g, 0, none⟩ = some (.slice ao r.l0.length cap) := fun w' h => (rowK w' h).cell 0
  have depK : ∀ w', CE (.slice ao r.l0.length cap) B r.l0.length (flatE r.l0) w2 w' → w'.cell? ⟨g, 2, none⟩ = some (.int .i64 r.dp) := fun w' h => (rowK w' h).cell 2
  obtain ⟨Par, hParD⟩ : ∃ Par : Value → Prop, Par = fun ar => ar = .slice none 0 0 := ⟨_, rfl⟩
  have hPar : ∀ ar, Par ar → ∃ (za : Option Addr) (zb : Nat × Nat), ar = .slice za zb.1 zb.2 := fun ar h => by rw [hParD] at h; exact ⟨none, (0, 0), h⟩
  have hPar' : ∀ ar, Par ar → ar.oneCell' = true := fun ar h => by rw [hParD] at h; rw [h]; rfl
  have hPar0 : Par (.slice none 0 0) := by rw [hParD]
  obtain ⟨rs, hrs⟩ : ∃ rs : Int, rs = 0 := ⟨_, rfl⟩
  obtain ⟨df, hdf⟩ : ∃ df : Bool, df = false := ⟨_, rfl⟩
  have allocE : ∀ w', CE (.slice ao r.l0.length cap) B r.l0.length (flatE r.l0) w2 w' → ∀ ar, Par ar → ZR g 0 (.slice ao r.l0.length cap) B r.l0.length (flatE r.l0) w2.heap.size (.string nm) Par nm rs df r.dp 12 (w'.alloc (.cells (En.cells ⟨nm, ar, rs, df, r.dp, true⟩).toArray 84)) (.slice (some ⟨w'.heap.size, 0, none⟩) 1 1) ∧ CE (.slice ao r.l0.length cap) B r.l0.length (flatE r.l0) w2 (w'.alloc (.cells (En.cells ⟨nm, ar, rs, df, r.dp, true⟩).toArray 84)) ∧
      ∀ j u, j ≠ 12 → ZR g 0 (.slice ao r.l0.length cap) B r.l0.length (flatE r.l0) w2.heap.size (.string nm) Par nm rs df r.dp j w' u → ZR g 0 (.slice ao r.l0.length cap) B r.l0.length (flatE r.l0) w2.heap.size (.string nm) Par nm rs df r.dp j (w'.alloc (.cells (En.cells ⟨nm, ar, rs, df, r.dp, true⟩).toArray 84)) u := fun w' h ar ha =>
    ⟨⟨_, ar, ha, rfl, h.1.size, RowB.new _ _ _⟩, ⟨h.1.alloc _, h.2.alloc _⟩, ZR.keep (fun e => absurd rfl e) (fun _ v k ys hv => hv.alloc _)⟩
  refine wp_region_flow3 14 (by kernel_rfl) (by kernel_rfl) ?_ (ZR g 0 (Value.slice ao r.l0.length cap) B r.l0.length (flatE r.l0) w2.heap.size (.string nm) Par nm rs df r.dp) (CE (Value.slice ao r.l0.length cap) B r.l0.length (flatE r.l0) w2) ⟨(Ch.refl _ w2).drawn, hAo⟩ ?_ ?_
  · intro i o' d hi ho hd
    have : i = 0 ∨ i = 1 ∨ i = 2 ∨ i = 3 ∨ i = 4 ∨ i = 5 ∨ i = 6 ∨ i = 7 ∨ i = 8 ∨ i = 9 ∨ i = 10 ∨ i = 11 ∨ i = 12 ∨ i = 13 := by omega
    rcases this with rfl | rfl | rfl | rfl | rfl | rfl | rfl | rfl | rfl | rfl | rfl | rfl | rfl | rfl <;> (simp at ho; subst ho; simp at hd; subst hd; simp)
  · intro i o' hi ho
    have : i = 0 ∨ i = 1 ∨ i = 2 ∨ i = 3 ∨ i = 4 ∨ i = 5 ∨ i = 6 ∨ i = 7 ∨ i = 8 ∨ i = 9 ∨ i = 10 ∨ i = 11 ∨ i = 12 ∨ i = 13 := by omega
    rcases this with rfl | rfl | rfl | rfl | rfl | rfl | rfl | rfl | rfl | rfl | rfl | rfl | rfl | rfl <;> (simp at ho; subst ho; intro a w' hC hd hr; rw [if_pos (by rfl)])
    · have e0 : a.tmps.getD 0 undef = .pointer (some ⟨g, 0, none⟩) := hr 0 (free_of (by rfl))
      have e0' : a.tmps[0]?.getD undef = .pointer (some ⟨g, 0, none⟩) := by simpa using e0
      exact flow_val (v := .pointer (some ⟨g, 0, none⟩)) (by go_simp) ⟨rfl, hC, fun _ _ _ h => h⟩
    · have e0 : a.tmps.getD 0 undef = .pointer (some ⟨g, 0, none⟩) := hr 0 (free_of (by rfl))
      have e0' : a.tmps[0]?.getD undef = .pointer (some ⟨g, 0, none⟩) := by simpa using e0
      exact flow_val (v := .pointer (some ⟨g, 0, none⟩)) (by go_simp) ⟨rfl, hC, fun _ _ _ h => h⟩
    · have e26 : a.tmps.getD 26 undef = .pointer (some ⟨g, 0, none⟩) := hd ⟨1, .data⟩ (by simp) rfl _ _ rfl rfl
      have e26' : a.tmps[26]?.getD undef = .pointer (some ⟨g, 0, none⟩) := by simpa using e26
      exact flow_val (v := .pointer (some ⟨g, 0, none⟩)) (by go_simp) ⟨rfl, hC, fun _ _ _ h => h⟩
    · have e27 : a.tmps.getD 27 undef = .pointer (some ⟨g, 0, none⟩) := hd ⟨2, .data⟩ (by simp) rfl _ _ rfl rfl
      have e27' : a.tmps[27]?.getD undef = .pointer (some ⟨g, 0, none⟩) := by simpa using e27
      exact flow_val (v := .pointer (some ⟨g, 0, none⟩)) (by go_simp) ⟨rfl, hC, fun _ _ _ h => h⟩
    · have e28 : a.tmps.getD 28 undef = .pointer (some ⟨g, 0, none⟩) := hd ⟨3, .data⟩ (by simp) rfl _ _ rfl rfl
      have e28' : a.tmps[28]?.getD undef = .pointer (some ⟨g, 0, none⟩) := by simpa using e28
      have c0 : w'.cell? ⟨g, 0, none⟩ = some (Value.slice ao r.l0.length cap) := cellK w' hC
      exact flow_val (v := (Value.slice ao r.l0.length cap)) (by go_simp) ⟨rfl, hC, fun _ _ _ h => h⟩
    · have e1 : a.tmps.getD 1 undef = .string nm := hr 1 (free_of (by rfl))
      have e1' : a.tmps[1]?.getD undef = .string nm := by simpa using e1
      exact flow_val (v := .string nm) (by go_simp) ⟨rfl, hC, fun _ _ _ h => h⟩
    · have e5 : a.tmps.getD 30 undef = .string nm := hd ⟨5, .data⟩ (by simp) rfl _ _ rfl rfl
      have e5' : a.tmps[30]?.getD undef = .string nm := by simpa using e5
      subst hrs
      subst hdf
      exact flow_val (v := .agg #[.string nm, .slice none 0 0, .int .i64 0, .bool false]) (by go_simp; try rfl) ⟨⟨_, hPar0, rfl⟩, hC, fun _ _ _ h => h⟩
    · have e0 : a.tmps.getD 0 undef = .pointer (some ⟨g, 0, none⟩) := hr 0 (free_of (by rfl))
      have e0' : a.tmps[0]?.getD undef = .pointer (some ⟨g, 0, none⟩) := by simpa using e0
      exact flow_val (v := .pointer (some ⟨g, 0, none⟩)) (by go_simp) ⟨rfl, hC, fun _ _ _ h => h⟩
    · have e32 : a.tmps.getD 32 undef = .pointer (some ⟨g, 0, none⟩) := hd ⟨7, .data⟩ (by simp) rfl _ _ rfl rfl
      have e32' : a.tmps[32]?.getD undef = .pointer (some ⟨g, 0, none⟩) := by simpa using e32
      exact flow_val (v := .pointer (some ⟨g, 0, none⟩)) (by go_simp) ⟨rfl, hC, fun _ _ _ h => h⟩
    · have e33 : a.tmps.getD 33 undef = .pointer (some ⟨g, 0, none⟩) := hd ⟨8, .data⟩ (by simp) rfl _ _ rfl rfl
      have e33' : a.tmps[33]?.getD undef = .pointer (some ⟨g, 0, none⟩) := by simpa using e33
      exact flow_val (v := .pointer (some ⟨g, 2, none⟩)) (by go_simp) ⟨rfl, hC, fun _ _ _ h => h⟩
    · have e34 : a.tmps.getD 34 undef = .pointer (some ⟨g, 2, none⟩) := hd ⟨9, .data⟩ (by simp) rfl _ _ rfl rfl
      have e34' : a.tmps[34]?.getD undef = .pointer (some ⟨g, 2, none⟩) := by simpa using e34
      have c2 : w'.cell? ⟨g, 2, none⟩ = some (.int .i64 r.dp) := depK w' hC
      exact flow_val (v := .int .i64 r.dp) (by go_simp) ⟨rfl, hC, fun _ _ _ h => h⟩
    · obtain ⟨ar, ha, e6⟩ : ∃ ar, Par ar ∧ a.tmps.getD 31 undef = .agg #[.string nm, ar, .int .i64 rs, .bool df] := hd ⟨6, .data⟩ (by simp) rfl _ _ rfl rfl
      have e6' : a.tmps[31]?.getD undef = .agg #[.string nm, ar, .int .i64 rs, .bool df] := by simpa using e6
      have e35 : a.tmps.getD 35 undef = .int .i64 r.dp := hd ⟨10, .data⟩ (by simp) rfl _ _ rfl rfl
      have e35' : a.tmps[35]?.getD undef = .int .i64 r.dp := by simpa using e35
      obtain ⟨za, zb, rfl⟩ := hPar ar ha
      exact flow_val (v := .agg (En.cells ⟨nm, .slice za zb.1 zb.2, rs, df, r.dp, true⟩).toArray) (by go_simp; try rfl) ⟨⟨_, ha, rfl⟩, hC, fun _ _ _ h => h⟩
    · obtain ⟨ar, ha, e11⟩ : ∃ ar, Par ar ∧ a.tmps.getD 36 undef = .agg (En.cells ⟨nm, ar, rs, df, r.dp, true⟩).toArray := hd ⟨11, .data⟩ (by simp) rfl _ _ rfl rfl
      have e11' : a.tmps[36]?.getD undef = .agg #[.string nm, ar, .int .i64 rs, .bool df, .int .i64 r.dp, .bool true] := by simpa [En.cells] using e11
      refine flow_new (v := .slice (some ⟨w'.heap.size, 0, none⟩) 1 1) (w' := w'.alloc (.cells (En.cells ⟨nm, ar, rs, df, r.dp, true⟩).toArray 84)) (by go_simp; try rfl) ?_
      exact allocE w' hC ar ha
    · have e29 : a.tmps.getD 29 undef = (Value.slice ao r.l0.length cap) := hd ⟨4, .data⟩ (by simp) rfl _ _ rfl rfl
      have e29' : a.tmps[29]?.getD undef = (Value.slice ao r.l0.length cap) := by simpa using e29
      obtain ⟨ad, ar, ha, h31a, h31b, h31c⟩ : ∃ ad ar, Par ar ∧ a.tmps.getD 37 undef = .slice (some ⟨ad, 0, none⟩) 1 1 ∧ w2.heap.size ≤ ad ∧ RowB w' ad 84 (En.cells ⟨nm, ar, rs, df, r.dp, true⟩) := hd ⟨12, .data⟩ (by simp) rfl _ _ rfl rfl
      obtain ⟨v', w'', hr1, hr2⟩ := appE (o := 0) hC hAo hlL hBw ha (hPar' ar ha) h31b h31c
      exact flow_new (exec_append _ (.tmp 29) (.tmp 37) 47 rfl e29 h31a hr1) hr2
  · intro vs' w5 hC5 hZ
    have v0 : vs' 0 = .pointer (some ⟨g, 0, none⟩) := hZ 0 _ _ (by omega) rfl rfl
    obtain ⟨ar, ha, hoA', hatA'⟩ : ∃ ar, Par ar ∧ w5.ownsRow B 84 6 (vs' 13) (r.l0.length + 1) (flatE r.l0 ++ En.cells ⟨nm, ar, rs, df, r.dp, true⟩) ∧ ((vs' 13).ownBlock = (Value.slice ao r.l0.length cap).ownBlock ∨ ∃ g, (vs' 13).ownBlock = some g ∧ w2.heap.size ≤ g) := hZ 13 _ _ (by omega) rfl rfl
    have hrow5 := rowK _ hC5
    simp only [List.drop_succ_cons, List.drop_zero, List.take_succ_cons, List.take_zero, putAll, v0]
    obtain ⟨ao', cap', hAe', _⟩ := own_slice hoA'
    rw [hAe'] at hoA' hatA'
    simp only [hAe']
    have HP := Lib.hid (HT.out.put0 hltL (by rw [hAe]; exact hrow5) (by rw [hAe]; exact hC5.1) hoA' (by rw [hAe]; exact hatA'))
    have f5 := hrow5.free 0
    have hbl5 := hrow5.lt
    have c5 : w5.cell? ⟨g, 0, none⟩ = some (Value.slice ao r.l0.length cap) := hrow5.cell 0
    clear hZ hoA' hatA' hAe' v0 hrow5
    go_wp2
    have c6 : (w5.setCell ⟨g, 0, none⟩ (.slice ao' (r.l0.length + 1) cap')).cell? ⟨g, 0, none⟩ = some (.slice ao' (r.l0.length + 1) cap') := HP.out.1.c0
    clear hC5 c5 f5
    go_wp2
    go_ret2
    subst hrs
    subst hdf
    have ha' : ar = .slice none 0 0 := by rw [hParD] at ha; exact ha
    exact Or.inr ⟨_, ar, ha', rfl, HFN.out, hltL, by simp; try omega, HP.out.1, Ch.trans (Ch.ofBelow HB1.out) HP.out.2⟩
end Go.Proofs.Ytggbnjdbbomjoaa
