/- The reference's DeclareFun. -/
import Derived.Test.YtggbnjdbbomjoaaSorT
namespace Go.Proofs.Ytggbnjdbbomjoaa
open Go Go.RowKit Go.Proofs.YtggbnjdbbomjoaaW.PrintWords Go.Proofs.Ytggbnjdbbomjoaa.PSortsScopes
/-- what is told of the reference's DeclareFun -/
def RDeclF (B : Nat) (w : World) (g : Nat) (r : Rt) (f : Fd) (mr : Bool) (e : Ending) (w' : World) : Prop :=
  (∃ er : Int, er ≠ 0 ∧ e = .returned (.tuple #[.int .i64 0, .int .i64 er]) ∧ RTab B w' g r ∧ Below w.heap.size w w') ∨
  (∃ A' ar, mr = true ∧ seekE f.nm r.l1 0 < 0 ∧ r.l1.length < 2000 ∧ e = .returned (.tuple #[.int .i64 r.l1.length, .int .i64 0]) ∧ RTab B w' g { r with A1 := A', l1 := r.l1 ++ [⟨f.nm, ar, f.res, f.df, r.dp, true⟩] } ∧ Ch (ROwn g r) w w')
set_option maxRecDepth 100000 in
set_option maxHeartbeats 2000000 in
theorem rdeclareFun_any {B : Nat} {w : World} {g : Nat} {r : Rt} (h : RTab B w g r) (nm : ByteArray) (A3 : Option Addr) (c3 : Nat) (la : List Int) (rs : Int) (df : Bool) (hl : la.length ≤ 40) (hI : ∀ z ∈ la, I64 z) (hrs : I64 rs)
    (mr : Bool) (k0 : Nat) (hm : juristref05_May.f k0 nm false = some mr)
    (hrd : ∀ k, k < la.length → ∃ ad bb oo, A3 = some ad ∧ ad.add k = ⟨bb, oo, none⟩ ∧ bb < B ∧ w.cell? ⟨bb, oo, none⟩ = some (.int .i64 (la.getD k 0)))
    (hcp : ∀ w', Below B w w' → Calls Try.prog 31 #[.agg #[.string nm, .slice A3 la.length c3, .int .i64 rs, .bool df]] w' fun e w'' => ∃ (za : Option Addr) (zb : Nat × Nat), e = .returned (.agg #[.string nm, .slice za zb.1 zb.2, .int .i64 rs, .bool df]) ∧ Below w'.heap.size w' w'') :
    Calls Try.prog 34 #[.pointer (some ⟨g, 0, none⟩), .agg #[.string nm, .slice A3 la.length c3, .int .i64 rs, .bool df]] w (RDeclF B w g r ⟨nm, .slice A3 la.length c3, rs, df⟩ mr) := by
  have HMC := Lib.hid (fun w1 => juristref05_May.calls k0 nm false mr w1 hm)
  have HCP := Lib.hid hcp
  have HRD := Lib.hid hrd
  have HI := Lib.hid hI
  have HT0 := Lib.hid h
  have hBw0 : B ≤ w.heap.size := Nat.le_trans h.gb (Nat.le_of_lt h.lt)
  have HBX := Lib.hid (And.intro ((Below.refl w.heap.size w).alloc (Nat.le_refl _) (.cells (Fd.cells ⟨nm, .slice A3 la.length c3, rs, df⟩).toArray 30)) (RowB.new w (Fd.cells ⟨nm, .slice A3 la.length c3, rs, df⟩) 30))
  clear h hm hcp hrd hI
  go_enter Try.func34, Try.ntmps34
  go_wp2_with fail
  refine (HMC.out _).mono ?_; rintro e w1 ⟨rfl, hdr⟩
  have hb1 : Below w.heap.size w w1 := HBX.out.1.trans ((Drawn0.below hdr).mono (by simp))
  have hx1 : RowB w1 w.heap.size 30 (Fd.cells ⟨nm, .slice A3 la.length c3, rs, df⟩) := HBX.out.2.kept (S := fun _ => False) (Ch.ofBelow (Drawn0.below hdr)) (fun e => e)
  have HT := Lib.hid (HT0.out.below hb1)
  have HB1 := Lib.hid hb1
  have HX1 := Lib.hid hx1
  clear HMC hdr hb1 hx1 HBX
  have xl := HX1.out.lt
  have x0 : w1.cell? ⟨w.heap.size, 0, none⟩ = some (.string nm) := HX1.out.cell 0
  have x1 : w1.cell? ⟨w.heap.size, 1, none⟩ = some (.slice A3 la.length c3) := HX1.out.cell 1
  have x2 : w1.cell? ⟨w.heap.size, 2, none⟩ = some (.int .i64 rs) := HX1.out.cell 2
  have x3 : w1.cell? ⟨w.heap.size, 3, none⟩ = some (.bool df) := HX1.out.cell 3
  generalize hfb : w.heap.size = fb at *
  have HFB := Lib.hid hfb
  clear hfb
  cases mr
  case false =>
    go_wp2_with fail
    go_ret2
    exact Or.inl ⟨50, by decide, rfl, HT.out, by rw [HFB.out]; exact HB1.out⟩
  case true =>
  by_cases hl20 : 20 < la.length
  case pos =>
    have hl' : (20 : Int) < la.length := by omega
    go_wp2_with fail
    go_ret2
    exact Or.inl ⟨3, by decide, rfl, HT.out, by rw [HFB.out]; exact HB1.out⟩
  case neg =>
  have hl' : ¬ (20 : Int) < la.length := by omega
  go_wp2_with fail
  go_loopw [6] (fun vi wr => ∃ k : Nat, vi = .int .i64 k ∧ k ≤ la.length ∧ wr = w1) (fun vi _ => la.length - (intOf vi).toNat)
  case atStart => exact ⟨0, rfl, by omega, rfl⟩
  case round =>
    obtain ⟨k, rfl, hk, rfl⟩ := hrel
    by_cases hkl : k < la.length
    case pos =>
      have hkl' : (k : Int) < la.length := by omega
      obtain ⟨ad, bb, oo, rfl, hadd, hbb, hcell⟩ := HRD.out k hkl
      have hcell1 : wr.cell? ⟨bb, oo, none⟩ = some (.int .i64 (la.getD k 0)) := by
        rw [← hcell]
        exact (show Below B w wr from HB1.out.mono hBw0).cell (p := ⟨bb, oo, none⟩) hbb
      have hzz : I64 (la.getD k 0) := by
        have : la.getD k 0 = la[k] := by simp [hkl]
        rw [this]
        exact HI.out _ (List.getElem_mem hkl)
      have HST := Lib.hid (stands_any HT.out (la.getD k 0) hzz)
      generalize la.getD k 0 = z at *
      clear hcell hzz
      go_wp2_with fail
      refine HST.out.mono ?_; rintro e w2 ⟨⟨bv, rfl⟩, rfl⟩
      clear HST
      cases bv
      · go_wp2_with fail
        go_ret2
        exact Or.inl ⟨7, by decide, rfl, HT.out, by rw [HFB.out]; exact HB1.out⟩
      · go_wp2_with fail
        go_roundw
        case rel => exact ⟨k + 1, by go_num, by omega, by trivial⟩
        case measure => simp [intOf]; omega
    case neg =>
    have hkl' : ¬ (k : Int) < la.length := by omega
    have HST := Lib.hid (stands_any HT.out rs hrs)
    go_wp2_with fail
    refine HST.out.mono ?_; rintro e w2 ⟨⟨bv, rfl⟩, rfl⟩
    clear HST
    cases bv
    case false =>
      go_wp2_with fail
      go_ret2
      exact Or.inl ⟨7, by decide, rfl, HT.out, by rw [HFB.out]; exact HB1.out⟩
    case true =>
    have c1 := HT.out.c1
    have hgl := HT.out.lt
    have hs1 := HT.out.s1
    obtain ⟨ao, cap, hAe, _⟩ := own_slice HT.out.o1
    rw [hAe] at c1
    go_wp2_with fail
    have HF := Lib.hid (show ∀ w', Below w2.heap.size w2 w' → Calls Try.prog 43 #[.slice ao r.l1.length cap, .string nm] w' fun e w'' => e = .returned (.int .i64 (seekE nm r.l1 0)) ∧ Below w'.heap.size w' w'' from fun w' hb' => by
      have h1 := (HT.out.below hb').o1
      rw [hAe] at h1
      exact (find_any (w := w') _ r.l1 h1 HT.out.s1 nm).mono fun e w'' q => ⟨q.1, by rw [q.2]; exact Below.refl _ _⟩)
    refine wp_region_below (by kernel_rfl) (by kernel_rfl) ?_
    (refine wq_val (by rfl) (fun w' hw' => by obtain ⟨hc, hf⟩ := bcell hw'; go_simp; try rfl) ?_; (intro K hK; go_simp; refine hK _ ?_; clear hK K))
    (refine wq_val (by rfl) (fun w' hw' => by obtain ⟨hc, hf⟩ := bcell hw'; go_simp; try rfl) ?_; (intro K hK; go_simp; refine hK _ ?_; clear hK K))
    (refine wq_val (by rfl) (fun w' hw' => by obtain ⟨hc, hf⟩ := bcell hw'; go_simp; try rfl) ?_; (intro K hK; go_simp; refine hK _ ?_; clear hK K))
    (refine wq_val (by rfl) (fun w' hw' => by obtain ⟨hc, hf⟩ := bcell hw'; go_simp; try rfl) ?_; (intro K hK; go_simp; refine hK _ ?_; clear hK K))
    (refine wq_val (by rfl) (fun w' hw' => by obtain ⟨hc, hf⟩ := bcell hw'; go_simp; try rfl) ?_; (intro K hK; go_simp; refine hK _ ?_; clear hK K))
    (refine wq_val (by rfl) (fun w' hw' => by obtain ⟨hc, hf⟩ := bcell hw'; go_simp; try rfl) ?_; (intro K hK; go_simp; refine hK _ ?_; clear hK K))
    (refine wq_call (by rfl) (fun w' hw' => by go_simp; try rfl) (fun w' hw' => call_below hw' (HF.out _ hw')) ?_; (intro K hK; go_simp; refine hK _ ?_; clear hK K))
    (refine wq_val (by rfl) (fun w' hw' => by obtain ⟨hc, hf⟩ := bcell hw'; go_simp; try rfl) ?_; (intro K hK; go_simp; refine hK _ ?_; clear hK K))
    (refine wq_val (by rfl) (fun w' hw' => by obtain ⟨hc, hf⟩ := bcell hw'; go_simp; try rfl) ?_; (intro K hK; go_simp; refine hK _ ?_; clear hK K))
    refine wpQuiet_nil ?_; intro w4 hb4
    have HT4 := Lib.hid (HT.out.below hb4)
    have hb14 : Below fb w w4 := HB1.out.trans (hb4.mono (by omega))
    have hx4 := HX1.out.kept (S := fun _ => False) (Ch.ofBelow hb4) (fun e => e)
    have HB4 := Lib.hid hb14
    have HX4 := Lib.hid hx4
    clear x0 x1 x2 x3 c1 hgl xl HF hb4 hb14 hx4
    have c1 := HT4.out.c1
    have c2 := HT4.out.c2
    have hgl := HT4.out.lt
    have xl := HX4.out.lt
    rw [hAe] at c1
    clear HT
    have HT := HT4
    by_cases hfe : 0 ≤ seekE nm r.l1 0
    case pos =>
      go_wp2_with fail
      go_ret2
      exact Or.inl ⟨8, by decide, rfl, HT.out, by rw [HFB.out]; exact HB4.out⟩
    case neg =>
    by_cases hlt : 2000 ≤ r.l1.length
    case pos =>
      have hlt' : (2000 : Int) ≤ r.l1.length := by omega
      go_wp2_with fail
      go_ret2
      exact Or.inl ⟨9, by decide, rfl, HT.out, by rw [HFB.out]; exact HB4.out⟩
    case neg =>
    have hlt' : ¬ (2000 : Int) ≤ r.l1.length := by omega
    have HFN := Lib.hid (show seekE nm r.l1 0 < 0 by omega)
    have hltL : r.l1.length < 2000 := by omega
    have hlL : r.l1.length ≤ 2000 := by omega
    go_wp2_with fail
    have hAo := HT.out.o1
    rw [hAe] at hAo
    have hBw : B ≤ w4.heap.size := Nat.le_trans HT.out.gb (Nat.le_of_lt hgl)
    have hrow4 := HT.out.row
    rw [hAe] at hrow4
    have hneg : ∀ k, (Value.slice ao r.l1.length cap).ownBlock = some k → k ≠ g := fun k hk e => own_ne_row hAo hrow4 (by decide) (by rw [hk, e])
    have hnef : ∀ k, (Value.slice ao r.l1.length cap).ownBlock = some k → k ≠ fb := fun k hk e => own_ne_row hAo HX4.out (by decide) (by rw [hk, e])
    have rowK : ∀ w', CE (.slice ao r.l1.length cap) B r.l1.length (flatE r.l1) w4 w' → RowB w' g 49 [r.A0, .slice ao r.l1.length cap, .int .i64 r.dp] := fun w' h => hrow4.kept h.1 (fun e => hneg g e rfl)
    have fbK : ∀ w', CE (.slice ao r.l1.length cap) B r.l1.length (flatE r.l1) w4 w' → CellsAt w' fb 0 (Fd.cells ⟨nm, .slice A3 la.length c3, rs, df⟩) := fun w' h => (HX4.out.kept h.1 (fun e => hnef fb e rfl)).at
    have lowK : ∀ w', CE (.slice ao r.l1.length cap) B r.l1.length (flatE r.l1) w4 w' → Below B w w' := fun w' h => (HB4.out.mono hBw0).trans (h.1.below hBw (fun k hk => (hAo.lt k hk).1))
    have cellK : ∀ w', CE (.slice ao r.l1.length cap) B r.l1.length (flatE r.l1) w4 w' → w'.cell? ⟨g, 1, none⟩ = some (.slice ao r.l1.length cap) := fun w' h => (rowK w' h).cell 1
    have depK : ∀ w', CE (.slice ao r.l1.length cap) B r.l1.length (flatE r.l1) w4 w' → w'.cell? ⟨g, 2, none⟩ = some (.int .i64 r.dp) := fun w' h => (rowK w' h).cell 2
    obtain ⟨Par, hParD⟩ : ∃ Par : Value → Prop, Par = fun ar => ∃ (za : Option Addr) (zb : Nat × Nat), ar = .slice za zb.1 zb.2 := ⟨_, rfl⟩
    have hPar : ∀ ar, Par ar → ∃ (za : Option Addr) (zb : Nat × Nat), ar = .slice za zb.1 zb.2 := fun ar h => by rw [hParD] at h; exact h
    have hPar' : ∀ ar, Par ar → ar.oneCell' = true := fun ar h => by obtain ⟨za, zb, rfl⟩ := hPar ar h; rfl
    have hPar0 : ∀ (za : Option Addr) (zb : Nat × Nat), Par (.slice za zb.1 zb.2) := fun za zb => by rw [hParD]; exact ⟨za, zb, rfl⟩
    have allocE : ∀ w', CE (.slice ao r.l1.length cap) B r.l1.length (flatE r.l1) w4 w' → ∀ ar, Par ar → ZR g 1 (.slice ao r.l1.length cap) B r.l1.length (flatE r.l1) w4.heap.size (.agg (Fd.cells ⟨nm, .slice A3 la.length c3, rs, df⟩).toArray) Par nm rs df r.dp 12 (w'.alloc (.cells (En.cells ⟨nm, ar, rs, df, r.dp, true⟩).toArray 84)) (.slice (some ⟨w'.heap.size, 0, none⟩) 1 1) ∧ CE (.slice ao r.l1.length cap) B r.l1.length (flatE r.l1) w4 (w'.alloc (.cells (En.cells ⟨nm, ar, rs, df, r.dp, true⟩).toArray 84)) ∧
        ∀ j u, j ≠ 12 → ZR g 1 (.slice ao r.l1.length cap) B r.l1.length (flatE r.l1) w4.heap.size (.agg (Fd.cells ⟨nm, .slice A3 la.length c3, rs, df⟩).toArray) Par nm rs df r.dp j w' u → ZR g 1 (.slice ao r.l1.length cap) B r.l1.length (flatE r.l1) w4.heap.size (.agg (Fd.cells ⟨nm, .slice A3 la.length c3, rs, df⟩).toArray) Par nm rs df r.dp j (w'.alloc (.cells (En.cells ⟨nm, ar, rs, df, r.dp, true⟩).toArray 84)) u := fun w' h ar ha =>
      ⟨⟨_, ar, ha, rfl, h.1.size, RowB.new _ _ _⟩, ⟨h.1.alloc _, h.2.alloc _⟩, ZR.keep (fun e => absurd rfl e) (fun _ v k ys hv => hv.alloc _)⟩
    refine wp_region_flow3 14 (by kernel_rfl) (by kernel_rfl) ?_ (ZR g 1 (Value.slice ao r.l1.length cap) B r.l1.length (flatE r.l1) w4.heap.size (.agg (Fd.cells ⟨nm, .slice A3 la.length c3, rs, df⟩).toArray) Par nm rs df r.dp) (CE (Value.slice ao r.l1.length cap) B r.l1.length (flatE r.l1) w4) ⟨(Ch.refl _ w4).drawn, hAo⟩ ?_ ?_
    · intro i o' d hi ho hd
      have : i = 0 ∨ i = 1 ∨ i = 2 ∨ i = 3 ∨ i = 4 ∨ i = 5 ∨ i = 6 ∨ i = 7 ∨ i = 8 ∨ i = 9 ∨ i = 10 ∨ i = 11 ∨ i = 12 ∨ i = 13 := by omega
      rcases this with rfl | rfl | rfl | rfl | rfl | rfl | rfl | rfl | rfl | rfl | rfl | rfl | rfl | rfl <;> (simp at ho; subst ho; simp at hd; subst hd; simp)
    · intro i o' hi ho
      have : i = 0 ∨ i = 1 ∨ i = 2 ∨ i = 3 ∨ i = 4 ∨ i = 5 ∨ i = 6 ∨ i = 7 ∨ i = 8 ∨ i = 9 ∨ i = 10 ∨ i = 11 ∨ i = 12 ∨ i = 13 := by omega
      rcases this with rfl | rfl | rfl | rfl | rfl | rfl | rfl | rfl | rfl | rfl | rfl | rfl | rfl | rfl <;> (simp at ho; subst ho; intro a w' hC hd hr; rw [if_pos (by rfl)])
      · have e0 : a.tmps.getD 0 undef = .pointer (some ⟨g, 0, none⟩) := hr 0 (free_of (by rfl))
        have e0' : a.tmps[0]?.getD undef = .pointer (some ⟨g, 0, none⟩) := by simpa using e0
        exact flow_val (v := .pointer (some ⟨g, 0, none⟩)) (by go_simp) ⟨rfl, hC, fun _ _ _ h => h⟩
      · have e0 : a.tmps.getD 0 undef = .pointer (some ⟨g, 0, none⟩) := hr 0 (free_of (by rfl))
        have e0' : a.tmps[0]?.getD undef = .pointer (some ⟨g, 0, none⟩) := by simpa using e0
        exact flow_val (v := .pointer (some ⟨g, 0, none⟩)) (by go_simp) ⟨rfl, hC, fun _ _ _ h => h⟩
      · have e53 : a.tmps.getD 53 undef = .pointer (some ⟨g, 0, none⟩) := hd ⟨1, .data⟩ (by simp) rfl _ _ rfl rfl
        have e53' : a.tmps[53]?.getD undef = .pointer (some ⟨g, 0, none⟩) := by simpa using e53
        exact flow_val (v := .pointer (some ⟨g, 0, none⟩)) (by go_simp) ⟨rfl, hC, fun _ _ _ h => h⟩
      · have e54 : a.tmps.getD 54 undef = .pointer (some ⟨g, 0, none⟩) := hd ⟨2, .data⟩ (by simp) rfl _ _ rfl rfl
        have e54' : a.tmps[54]?.getD undef = .pointer (some ⟨g, 0, none⟩) := by simpa using e54
        exact flow_val (v := .pointer (some ⟨g, 1, none⟩)) (by go_simp) ⟨rfl, hC, fun _ _ _ h => h⟩
      · have e55 : a.tmps.getD 55 undef = .pointer (some ⟨g, 1, none⟩) := hd ⟨3, .data⟩ (by simp) rfl _ _ rfl rfl
        have e55' : a.tmps[55]?.getD undef = .pointer (some ⟨g, 1, none⟩) := by simpa using e55
        have c0 : w'.cell? ⟨g, 1, none⟩ = some (Value.slice ao r.l1.length cap) := cellK w' hC
        exact flow_val (v := (Value.slice ao r.l1.length cap)) (by go_simp) ⟨rfl, hC, fun _ _ _ h => h⟩
      · have e3 : a.tmps.getD 3 undef = .pointer (some ⟨fb, 0, none⟩) := hr 3 (free_of (by rfl))
        exact flow_val (run_load_cells 30 (.tmp 3) rfl fb 0 e3 (Fd.cells ⟨nm, .slice A3 la.length c3, rs, df⟩) _ Try.underlying30 rfl (by kernel_rfl) (fbK w' hC)) ⟨rfl, hC, fun _ _ _ h => h⟩
      · have e5 : a.tmps.getD 57 undef = .agg #[.string nm, .slice A3 la.length c3, .int .i64 rs, .bool df] := hd ⟨5, .data⟩ (by simp) rfl _ _ rfl rfl
        have e5' : a.tmps[57]?.getD undef = .agg #[.string nm, .slice A3 la.length c3, .int .i64 rs, .bool df] := by simpa using e5
        refine flow_call (f := 31) (args := #[.agg #[.string nm, .slice A3 la.length c3, .int .i64 rs, .bool df]]) (by go_simp) ?_
        refine (HCP.out w' (lowK w' hC)).mono fun e w'' hw => ?_
        obtain ⟨za, zb, rfl, hb⟩ := hw
        exact ⟨_, rfl, ⟨_, hPar0 za zb, rfl⟩, ⟨hC.1.trans (Ch.ofBelow hb), ownsRow_ch (S := fun _ => False) hC.2 (Ch.ofBelow hb) (fun _ _ e => e)⟩, ZR.keep (fun _ ad cs _ hq => hq.kept (S := fun _ => False) (Ch.ofBelow hb) (fun e => e)) (fun _ v k ys hv => ownsRow_ch (S := fun _ => False) hv (Ch.ofBelow hb) (fun _ _ e => e))⟩
      · have e0 : a.tmps.getD 0 undef = .pointer (some ⟨g, 0, none⟩) := hr 0 (free_of (by rfl))
        have e0' : a.tmps[0]?.getD undef = .pointer (some ⟨g, 0, none⟩) := by simpa using e0
        exact flow_val (v := .pointer (some ⟨g, 0, none⟩)) (by go_simp) ⟨rfl, hC, fun _ _ _ h => h⟩
      · have e59 : a.tmps.getD 59 undef = .pointer (some ⟨g, 0, none⟩) := hd ⟨7, .data⟩ (by simp) rfl _ _ rfl rfl
        have e59' : a.tmps[59]?.getD undef = .pointer (some ⟨g, 0, none⟩) := by simpa using e59
        exact flow_val (v := .pointer (some ⟨g, 0, none⟩)) (by go_simp) ⟨rfl, hC, fun _ _ _ h => h⟩
      · have e60 : a.tmps.getD 60 undef = .pointer (some ⟨g, 0, none⟩) := hd ⟨8, .data⟩ (by simp) rfl _ _ rfl rfl
        have e60' : a.tmps[60]?.getD undef = .pointer (some ⟨g, 0, none⟩) := by simpa using e60
        exact flow_val (v := .pointer (some ⟨g, 2, none⟩)) (by go_simp) ⟨rfl, hC, fun _ _ _ h => h⟩
      · have e61 : a.tmps.getD 61 undef = .pointer (some ⟨g, 2, none⟩) := hd ⟨9, .data⟩ (by simp) rfl _ _ rfl rfl
        have e61' : a.tmps[61]?.getD undef = .pointer (some ⟨g, 2, none⟩) := by simpa using e61
        have c2 : w'.cell? ⟨g, 2, none⟩ = some (.int .i64 r.dp) := depK w' hC
        exact flow_val (v := .int .i64 r.dp) (by go_simp) ⟨rfl, hC, fun _ _ _ h => h⟩
      · obtain ⟨ar, ha, e6⟩ : ∃ ar, Par ar ∧ a.tmps.getD 58 undef = .agg #[.string nm, ar, .int .i64 rs, .bool df] := hd ⟨6, .data⟩ (by simp) rfl _ _ rfl rfl
        have e6' : a.tmps[58]?.getD undef = .agg #[.string nm, ar, .int .i64 rs, .bool df] := by simpa using e6
        have e62 : a.tmps.getD 62 undef = .int .i64 r.dp := hd ⟨10, .data⟩ (by simp) rfl _ _ rfl rfl
        have e62' : a.tmps[62]?.getD undef = .int .i64 r.dp := by simpa using e62
        obtain ⟨za, zb, rfl⟩ := hPar ar ha
        exact flow_val (v := .agg (En.cells ⟨nm, .slice za zb.1 zb.2, rs, df, r.dp, true⟩).toArray) (by go_simp; try rfl) ⟨⟨_, ha, rfl⟩, hC, fun _ _ _ h => h⟩
      · obtain ⟨ar, ha, e11⟩ : ∃ ar, Par ar ∧ a.tmps.getD 63 undef = .agg (En.cells ⟨nm, ar, rs, df, r.dp, true⟩).toArray := hd ⟨11, .data⟩ (by simp) rfl _ _ rfl rfl
        have e11' : a.tmps[63]?.getD undef = .agg #[.string nm, ar, .int .i64 rs, .bool df, .int .i64 r.dp, .bool true] := by simpa [En.cells] using e11
        refine flow_new (v := .slice (some ⟨w'.heap.size, 0, none⟩) 1 1) (w' := w'.alloc (.cells (En.cells ⟨nm, ar, rs, df, r.dp, true⟩).toArray 84)) (by go_simp; try rfl) ?_
        exact allocE w' hC ar ha
      · have e56 : a.tmps.getD 56 undef = (Value.slice ao r.l1.length cap) := hd ⟨4, .data⟩ (by simp) rfl _ _ rfl rfl
        have e56' : a.tmps[56]?.getD undef = (Value.slice ao r.l1.length cap) := by simpa using e56
        obtain ⟨ad, ar, ha, h31a, h31b, h31c⟩ : ∃ ad ar, Par ar ∧ a.tmps.getD 64 undef = .slice (some ⟨ad, 0, none⟩) 1 1 ∧ w4.heap.size ≤ ad ∧ RowB w' ad 84 (En.cells ⟨nm, ar, rs, df, r.dp, true⟩) := hd ⟨12, .data⟩ (by simp) rfl _ _ rfl rfl
        obtain ⟨v', w'', hr1, hr2⟩ := appE (o := 1) hC hAo hlL hBw ha (hPar' ar ha) h31b h31c
        exact flow_new (exec_append _ (.tmp 56) (.tmp 64) 47 rfl e56 h31a hr1) hr2
    · intro vs' w5 hC5 hZ
      have v0 : vs' 0 = .pointer (some ⟨g, 0, none⟩) := hZ 0 _ _ (by omega) rfl rfl
      obtain ⟨ar, ha, hoA', hatA'⟩ : ∃ ar, Par ar ∧ w5.ownsRow B 84 6 (vs' 13) (r.l1.length + 1) (flatE r.l1 ++ En.cells ⟨nm, ar, rs, df, r.dp, true⟩) ∧ ((vs' 13).ownBlock = (Value.slice ao r.l1.length cap).ownBlock ∨ ∃ g, (vs' 13).ownBlock = some g ∧ w4.heap.size ≤ g) := hZ 13 _ _ (by omega) rfl rfl
      have hrow5 := rowK _ hC5
      simp only [List.drop_succ_cons, List.drop_zero, List.take_succ_cons, List.take_zero, putAll, v0]
      obtain ⟨ao', cap', hAe', _⟩ := own_slice hoA'
      rw [hAe'] at hoA' hatA'
      simp only [hAe']
      have HP := Lib.hid (HT.out.put1 hltL (by rw [hAe]; exact hrow5) (by rw [hAe]; exact hC5.1) hoA' (by rw [hAe]; exact hatA'))
      have f5 := hrow5.free 1
      have hbl5 := hrow5.lt
      have c5 : w5.cell? ⟨g, 1, none⟩ = some (Value.slice ao r.l1.length cap) := hrow5.cell 1
      clear hZ hoA' hatA' hAe' v0 hrow5
      go_wp2
      have c6 : (w5.setCell ⟨g, 1, none⟩ (.slice ao' (r.l1.length + 1) cap')).cell? ⟨g, 1, none⟩ = some (.slice ao' (r.l1.length + 1) cap') := HP.out.1.c1
      clear hC5 c5 f5
      go_wp2
      go_ret2
      exact Or.inr ⟨_, ar, rfl, HFN.out, hltL, by simp; try omega, HP.out.1, Ch.trans (Ch.ofBelow (by rw [HFB.out]; exact HB4.out)) HP.out.2⟩
end Go.Proofs.Ytggbnjdbbomjoaa
