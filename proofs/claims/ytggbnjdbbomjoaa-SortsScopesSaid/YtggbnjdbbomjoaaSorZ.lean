/- SortsScopes: the walk of the law. -/
import Derived.Test.YtggbnjdbbomjoaaSorZa
import Derived.Test.YtggbnjdbbomjoaaMc
namespace Go.Proofs.Ytggbnjdbbomjoaa
open Go Go.RowKit Go.Proofs.YtggbnjdbbomjoaaW.PrintWords Go.Proofs.Ytggbnjdbbomjoaa.PSortsScopes
theorem known_calls (w : World) : Calls Try.prog 7 #[] w fun e w' => e = .returned (.bool true) ∧ Below w.heap.size w w' :=
  calls_run tabOk known_run (fun _ => VRs.nil)
/-- the values of the operations of the test, a pop -/
def ZL (ad : Addr) (ml c1 k bb oo b : Nat) (nn : Int) (l1 l0 : Nat) : Nat → Value → Prop
  | 0, v => v = .slice (some ad) ml c1
  | 1, v => v = .int .i64 k
  | 2, v => v = .pointer (some ⟨bb, oo, none⟩)
  | 3, v => v = .pointer (some ⟨bb, oo, none⟩)
  | 4, v => v = .int .i64 3
  | 5, v => v = .bool false
  | 6, v => v = .bool false
  | 7, v => v = .slice (some ad) ml c1
  | 8, v => v = .int .i64 k
  | 9, v => v = .pointer (some ⟨bb, oo, none⟩)
  | 10, v => v = .pointer (some ⟨bb, oo + 1, none⟩)
  | 11, v => v = .int .i64 nn
  | 12, v => v = .pointer (some ⟨b, 0, none⟩)
  | 13, v => v = .int .i64 l1
  | 14, v => v = .int .i64 l0
  | 15, v => v = .int .i64 ((l1 : Int) - l0)
  | 16, v => v = .int .i64 ((l1 : Int) - l0 - 1)
  | _, v => v = .bool (decide (nn ≤ (l1 : Int) - l0 - 1))
/-- the values of the operations of the test, no pop -/
def ZM (ad : Addr) (ml c1 k bb oo _b : Nat) (kd : Int) (_nn : Int) (_l1 _l0 : Nat) : Nat → Value → Prop
  | 0, v => v = .slice (some ad) ml c1
  | 1, v => v = .int .i64 k
  | 2, v => v = .pointer (some ⟨bb, oo, none⟩)
  | 3, v => v = .pointer (some ⟨bb, oo, none⟩)
  | 4, v => v = .int .i64 kd
  | 5, v => v = .bool true
  | 6, v => v = .bool true
  | 7, v => v = undef
  | 8, v => v = undef
  | 9, v => v = undef
  | 10, v => v = undef
  | 11, v => v = undef
  | 12, v => v = undef
  | 13, v => v = undef
  | 14, v => v = undef
  | 15, v => v = undef
  | 16, v => v = undef
  | _, v => v = undef
/-- the values of the operations of the last tests -/
def ZF145 (gn gw k n c0 c1 : Nat) (z : Int) : Nat → Value → Prop
  | 0, v => v = .slice (some ⟨gn, 0, none⟩) n c0
  | 1, v => v = .int .i64 k
  | 2, v => v = .pointer (some ⟨gn, k, none⟩)
  | 3, v => v = .int .i64 z
  | 4, v => v = .slice (some ⟨gw, 0, none⟩) n c1
  | 5, v => v = .int .i64 k
  | 6, v => v = .pointer (some ⟨gw, k, none⟩)
  | 7, v => v = .int .i64 z
  | 8, v => v = .bool false
  | 9, v => v = .bool false
  | 10, v => v = .int .i64 0
  | 11, v => v = .bool false
  | 12, v => v = .bool false
  | 13, v => v = .bool false
  | 14, v => v = .int .i64 0
  | 15, v => v = .bool false
  | 16, v => v = .bool false
  | 17, v => v = .bool false
  | 18, v => v = .int .i64 z
  | 19, v => v = .slice (some ⟨gw, 0, none⟩) n c1
  | 20, v => v = .int .i64 k
  | 21, v => v = .pointer (some ⟨gw, k, none⟩)
  | 22, v => v = .int .i64 z
  | _, v => v = .bool false
/-- the values of the operations of the last tests -/
def ZF192 (gn gw k n c0 c1 : Nat) (z : Int) : Nat → Value → Prop
  | 0, v => v = .slice (some ⟨gn, 0, none⟩) n c0
  | 1, v => v = .int .i64 k
  | 2, v => v = .pointer (some ⟨gn, k, none⟩)
  | 3, v => v = .int .i64 z
  | 4, v => v = .slice (some ⟨gw, 0, none⟩) n c1
  | 5, v => v = .int .i64 k
  | 6, v => v = .pointer (some ⟨gw, k, none⟩)
  | 7, v => v = .int .i64 z
  | 8, v => v = .bool false
  | 9, v => v = .bool false
  | 10, v => v = .int .i64 0
  | 11, v => v = .bool false
  | 12, v => v = .bool false
  | 13, v => v = .bool false
  | 14, v => v = .int .i64 0
  | 15, v => v = .bool false
  | 16, v => v = .bool false
  | 17, v => v = .bool false
  | 18, v => v = .int .i64 z
  | 19, v => v = .slice (some ⟨gw, 0, none⟩) n c1
  | 20, v => v = .int .i64 k
  | 21, v => v = .pointer (some ⟨gw, k, none⟩)
  | 22, v => v = .int .i64 z
  | _, v => v = .bool false
/-- the numbers of a call's words are such -/
def WideOp (x : S32) : Prop := (∀ z ∈ x.f2.f1, I64 z) ∧ I64 x.f2.f2
/-- at the head of a round of the first loop -/
def I1 (w : World) (B b g : Nat) (wr : World) : Prop := ∃ x y r, STab B wr b x y ∧ RTab B wr g r ∧ LawI x y ∧ Below w.heap.size w wr
/-- at the head of a round of the second loop -/
def I2 (w : World) (B b g : Nat) (x0 y0 : Nm) (vw vh : Value) (lw lh : List Int) (wr : World) : Prop :=
  ∃ x y r, STab B wr b x y ∧ RTab B wr g r ∧ ScI x0 y0 x y ∧ Below w.heap.size w wr ∧ Was wr vw lw ∧ Had wr x y vh lh
/-- at the head of a round of the last loops -/
def I3 (w : World) (B b : Nat) (x y : Nm) (vw vh vn vf : Value) (ln lf : List Int) (wr : World) : Prop :=
  STab B wr b x y ∧ Was wr vw ln ∧ wr.ownsRow 0 3 1 vh lf.length (lf.map (Value.int .i64)) ∧ Was wr vn ln ∧ wr.ownsRow 0 3 1 vf lf.length (lf.map (Value.int .i64)) ∧ Below w.heap.size w wr
theorem I3.below {w : World} {B b : Nat} {x y : Nm} {vw vh vn vf : Value} {ln lf : List Int} {wr w' : World} (h : I3 w B b x y vw vh vn vf ln lf wr) (hb : Below wr.heap.size wr w') : I3 w B b x y vw vh vn vf ln lf w' :=
  ⟨h.1.below hb, h.2.1.below hb, ownsRow_ch (S := fun _ => False) h.2.2.1 (Ch.ofBelow hb) (fun _ _ e => e), h.2.2.2.1.below hb, ownsRow_ch (S := fun _ => False) h.2.2.2.2.1 (Ch.ofBelow hb) (fun _ _ e => e), h.2.2.2.2.2.trans (hb.mono h.2.2.2.2.2.size)⟩
theorem Was.cell {w : World} {v : Value} {l : List Int} (h : Was w v l) {k : Nat} (hk : k < l.length) : ∃ g cap, v = .slice (some ⟨g, 0, none⟩) l.length cap ∧ w.cell? ⟨g, k, none⟩ = some (.int .i64 (l[k] + 2)) := by
  obtain ⟨ao, cap, rfl, _⟩ := own_slice h
  rcases h.2 with ⟨h0, h1⟩ | ⟨g, cap', cur, h1, _⟩
  · omega
  · have e : ao = some ⟨g, 0, none⟩ ∧ cap = cap' := by simpa using h1
    obtain ⟨rfl, rfl⟩ := e
    refine ⟨g, cap, rfl, ?_⟩
    rw [World.ownsRow.cellAt h k (by omega)]
    simp [hk]
theorem ints_cell {w : World} {v : Value} {l : List Int} (h : w.ownsRow 0 3 1 v l.length (l.map (Value.int .i64))) {k : Nat} (hk : k < l.length) : ∃ g cap, v = .slice (some ⟨g, 0, none⟩) l.length cap ∧ w.cell? ⟨g, k, none⟩ = some (.int .i64 l[k]) := by
  obtain ⟨ao, cap, rfl, _⟩ := own_slice h
  rcases h.2 with ⟨h0, h1⟩ | ⟨g, cap', cur, h1, _⟩
  · omega
  · have e : ao = some ⟨g, 0, none⟩ ∧ cap = cap' := by simpa using h1
    obtain ⟨rfl, rfl⟩ := e
    refine ⟨g, cap, rfl, ?_⟩
    rw [World.ownsRow.cellAt h k (by omega)]
    simp [hk]
theorem elem_of {x xz : Nm} {l : List Int} (hr : Rises x.D l) (hn : Nums xz.fs xz.D) (hs : ∀ s v, look xz.D s = some v ↔ look x.D s = some v) {k : Nat} (hk : k < l.length) :
    ∃ (i : Nat) (f : Fd), l[k] = i ∧ xz.fs[i]? = some f ∧ look xz.D f.nm = some (i : Int) := by
  obtain ⟨s, hs'⟩ := (hr.mem l[k]).1 (List.getElem_mem hk)
  have h1 := (hs s _).2 hs'
  obtain ⟨i, f, e, hf, hfn⟩ := hn s _ h1
  exact ⟨i, f, e, hf, by rw [hfn, h1, e]⟩
theorem look_has {D : DataW Unit} {s : ByteArray} {c : Int} (h : look D s = some c) : Maps.has D (kS s) = true ∧ numOf D s = c := by
  unfold look at h
  split at h
  · exact ⟨by assumption, by simpa using h⟩
  · cases h
set_option maxRecDepth 100000 in
set_option maxHeartbeats 20000000 in
theorem sortsScopes_any (A0 : Option Addr) (l : List S32) (c0 : Nat) (A1 : Option Addr) (m : List S32) (c1 : Nat) (w : World) (hr : Kd.C k32 w A0 l.length l) (hc0 : l.length ≤ c0) (hlen : l.length ≤ maxLen) (hW : ∀ j : Nat, j < l.length → WideOp (rd_T32 l j))
    (hr1 : Kd.C k32 w A1 m.length m) (hc1 : m.length ≤ c1) (hlen1 : m.length ≤ maxLen) (hW1 : ∀ j : Nat, j < m.length → WideOp (rd_T32 m j)) :
    Calls Try.prog 4 #[.slice A0 l.length c0, .slice A1 m.length c1] w fun e w' => e = .returned (.bool true) ∧ Below w.heap.size w w' := by
  obtain ⟨k, r, ht, htr⟩ := tame_says l hlen 60
  obtain ⟨k', r', ht', htr'⟩ := tame_says m hlen1 60
  have HTR := Lib.hid (And.intro htr htr')
  clear htr htr'
  have HTM := Lib.hid (juristlaw05_tame.calls k A0 c0 l 60 r w hr hc0 ht)
  have HTN := Lib.hid (show ∀ w1, Below w.heap.size w w1 → Calls Try.prog 6 #[.slice A1 m.length c1, .int .i64 60] w1 fun e w' => e = .returned (.bool r') ∧ Drawn0 w1 w' from fun w1 hb => juristlaw05_tame.calls k' A1 c1 m 60 r' w1 (Kd.C_below hr1 hb) hc1 ht')
  have HRl := Lib.hid hr
  have HWl := Lib.hid hW
  have HRm := Lib.hid hr1
  have HWm := Lib.hid hW1
  clear ht hr hW ht' hr1 hW1
  go_enter Try.func4, Try.ntmps4
  go_wp2_with fail
  refine HTM.out.mono ?_; rintro e w1 ⟨rfl, hd⟩
  have HB1 := Lib.hid hd.below
  clear HTM hd
  cases r
  case false =>
    go_wp2_with fail
    refine (known_calls _).mono ?_; rintro e wn ⟨rfl, hbn⟩
    have HB2 := Lib.hid (HB1.out.trans (hbn.mono HB1.out.size))
    clear hbn
    go_wp2_with fail
    go_ret
    exact ⟨rfl, HB2.out⟩
  case true =>
  go_wp2_with fail
  refine (HTN.out _ HB1.out).mono ?_; rintro e w2 ⟨rfl, hd⟩
  have HB2 := Lib.hid (HB1.out.trans (hd.below.mono HB1.out.size))
  clear HTN hd HB1
  cases r'
  case false =>
    go_wp2_with fail
    refine (known_calls _).mono ?_; rintro e wn ⟨rfl, hbn⟩
    have HB3 := Lib.hid (HB2.out.trans (hbn.mono HB2.out.size))
    clear hbn
    go_wp2_with fail
    go_ret
    exact ⟨rfl, HB3.out⟩
  case true =>
  obtain ⟨hl60, htm⟩ := HTR.out.1 (by trivial)
  obtain ⟨hm60, htm'⟩ := HTR.out.2 (by trivial)
  have hl' : l.length ≤ 60 := by omega
  have hm' : m.length ≤ 60 := by omega
  have HMl := Lib.hid htm
  have HMm := Lib.hid htm'
  clear HTR htm htm' hl60 hm60
  go_wp2_with fail
  refine (new_any w2).mono ?_; rintro e w3 ⟨b, m1, m2, rfl, htab, hb3⟩
  have hB3 : w2.heap.size ≤ w3.heap.size := hb3.size
  have hbg : Below w3.heap.size w3 (w3.alloc (.cells #[.slice none 0 0, .slice none 0 0, .int .i64 0] 49)) := (Below.refl _ w3).alloc (Nat.le_refl _) _
  have HI := Lib.hid (show I1 w w2.heap.size b w3.heap.size (w3.alloc (.cells #[.slice none 0 0, .slice none 0 0, .int .i64 0] 49)) from
    ⟨_, _, _, htab.below hbg, rt_fresh w3 hB3, LawI.fresh m1 m2, (HB2.out.trans (hb3.mono HB2.out.size)).trans (hbg.mono (Nat.le_trans HB2.out.size hB3))⟩)
  have HBB := Lib.hid HB2.out.size
  generalize hBe : w2.heap.size = B at *
  generalize hge : w3.heap.size = g at *
  clear htab hb3 hB3 hbg HB2 hBe
  go_wp2_with fail
  clear hge
  go_loopw [7] (fun vi wr => ∃ k : Nat, vi = .int .i64 k ∧ k ≤ l.length ∧ Hid (I1 w B b g wr)) (fun vi _ => l.length - (intOf vi).toNat)
  case atStart => exact ⟨0, rfl, by omega, HI⟩
  case round =>
    obtain ⟨k, rfl, hk, hh⟩ := hrel
    by_cases hkl : k < l.length
    case pos =>
      have hkl' : (k : Int) < l.length := by omega
      obtain ⟨x, y, r, hT, hK, hL, hlow⟩ := hh.out
      obtain ⟨ad, bb, oo, A3, c3, rfl, hadd, hop⟩ := op_at HRl.out k hkl
      have hwo := HWl.out k hkl
      have hto := HMl.out k hkl
      generalize rd_T32 l k = oc at hop hwo hto
      obtain ⟨kd, nn, ⟨nm, la, rs, df⟩⟩ := oc
      obtain ⟨hcc, _⟩ := bcell hlow
      have q0 : wr.cell? ⟨bb, oo, none⟩ = some (.int .i64 kd) := (hcc bb oo hop.lt).trans hop.k0
      have q1 : wr.cell? ⟨bb, oo + 1, none⟩ = some (.int .i64 nn) := (hcc bb (oo + 1) hop.lt).trans hop.k1
      have q2 : wr.cell? ⟨bb, oo + 2, none⟩ = some (.string nm) := (hcc bb (oo + 2) hop.lt).trans hop.k2
      have q3 : wr.cell? ⟨bb, oo + 3, none⟩ = some (.slice A3 la.length c3) := (hcc bb (oo + 3) hop.lt).trans hop.k3
      have q4 : wr.cell? ⟨bb, oo + 4, none⟩ = some (.int .i64 rs) := (hcc bb (oo + 4) hop.lt).trans hop.k4
      have q5 : wr.cell? ⟨bb, oo + 5, none⟩ = some (.bool df) := (hcc bb (oo + 5) hop.lt).trans hop.k5
      obtain ⟨hm1, hm2⟩ := op_mem hop.le hop.args HBB.out hlow
      have hnm : nm.size ≤ maxLen := by have : nm.size ≤ 2000 := hto.1; unfold maxLen; omega
      have hla : la.length ≤ 40 := hto.2
      have hwo' : (∀ z ∈ la, I64 z) ∧ I64 rs := hwo
      clear hcc hop hwo hto
      have HDO := Lib.hid (do_any hT hK kd nn nm A3 c3 la rs df hnm hla hwo'.1 hwo'.2 hm1 hm2)
      have HIN := Lib.hid (show ∀ w', (∃ x' y' r', STab B w' b x' y' ∧ RTab B w' g r' ∧ StepR kd nn wr x y x' y' ∧ Ch (fun k => Own b x k ∨ Own b y k ∨ ROwn g r k) wr w') → I1 w B b g w' from
        fun w' ⟨x', y', r', p1, p2, p3, p4⟩ => ⟨x', y', r', p1, p2, hL.step hT p3, hlow.trans (DoR.low hT hK HBB.out p4)⟩)
      clear hT hK hL hlow hm1 hm2 hwo' hh HI
      go_wp2_with fail
      refine HDO.out.mono ?_
      rintro e wB ⟨⟨bv, rfl⟩, hq⟩
      have HI := Lib.hid (HIN.out wB hq)
      clear HDO HIN hq q0 q1 q2 q3 q4 q5 hadd
      go_wp2_with fail
      go_roundw
      case rel => exact ⟨k + 1, by go_num, by omega, HI⟩
      case measure => simp [intOf]; omega
    case neg =>
    have hkl' : ¬ (k : Int) < l.length := by omega
    obtain ⟨x, y, r, hT, hK, hL, hlow⟩ := hh.out
    have HT := Lib.hid hT
    have HK := Lib.hid hK
    have HL := Lib.hid hL
    have HLOW := Lib.hid hlow
    clear hT hK hL hlow hh HI
    go_wp2_with fail
    refine (sorts_any HT.out HL.out.nx).mono ?_
    rintro e wS ⟨vw, lw, rfl, hrw, how, hbw⟩
    have HT1 := Lib.hid (HT.out.below hbw)
    have HW := Lib.hid (And.intro hrw (And.intro (own_lower how (Nat.zero_le _)) hbw))
    clear hrw how hbw
    go_wp2_with fail
    refine (funs_any HT1.out HL.out.ny).mono ?_
    rintro e wF ⟨vh, lh, rfl, hrh, hoh, hbh⟩
    have HT2 := Lib.hid (HT1.out.below hbh)
    have HK2 := Lib.hid ((HK.out.below HW.out.2.2).below hbh)
    have HWAS := Lib.hid (show Was wF vw lw from Was.below (show Was wS vw lw from HW.out.2.1) hbh)
    have HHAD := Lib.hid (show Had wF x y vh lh from ⟨own_lower hoh (Nat.zero_le _), fun q hq e => by have := (hoh.lt q hq).1; have := (HT1.out.okx.oM.lt q e).2; omega, fun q hq e => by have := (hoh.lt q hq).1; have := (HT1.out.oky.oM.lt q e).2; omega⟩)
    have HRI := Lib.hid (And.intro HW.out.1 hrh)
    have HLOW2 := Lib.hid ((HLOW.out.trans (HW.out.2.2.mono HLOW.out.size)).trans (hbh.mono (Nat.le_trans HLOW.out.size HW.out.2.2.size)))
    clear hrh hoh hbh HW HT HK HT1 HLOW
    go_wp2_with fail
    refine (level_any HT2.out).mono ?_; rintro e wL ⟨rfl, rfl⟩
    go_wp2_with fail
    refine (push_any HT2.out).mono ?_
    intro e wP hps
    have hx200 := HT2.out.okx.nm
    rcases hps with ⟨er, her, rfl, hx, ht, hlow, hchg⟩ | ⟨M1, M2, rfl, ht, hlow, hchg, hn1, hn2⟩
    case inl =>
      have hne : (er != 0) = true := by simpa using her
      have hx' : (x.ms.length : Int) = 200 := by omega
      have HLP := Lib.hid (HLOW2.out.trans (hlow.mono HBB.out))
      clear her ht hlow hchg
      go_wp2_with fail
      refine (known_calls _).mono ?_; rintro e wn ⟨rfl, hbn⟩
      have HB3 := Lib.hid (HLP.out.trans (hbn.mono HLP.out.size))
      clear hbn
      go_wp2_with fail
      go_ret
      exact ⟨rfl, HB3.out⟩
    case inr =>
    have hst : StepR 2 0 wL x y (x.push M1) (y.push M2) := .push M1 M2 hn1 hn2
    have hchg' : Ch (fun k => Own b x k ∨ Own b y k ∨ ROwn g r k) wL wP := Ch.inl hchg
    obtain ⟨vwa, vwc, rfl, _⟩ := own_slice HWAS.out
    obtain ⟨vha, vhc, rfl, _⟩ := own_slice HHAD.out.own
    have HI2 := Lib.hid (show I2 w B b g x y (.slice vwa lw.length vwc) (.slice vha lh.length vhc) lw lh wP from
      ⟨_, _, r, ht, HK2.out.chg HT2.out hchg, ⟨Since.start HL.out.nx, Since.start HL.out.ny, HL.out.gw⟩, HLOW2.out.trans (hlow.mono HBB.out), HWAS.out.step HT2.out HK2.out hchg', HHAD.out.step HT2.out HK2.out hst hchg'⟩)
    have HLN := Lib.hid HT2.out.ln
    clear ht hlow hchg hn1 hn2 hst hchg' HLOW2 HWAS HHAD HK2 HT2 hx200
    go_wp2_with fail
    go_loopw [11] (fun vi wr => ∃ k : Nat, vi = .int .i64 k ∧ k ≤ m.length ∧ Hid (I2 w B b g x y (.slice vwa lw.length vwc) (.slice vha lh.length vhc) lw lh wr)) (fun vi _ => m.length - (intOf vi).toNat)
    case atStart => exact ⟨0, rfl, by omega, HI2⟩
    case round =>
      obtain ⟨k, rfl, hk, hh⟩ := hrel
      by_cases hkl : k < m.length
      case pos =>
        have hkl' : (k : Int) < m.length := by omega
        obtain ⟨x1, y1, r1, hT, hK, hS, hlow, hwas, hhad⟩ := hh.out
        obtain ⟨ad, bb, oo, A3, c3, rfl, hadd, hop⟩ := op_at HRm.out k hkl
        have hwo := HWm.out k hkl
        have hto := HMm.out k hkl
        generalize rd_T32 m k = oc at hop hwo hto
        obtain ⟨kd, nn, ⟨nm, la, rs, df⟩⟩ := oc
        obtain ⟨hcc, _⟩ := bcell hlow
        have q0 : wr.cell? ⟨bb, oo, none⟩ = some (.int .i64 kd) := (hcc bb oo hop.lt).trans hop.k0
        have q1 : wr.cell? ⟨bb, oo + 1, none⟩ = some (.int .i64 nn) := (hcc bb (oo + 1) hop.lt).trans hop.k1
        have q2 : wr.cell? ⟨bb, oo + 2, none⟩ = some (.string nm) := (hcc bb (oo + 2) hop.lt).trans hop.k2
        have q3 : wr.cell? ⟨bb, oo + 3, none⟩ = some (.slice A3 la.length c3) := (hcc bb (oo + 3) hop.lt).trans hop.k3
        have q4 : wr.cell? ⟨bb, oo + 4, none⟩ = some (.int .i64 rs) := (hcc bb (oo + 4) hop.lt).trans hop.k4
        have q5 : wr.cell? ⟨bb, oo + 5, none⟩ = some (.bool df) := (hcc bb (oo + 5) hop.lt).trans hop.k5
        obtain ⟨hm1, hm2⟩ := op_mem hop.le hop.args HBB.out hlow
        have hnm : nm.size ≤ maxLen := by have : nm.size ≤ 2000 := hto.1; unfold maxLen; omega
        have hla : la.length ≤ 40 := hto.2
        have hwo' : (∀ z ∈ la, I64 z) ∧ I64 rs := hwo
        clear hcc hop hwo hto
        have hmore := hS.more
        have hm200 := hT.okx.nm
        have hkw : IntKind.i64.wrap (k : Int) = k := IntWalk.i64_in _ (by constructor <;> omega)
        have hlv1 : IntKind.i64.wrap ((x1.ms.length : Int) - x.ms.length) = (x1.ms.length : Int) - x.ms.length := IntWalk.i64_in _ (by constructor <;> omega)
        have hlv2 : IntKind.i64.wrap ((x1.ms.length : Int) - x.ms.length - 1) = (x1.ms.length : Int) - x.ms.length - 1 := IntWalk.i64_in _ (by constructor <;> omega)
        have HDO := Lib.hid (show ∀ w', Below wr.heap.size wr w' → Calls Try.prog 18 #[.pointer (some ⟨b, 0, none⟩), .pointer (some ⟨g, 0, none⟩), .agg (opCells kd nn nm (.slice A3 la.length c3) rs df).toArray] w' (DoR B w' b g x1 y1 r1 kd nn) from
          fun w' hb => do_any (hT.below hb) (hK.below hb) kd nn nm A3 c3 la rs df hnm hla hwo'.1 hwo'.2 (hm1.later (hb.mono (Nat.le_trans hT.gb (Nat.le_of_lt hT.lt)))) hm2)
        have HIN := Lib.hid (show ∀ w1, Below wr.heap.size wr w1 → ∀ w', (kd = 3 → nn ≤ (x1.ms.length : Int) - x.ms.length - 1) → (∃ x' y' r', STab B w' b x' y' ∧ RTab B w' g r' ∧ StepR kd nn w1 x1 y1 x' y' ∧ Ch (fun k => Own b x1 k ∨ Own b y1 k ∨ ROwn g r1 k) w1 w') → I2 w B b g x y (.slice vwa lw.length vwc) (.slice vha lh.length vhc) lw lh w' from
          fun w1 hb w' hp ⟨x', y', r', p1, p2, p3, p4⟩ => ⟨x', y', r', p1, p2, hS.step HLN.out hT p3 hp, (hlow.trans (hb.mono hlow.size)).trans (DoR.low (hT.below hb) (hK.below hb) HBB.out p4), (hwas.below hb).step (hT.below hb) (hK.below hb) p4, (hhad.below hb).step (hT.below hb) (hK.below hb) p3 p4⟩)
        have HST := Lib.hid (show ∀ w1, Below wr.heap.size wr w1 → I2 w B b g x y (.slice vwa lw.length vwc) (.slice vha lh.length vhc) lw lh w1 from
          fun w1 hb => ⟨x1, y1, r1, hT.below hb, hK.below hb, hS, hlow.trans (hb.mono hlow.size), hwas.below hb, hhad.below hb⟩)
        have HLV := Lib.hid (show ∀ w1, Below wr.heap.size wr w1 → Calls Try.prog 21 #[.pointer (some ⟨b, 0, none⟩)] w1 fun e w' => e = .returned (.int .i64 x1.ms.length) ∧ Below w1.heap.size w1 w' from
          fun w1 hb => (level_any (hT.below hb)).mono fun e w' h => ⟨h.1, by rw [h.2]; exact Below.refl _ _⟩)
        have hbbl := World.block_lt_of_cell? wr ⟨bb, oo, none⟩ q0
        clear hT hK hS hlow hwas hhad hm1 hm2 hwo' hh HI2
        by_cases hk3 : kd = 3
        case pos =>
          go_wp2_with fail
          subst hk3
          refine wp_region_flow3 18 (by kernel_rfl) (by kernel_rfl) ?_ (fun j _ v => (ZL ad m.length c1 k bb oo b nn x1.ms.length x.ms.length) j v) (fun w' => Below wr.heap.size wr w') (Below.drew (Below.refl _ wr)) ?_ ?_
          · intro i o' d hi ho hd
            have : i = 0 ∨ i = 1 ∨ i = 2 ∨ i = 3 ∨ i = 4 ∨ i = 5 ∨ i = 6 ∨ i = 7 ∨ i = 8 ∨ i = 9 ∨ i = 10 ∨ i = 11 ∨ i = 12 ∨ i = 13 ∨ i = 14 ∨ i = 15 ∨ i = 16 ∨ i = 17 := by omega
            rcases this with rfl | rfl | rfl | rfl | rfl | rfl | rfl | rfl | rfl | rfl | rfl | rfl | rfl | rfl | rfl | rfl | rfl | rfl <;> (simp at ho; subst ho; simp at hd; subst hd; simp)
          · intro i o' hi ho
            have : i = 0 ∨ i = 1 ∨ i = 2 ∨ i = 3 ∨ i = 4 ∨ i = 5 ∨ i = 6 ∨ i = 7 ∨ i = 8 ∨ i = 9 ∨ i = 10 ∨ i = 11 ∨ i = 12 ∨ i = 13 ∨ i = 14 ∨ i = 15 ∨ i = 16 ∨ i = 17 := by omega
            rcases this with rfl | rfl | rfl | rfl | rfl | rfl | rfl | rfl | rfl | rfl | rfl | rfl | rfl | rfl | rfl | rfl | rfl | rfl <;> (simp at ho; subst ho; intro a w' hC hd hr)
            · rw [if_pos (by rfl)]
              have e1 : a.tmps.getD 1 undef = .slice (some ad) m.length c1 := hr 1 (free_of (by rfl))
              have e1' : a.tmps[1]?.getD undef = .slice (some ad) m.length c1 := by simpa using e1
              exact flow_val (v := .slice (some ad) m.length c1) (by go_simp; try rfl) ⟨rfl, hC, fun _ _ _ h => h⟩
            · rw [if_pos (by rfl)]
              have e11 : a.tmps.getD 11 undef = .int .i64 k := hr 11 (free_of (by rfl))
              have e11' : a.tmps[11]?.getD undef = .int .i64 k := by simpa using e11
              exact flow_val (v := .int .i64 k) (by go_simp; try rfl) ⟨rfl, hC, fun _ _ _ h => h⟩
            · rw [if_pos (by rfl)]
              have e69 : a.tmps.getD 69 undef = .slice (some ad) m.length c1 := hd ⟨0, .data⟩ (by simp) rfl _ _ rfl rfl
              have e69' : a.tmps[69]?.getD undef = .slice (some ad) m.length c1 := by simpa using e69
              have e70 : a.tmps.getD 70 undef = .int .i64 k := hd ⟨1, .data⟩ (by simp) rfl _ _ rfl rfl
              have e70' : a.tmps[70]?.getD undef = .int .i64 k := by simpa using e70
              exact flow_val (v := .pointer (some ⟨bb, oo, none⟩)) (by go_simp; try rfl) ⟨rfl, hC, fun _ _ _ h => h⟩
            · rw [if_pos (by rfl)]
              have e71 : a.tmps.getD 71 undef = .pointer (some ⟨bb, oo, none⟩) := hd ⟨2, .data⟩ (by simp) rfl _ _ rfl rfl
              have e71' : a.tmps[71]?.getD undef = .pointer (some ⟨bb, oo, none⟩) := by simpa using e71
              exact flow_val (v := .pointer (some ⟨bb, oo, none⟩)) (by go_simp; try rfl) ⟨rfl, hC, fun _ _ _ h => h⟩
            · rw [if_pos (by rfl)]
              have e72 : a.tmps.getD 72 undef = .pointer (some ⟨bb, oo, none⟩) := hd ⟨3, .data⟩ (by simp) rfl _ _ rfl rfl
              have e72' : a.tmps[72]?.getD undef = .pointer (some ⟨bb, oo, none⟩) := by simpa using e72
              have c0 : w'.cell? ⟨bb, oo, none⟩ = some (.int .i64 3) := ((bcell hC).1 bb oo hbbl).trans q0
              exact flow_val (v := .int .i64 3) (by go_simp; try rfl) ⟨rfl, hC, fun _ _ _ h => h⟩
            · rw [if_pos (by rfl)]
              have e73 : a.tmps.getD 73 undef = .int .i64 3 := hd ⟨4, .data⟩ (by simp) rfl _ _ rfl rfl
              have e73' : a.tmps[73]?.getD undef = .int .i64 3 := by simpa using e73
              exact flow_val (v := .bool false) (by go_simp; try rfl) ⟨rfl, hC, fun _ _ _ h => h⟩
            · rw [if_pos (by rfl)]
              have e74 : a.tmps.getD 74 undef = .bool false := hd ⟨5, .data⟩ (by simp) rfl _ _ rfl rfl
              have e74' : a.tmps[74]?.getD undef = .bool false := by simpa using e74
              exact flow_val (v := .bool false) (by go_simp; try rfl) ⟨rfl, hC, fun _ _ _ h => h⟩
            · have eg := tmp_bool (hd ⟨6, .guard⟩ (by simp) rfl _ _ rfl rfl : a.tmps.getD 75 undef = .bool false)
              rw [if_pos (by simp [Region.wanted, yielded, eg])]
              clear eg
              have e1 : a.tmps.getD 1 undef = .slice (some ad) m.length c1 := hr 1 (free_of (by rfl))
              have e1' : a.tmps[1]?.getD undef = .slice (some ad) m.length c1 := by simpa using e1
              exact flow_val (v := .slice (some ad) m.length c1) (by go_simp; try rfl) ⟨rfl, hC, fun _ _ _ h => h⟩
            · have eg := tmp_bool (hd ⟨6, .guard⟩ (by simp) rfl _ _ rfl rfl : a.tmps.getD 75 undef = .bool false)
              rw [if_pos (by simp [Region.wanted, yielded, eg])]
              clear eg
              have e11 : a.tmps.getD 11 undef = .int .i64 k := hr 11 (free_of (by rfl))
              have e11' : a.tmps[11]?.getD undef = .int .i64 k := by simpa using e11
              exact flow_val (v := .int .i64 k) (by go_simp; try rfl) ⟨rfl, hC, fun _ _ _ h => h⟩
            · have eg := tmp_bool (hd ⟨6, .guard⟩ (by simp) rfl _ _ rfl rfl : a.tmps.getD 75 undef = .bool false)
              rw [if_pos (by simp [Region.wanted, yielded, eg])]
              clear eg
              have e76 : a.tmps.getD 76 undef = .slice (some ad) m.length c1 := hd ⟨7, .data⟩ (by simp) rfl _ _ rfl rfl
              have e76' : a.tmps[76]?.getD undef = .slice (some ad) m.length c1 := by simpa using e76
              have e77 : a.tmps.getD 77 undef = .int .i64 k := hd ⟨8, .data⟩ (by simp) rfl _ _ rfl rfl
              have e77' : a.tmps[77]?.getD undef = .int .i64 k := by simpa using e77
              exact flow_val (v := .pointer (some ⟨bb, oo, none⟩)) (by go_simp; try rfl) ⟨rfl, hC, fun _ _ _ h => h⟩
            · have eg := tmp_bool (hd ⟨6, .guard⟩ (by simp) rfl _ _ rfl rfl : a.tmps.getD 75 undef = .bool false)
              rw [if_pos (by simp [Region.wanted, yielded, eg])]
              clear eg
              have e78 : a.tmps.getD 78 undef = .pointer (some ⟨bb, oo, none⟩) := hd ⟨9, .data⟩ (by simp) rfl _ _ rfl rfl
              have e78' : a.tmps[78]?.getD undef = .pointer (some ⟨bb, oo, none⟩) := by simpa using e78
              exact flow_val (v := .pointer (some ⟨bb, oo + 1, none⟩)) (by go_simp; try rfl) ⟨rfl, hC, fun _ _ _ h => h⟩
            · have eg := tmp_bool (hd ⟨6, .guard⟩ (by simp) rfl _ _ rfl rfl : a.tmps.getD 75 undef = .bool false)
              rw [if_pos (by simp [Region.wanted, yielded, eg])]
              clear eg
              have e79 : a.tmps.getD 79 undef = .pointer (some ⟨bb, oo + 1, none⟩) := hd ⟨10, .data⟩ (by simp) rfl _ _ rfl rfl
              have e79' : a.tmps[79]?.getD undef = .pointer (some ⟨bb, oo + 1, none⟩) := by simpa using e79
              have c0 : w'.cell? ⟨bb, oo + 1, none⟩ = some (.int .i64 nn) := ((bcell hC).1 bb (oo + 1) hbbl).trans q1
              exact flow_val (v := .int .i64 nn) (by go_simp; try rfl) ⟨rfl, hC, fun _ _ _ h => h⟩
            · have eg := tmp_bool (hd ⟨6, .guard⟩ (by simp) rfl _ _ rfl rfl : a.tmps.getD 75 undef = .bool false)
              rw [if_pos (by simp [Region.wanted, yielded, eg])]
              clear eg
              have e5 : a.tmps.getD 5 undef = .pointer (some ⟨b, 0, none⟩) := hr 5 (free_of (by rfl))
              have e5' : a.tmps[5]?.getD undef = .pointer (some ⟨b, 0, none⟩) := by simpa using e5
              exact flow_val (v := .pointer (some ⟨b, 0, none⟩)) (by go_simp; try rfl) ⟨rfl, hC, fun _ _ _ h => h⟩
            · have eg := tmp_bool (hd ⟨6, .guard⟩ (by simp) rfl _ _ rfl rfl : a.tmps.getD 75 undef = .bool false)
              rw [if_pos (by simp [Region.wanted, yielded, eg])]
              clear eg
              have e81 : a.tmps.getD 81 undef = .pointer (some ⟨b, 0, none⟩) := hd ⟨12, .data⟩ (by simp) rfl _ _ rfl rfl
              have e81' : a.tmps[81]?.getD undef = .pointer (some ⟨b, 0, none⟩) := by simpa using e81
              refine flow_call (f := 21) (args := #[.pointer (some ⟨b, 0, none⟩)]) (by go_simp) ?_
              exact (HLV.out _ hC).mono fun e w'' ⟨he, hb⟩ => ⟨_, he, rfl, hC.trans (hb.mono hC.size), fun _ _ _ h => h⟩
            · have eg := tmp_bool (hd ⟨6, .guard⟩ (by simp) rfl _ _ rfl rfl : a.tmps.getD 75 undef = .bool false)
              rw [if_pos (by simp [Region.wanted, yielded, eg])]
              clear eg
              have e10 : a.tmps.getD 10 undef = .int .i64 x.ms.length := hr 10 (free_of (by rfl))
              have e10' : a.tmps[10]?.getD undef = .int .i64 x.ms.length := by simpa using e10
              exact flow_val (v := .int .i64 x.ms.length) (by go_simp; try rfl) ⟨rfl, hC, fun _ _ _ h => h⟩
            · have eg := tmp_bool (hd ⟨6, .guard⟩ (by simp) rfl _ _ rfl rfl : a.tmps.getD 75 undef = .bool false)
              rw [if_pos (by simp [Region.wanted, yielded, eg])]
              clear eg
              have e82 : a.tmps.getD 82 undef = .int .i64 x1.ms.length := hd ⟨13, .data⟩ (by simp) rfl _ _ rfl rfl
              have e82' : a.tmps[82]?.getD undef = .int .i64 x1.ms.length := by simpa using e82
              have e83 : a.tmps.getD 83 undef = .int .i64 x.ms.length := hd ⟨14, .data⟩ (by simp) rfl _ _ rfl rfl
              have e83' : a.tmps[83]?.getD undef = .int .i64 x.ms.length := by simpa using e83
              exact flow_val (v := .int .i64 ((x1.ms.length : Int) - x.ms.length)) (by go_simp; try rfl) ⟨rfl, hC, fun _ _ _ h => h⟩
            · have eg := tmp_bool (hd ⟨6, .guard⟩ (by simp) rfl _ _ rfl rfl : a.tmps.getD 75 undef = .bool false)
              rw [if_pos (by simp [Region.wanted, yielded, eg])]
              clear eg
              have e84 : a.tmps.getD 84 undef = .int .i64 ((x1.ms.length : Int) - x.ms.length) := hd ⟨15, .data⟩ (by simp) rfl _ _ rfl rfl
              have e84' : a.tmps[84]?.getD undef = .int .i64 ((x1.ms.length : Int) - x.ms.length) := by simpa using e84
              exact flow_val (v := .int .i64 ((x1.ms.length : Int) - x.ms.length - 1)) (by go_simp; try rfl) ⟨rfl, hC, fun _ _ _ h => h⟩
            · have eg := tmp_bool (hd ⟨6, .guard⟩ (by simp) rfl _ _ rfl rfl : a.tmps.getD 75 undef = .bool false)
              rw [if_pos (by simp [Region.wanted, yielded, eg])]
              clear eg
              have e80 : a.tmps.getD 80 undef = .int .i64 nn := hd ⟨11, .data⟩ (by simp) rfl _ _ rfl rfl
              have e80' : a.tmps[80]?.getD undef = .int .i64 nn := by simpa using e80
              have e85 : a.tmps.getD 85 undef = .int .i64 ((x1.ms.length : Int) - x.ms.length - 1) := hd ⟨16, .data⟩ (by simp) rfl _ _ rfl rfl
              have e85' : a.tmps[85]?.getD undef = .int .i64 ((x1.ms.length : Int) - x.ms.length - 1) := by simpa using e85
              exact flow_val (v := .bool (decide (nn ≤ (x1.ms.length : Int) - x.ms.length - 1))) (by go_simp; try rfl) ⟨rfl, hC, fun _ _ _ h => h⟩
          intro vs' w4 hb4 hZ
          have v6 : vs' 6 = .bool false := hZ 6 _ _ (by omega) rfl rfl
          have v17 : vs' 17 = .bool (decide (nn ≤ (x1.ms.length : Int) - x.ms.length - 1)) := hZ 17 _ _ (by omega) rfl rfl
          clear hZ 
          simp only [List.drop_succ_cons, List.drop_zero, List.take_succ_cons, List.take_zero, putAll, v6, v17]
          obtain ⟨hcc, _⟩ := bcell hb4
          have p0 := (hcc bb oo hbbl).trans q0
          have p1 := (hcc bb (oo + 1) hbbl).trans q1
          have p2 := (hcc bb (oo + 2) hbbl).trans q2
          have p3 := (hcc bb (oo + 3) hbbl).trans q3
          have p4 := (hcc bb (oo + 4) hbbl).trans q4
          have p5 := (hcc bb (oo + 5) hbbl).trans q5
          have HB4 := Lib.hid hb4
          clear hcc hb4 q0 q1 q2 q3 q4 q5 HLV
          by_cases hle : nn ≤ (x1.ms.length : Int) - x.ms.length - 1
          case pos =>
            have HLE := Lib.hid hle
            go_wp2_with fail
            refine (HDO.out w4 HB4.out).mono ?_
            rintro e wB ⟨⟨bv, rfl⟩, hq⟩
            have HI2 := Lib.hid (HIN.out w4 HB4.out wB (fun _ => HLE.out) hq)
            clear HDO HIN HST hq p0 p1 p2 p3 p4 p5 hadd
            go_wp2_with fail
            go_roundw
            case rel => exact ⟨k + 1, by go_num, by omega, HI2⟩
            case measure => simp [intOf]; omega
          case neg =>
            have HI2 := Lib.hid (HST.out w4 HB4.out)
            clear HDO HIN HST p0 p1 p2 p3 p4 p5 hadd
            go_wp2_with fail
            go_roundw
            case rel => exact ⟨k + 1, by go_num, by omega, HI2⟩
            case measure => simp [intOf]; omega
        case neg =>
          have hk3' : (kd != 3) = true := by simpa using hk3
          have HK3 := Lib.hid hk3
          clear hk3
          go_wp2_with fail
          refine wp_region_flow3 18 (by kernel_rfl) (by kernel_rfl) ?_ (fun j _ v => (ZM ad m.length c1 k bb oo b kd nn x1.ms.length x.ms.length) j v) (fun w' => Below wr.heap.size wr w') (Below.drew (Below.refl _ wr)) ?_ ?_
          · intro i o' d hi ho hd
            have : i = 0 ∨ i = 1 ∨ i = 2 ∨ i = 3 ∨ i = 4 ∨ i = 5 ∨ i = 6 ∨ i = 7 ∨ i = 8 ∨ i = 9 ∨ i = 10 ∨ i = 11 ∨ i = 12 ∨ i = 13 ∨ i = 14 ∨ i = 15 ∨ i = 16 ∨ i = 17 := by omega
            rcases this with rfl | rfl | rfl | rfl | rfl | rfl | rfl | rfl | rfl | rfl | rfl | rfl | rfl | rfl | rfl | rfl | rfl | rfl <;> (simp at ho; subst ho; simp at hd; subst hd; simp)
          · intro i o' hi ho
            have : i = 0 ∨ i = 1 ∨ i = 2 ∨ i = 3 ∨ i = 4 ∨ i = 5 ∨ i = 6 ∨ i = 7 ∨ i = 8 ∨ i = 9 ∨ i = 10 ∨ i = 11 ∨ i = 12 ∨ i = 13 ∨ i = 14 ∨ i = 15 ∨ i = 16 ∨ i = 17 := by omega
            rcases this with rfl | rfl | rfl | rfl | rfl | rfl | rfl | rfl | rfl | rfl | rfl | rfl | rfl | rfl | rfl | rfl | rfl | rfl <;> (simp at ho; subst ho; intro a w' hC hd hr)
            · rw [if_pos (by rfl)]
              have e1 : a.tmps.getD 1 undef = .slice (some ad) m.length c1 := hr 1 (free_of (by rfl))
              have e1' : a.tmps[1]?.getD undef = .slice (some ad) m.length c1 := by simpa using e1
              exact flow_val (v := .slice (some ad) m.length c1) (by go_simp; try rfl) ⟨rfl, hC, fun _ _ _ h => h⟩
            · rw [if_pos (by rfl)]
              have e11 : a.tmps.getD 11 undef = .int .i64 k := hr 11 (free_of (by rfl))
              have e11' : a.tmps[11]?.getD undef = .int .i64 k := by simpa using e11
              exact flow_val (v := .int .i64 k) (by go_simp; try rfl) ⟨rfl, hC, fun _ _ _ h => h⟩
            · rw [if_pos (by rfl)]
              have e69 : a.tmps.getD 69 undef = .slice (some ad) m.length c1 := hd ⟨0, .data⟩ (by simp) rfl _ _ rfl rfl
              have e69' : a.tmps[69]?.getD undef = .slice (some ad) m.length c1 := by simpa using e69
              have e70 : a.tmps.getD 70 undef = .int .i64 k := hd ⟨1, .data⟩ (by simp) rfl _ _ rfl rfl
              have e70' : a.tmps[70]?.getD undef = .int .i64 k := by simpa using e70
              exact flow_val (v := .pointer (some ⟨bb, oo, none⟩)) (by go_simp; try rfl) ⟨rfl, hC, fun _ _ _ h => h⟩
            · rw [if_pos (by rfl)]
              have e71 : a.tmps.getD 71 undef = .pointer (some ⟨bb, oo, none⟩) := hd ⟨2, .data⟩ (by simp) rfl _ _ rfl rfl
              have e71' : a.tmps[71]?.getD undef = .pointer (some ⟨bb, oo, none⟩) := by simpa using e71
              exact flow_val (v := .pointer (some ⟨bb, oo, none⟩)) (by go_simp; try rfl) ⟨rfl, hC, fun _ _ _ h => h⟩
            · rw [if_pos (by rfl)]
              have e72 : a.tmps.getD 72 undef = .pointer (some ⟨bb, oo, none⟩) := hd ⟨3, .data⟩ (by simp) rfl _ _ rfl rfl
              have e72' : a.tmps[72]?.getD undef = .pointer (some ⟨bb, oo, none⟩) := by simpa using e72
              have c0 : w'.cell? ⟨bb, oo, none⟩ = some (.int .i64 kd) := ((bcell hC).1 bb oo hbbl).trans q0
              exact flow_val (v := .int .i64 kd) (by go_simp; try rfl) ⟨rfl, hC, fun _ _ _ h => h⟩
            · rw [if_pos (by rfl)]
              have e73 : a.tmps.getD 73 undef = .int .i64 kd := hd ⟨4, .data⟩ (by simp) rfl _ _ rfl rfl
              have e73' : a.tmps[73]?.getD undef = .int .i64 kd := by simpa using e73
              exact flow_val (v := .bool true) (by go_simp; try rfl) ⟨rfl, hC, fun _ _ _ h => h⟩
            · rw [if_pos (by rfl)]
              have e74 : a.tmps.getD 74 undef = .bool true := hd ⟨5, .data⟩ (by simp) rfl _ _ rfl rfl
              have e74' : a.tmps[74]?.getD undef = .bool true := by simpa using e74
              exact flow_val (v := .bool true) (by go_simp; try rfl) ⟨rfl, hC, fun _ _ _ h => h⟩
            · have eg := tmp_bool (hd ⟨6, .guard⟩ (by simp) rfl _ _ rfl rfl : a.tmps.getD 75 undef = .bool true)
              rw [if_neg (by simp [Region.wanted, yielded, eg])]
              exact rfl
            · have eg := tmp_bool (hd ⟨6, .guard⟩ (by simp) rfl _ _ rfl rfl : a.tmps.getD 75 undef = .bool true)
              rw [if_neg (by simp [Region.wanted, yielded, eg])]
              exact rfl
            · have eg := tmp_bool (hd ⟨6, .guard⟩ (by simp) rfl _ _ rfl rfl : a.tmps.getD 75 undef = .bool true)
              rw [if_neg (by simp [Region.wanted, yielded, eg])]
              exact rfl
            · have eg := tmp_bool (hd ⟨6, .guard⟩ (by simp) rfl _ _ rfl rfl : a.tmps.getD 75 undef = .bool true)
              rw [if_neg (by simp [Region.wanted, yielded, eg])]
              exact rfl
            · have eg := tmp_bool (hd ⟨6, .guard⟩ (by simp) rfl _ _ rfl rfl : a.tmps.getD 75 undef = .bool true)
              rw [if_neg (by simp [Region.wanted, yielded, eg])]
              exact rfl
            · have eg := tmp_bool (hd ⟨6, .guard⟩ (by simp) rfl _ _ rfl rfl : a.tmps.getD 75 undef = .bool true)
              rw [if_neg (by simp [Region.wanted, yielded, eg])]
              exact rfl
            · have eg := tmp_bool (hd ⟨6, .guard⟩ (by simp) rfl _ _ rfl rfl : a.tmps.getD 75 undef = .bool true)
              rw [if_neg (by simp [Region.wanted, yielded, eg])]
              exact rfl
            · have eg := tmp_bool (hd ⟨6, .guard⟩ (by simp) rfl _ _ rfl rfl : a.tmps.getD 75 undef = .bool true)
              rw [if_neg (by simp [Region.wanted, yielded, eg])]
              exact rfl
            · have eg := tmp_bool (hd ⟨6, .guard⟩ (by simp) rfl _ _ rfl rfl : a.tmps.getD 75 undef = .bool true)
              rw [if_neg (by simp [Region.wanted, yielded, eg])]
              exact rfl
            · have eg := tmp_bool (hd ⟨6, .guard⟩ (by simp) rfl _ _ rfl rfl : a.tmps.getD 75 undef = .bool true)
              rw [if_neg (by simp [Region.wanted, yielded, eg])]
              exact rfl
            · have eg := tmp_bool (hd ⟨6, .guard⟩ (by simp) rfl _ _ rfl rfl : a.tmps.getD 75 undef = .bool true)
              rw [if_neg (by simp [Region.wanted, yielded, eg])]
              exact rfl
          intro vs' w4 hb4 hZ
          have v6 : vs' 6 = .bool true := hZ 6 _ _ (by omega) rfl rfl
          have v17 : vs' 17 = undef := hZ 17 _ _ (by omega) rfl rfl
          clear hZ 
          simp only [List.drop_succ_cons, List.drop_zero, List.take_succ_cons, List.take_zero, putAll, v6, v17]
          obtain ⟨hcc, _⟩ := bcell hb4
          have p0 := (hcc bb oo hbbl).trans q0
          have p1 := (hcc bb (oo + 1) hbbl).trans q1
          have p2 := (hcc bb (oo + 2) hbbl).trans q2
          have p3 := (hcc bb (oo + 3) hbbl).trans q3
          have p4 := (hcc bb (oo + 4) hbbl).trans q4
          have p5 := (hcc bb (oo + 5) hbbl).trans q5
          have HB4 := Lib.hid hb4
          clear hcc hb4 q0 q1 q2 q3 q4 q5 HLV
          go_wp2_with fail
          refine (HDO.out w4 HB4.out).mono ?_
          rintro e wB ⟨⟨bv, rfl⟩, hq⟩
          have HI2 := Lib.hid (HIN.out w4 HB4.out wB (fun e => absurd e HK3.out) hq)
          clear HDO HIN HST hq p0 p1 p2 p3 p4 p5 hadd
          go_wp2_with fail
          go_roundw
          case rel => exact ⟨k + 1, by go_num, by omega, HI2⟩
          case measure => simp [intOf]; omega
      case neg =>
      have hkl' : ¬ (k : Int) < m.length := by omega
      obtain ⟨x1, y1, r1, hT, hK, hS, hlow, hwas, hhad⟩ := hh.out
      have hmore := hS.more
      have hm200 := hT.okx.nm
      have hlv1 : IntKind.i64.wrap ((x1.ms.length : Int) - x.ms.length) = (x1.ms.length : Int) - x.ms.length := IntWalk.i64_in _ (by constructor <;> omega)
      have HT := Lib.hid hT
      have HALL := Lib.hid (And.intro hK (And.intro hS (And.intro hlow (And.intro hwas hhad))))
      clear hT hK hS hlow hwas hhad hh HI2
      go_wp2_with fail
      refine (level_any HT.out).mono ?_; rintro e wL2 ⟨rfl, rfl⟩
      go_wp2_with fail
      refine (popT_any HT.out _).mono ?_
      intro e wP hps
      obtain ⟨xz, yz, rfl, htz, hlz, hcz, hnx, hny, hsx, hsy, hfx, hfy, hms, hgw, hb1, hb2⟩ : ∃ xz yz, e = .returned (.int .i64 0) ∧ STab B wP b xz yz ∧ Below B wL2 wP ∧ Chg b x1 y1 wL2 wP ∧ Nums xz.fs xz.D ∧ Nums yz.fs yz.D ∧
          (∀ s v, look xz.D s = some v ↔ look x.D s = some v) ∧ (∀ s v, look yz.D s = some v ↔ look y.D s = some v) ∧ xz.fs = x1.fs ∧ yz.fs = y1.fs ∧ xz.ms = x.ms ∧ NoWord xz ∧ xz.M.ownBlock = x1.M.ownBlock ∧ yz.M.ownBlock = y1.M.ownBlock := by
        rcases hps with ⟨er, _, _, hb, _⟩ | ⟨_, hz, _⟩ | ⟨q, f1, f2, M1, M2, he, hn, hq, h1, h2, ht, hl, hc, bb1, bb2⟩
        · omega
        · omega
        · have hqx : q = x.ms.length := by omega
          have hqy : q = y.ms.length := by rw [hqx]; exact HLN.out
          have d1 := HALL.out.2.1.sx.done HL.out.nx (M' := M1) (by rw [← hqx]; exact h1)
          have d2 := HALL.out.2.1.sy.done HL.out.ny (M' := M2) (by rw [← hqy]; exact h2)
          refine ⟨_, _, he, ht, hl, hc, ?_, ?_, ?_, ?_, rfl, rfl, ?_, HALL.out.2.1.gw, bb1, bb2⟩
          · rw [hqx]; exact d1.1
          · rw [hqy]; exact d2.1
          · rw [hqx]; exact d1.2.1
          · rw [hqy]; exact d2.2.1
          · rw [hqx]; exact d1.2.2
      clear hps
      have hcz' : Ch (fun k => Own b x1 k ∨ Own b y1 k ∨ ROwn g r1 k) wL2 wP := Ch.inl hcz
      have HZ := Lib.hid (And.intro htz (And.intro hnx (And.intro hny (And.intro hsx (And.intro hsy (And.intro hms hgw))))))
      have HLOW := Lib.hid (HALL.out.2.2.1.trans (hlz.mono HBB.out))
      have HWAS := Lib.hid (HALL.out.2.2.2.1.step HT.out HALL.out.1 hcz')
      have HHAD := Lib.hid (show wP.ownsRow 0 3 1 (.slice vha lh.length vhc) lh.length (lh.map (Value.int .i64)) from ownsRow_ch HALL.out.2.2.2.2.own hcz (fun q hq => had_apart HT.out HALL.out.2.2.2.2 q hq))
      have HALLF := Lib.hid (And.intro HALL.out.2.1.sx.fs (And.intro HALL.out.2.1.sy.fs (And.intro hfx hfy)))
      clear htz hlz hcz hnx hny hsx hsy hfx hfy hms hgw hcz' hb1 hb2 HALL HT hmore hm200 hlv1
      go_wp2_with fail
      refine (sorts_any HZ.out.1 HZ.out.2.1).mono ?_
      rintro e wS ⟨vn, ln, rfl, hrn, hon, hbn⟩
      obtain rfl : ln = lw := rises_eq hrn HRI.out.1 HZ.out.2.2.2.1
      obtain ⟨vna, vnc, rfl, _⟩ := own_slice hon
      have HT1 := Lib.hid (HZ.out.1.below hbn)
      have HWAS1 := Lib.hid (HWAS.out.below hbn)
      have HHAD1 := Lib.hid (ownsRow_ch (S := fun _ => False) HHAD.out (Ch.ofBelow hbn) (fun _ _ e => e))
      have HNOW := Lib.hid (And.intro (show Was wS (.slice vna ln.length vnc) ln from own_lower hon (Nat.zero_le _)) hbn)
      clear hrn hon hbn
      go_wp2_with fail
      refine (funs_any HT1.out HZ.out.2.2.1).mono ?_
      rintro e wF ⟨vf, lf, rfl, hrf, hof, hbf⟩
      obtain rfl : lf = lh := rises_eq hrf HRI.out.2 HZ.out.2.2.2.2.1
      obtain ⟨vfa, vfc, rfl, _⟩ := own_slice hof
      have HT2 := Lib.hid (HT1.out.below hbf)
      have HROWS := Lib.hid (And.intro (HWAS1.out.below hbf) (And.intro (ownsRow_ch (S := fun _ => False) HHAD1.out (Ch.ofBelow hbf) (fun _ _ e => e)) (And.intro (HNOW.out.1.below hbf) (own_lower hof (Nat.zero_le _)))))
      have HLOW2 := Lib.hid ((HLOW.out.trans (HNOW.out.2.mono HLOW.out.size)).trans (hbf.mono (Nat.le_trans HLOW.out.size HNOW.out.2.size)))
      have HLV := Lib.hid (level_any HT2.out)
      rw [HZ.out.2.2.2.2.2.1] at HLV
      clear hrf hof hbf HWAS HHAD HWAS1 HHAD1 HNOW HLOW HT1
      go_wp2_with fail
      refine HLV.out.mono ?_; rintro e wL3 ⟨rfl, rfl⟩
      clear HLV
      go_wp2_with fail
      have HROW := Lib.hid (show I3 w B b xz yz (.slice vwa ln.length vwc) (.slice vha lf.length vhc) (.slice vna ln.length vnc) (.slice vfa lf.length vfc) ln lf wL3 from ⟨HT2.out, HROWS.out.1, HROWS.out.2.1, HROWS.out.2.2.1, HROWS.out.2.2.2, HLOW2.out⟩)
      have HEX := Lib.hid (show ∀ k (hk : k < ln.length), ∃ (i : Nat) (f : Fd), ln[k] = i ∧ xz.fs[i]? = some f ∧ look xz.D f.nm = some (i : Int) from fun k hk => elem_of HRI.out.1 HZ.out.2.1 HZ.out.2.2.2.1 hk)
      have HEY := Lib.hid (show ∀ k (hk : k < lf.length), ∃ (i : Nat) (f : Fd), lf[k] = i ∧ yz.fs[i]? = some f ∧ look yz.D f.nm = some (i : Int) from fun k hk => elem_of HRI.out.2 HZ.out.2.2.1 HZ.out.2.2.2.2.1 hk)
      have HGW := Lib.hid HZ.out.2.2.2.2.2.2
      have hlnl : ln.length ≤ 2000 := rises_len HRI.out.1 HL.out.nx (by
        obtain ⟨r0, hr0⟩ := HALLF.out.1
        have := HT2.out.okx.nf
        rw [HALLF.out.2.2.1, hr0] at this
        simp at this; omega)
      have hlfl : lf.length ≤ 2000 := rises_len HRI.out.2 HL.out.ny (by
        obtain ⟨r0, hr0⟩ := HALLF.out.2.1
        have := HT2.out.oky.nf
        rw [HALLF.out.2.2.2, hr0] at this
        simp at this; omega)
      clear HROWS HLOW2 HT2 HRI HZ HL HALLF
      go_loopw [14] (fun vi wr => ∃ k : Nat, vi = .int .i64 k ∧ k ≤ ln.length ∧ Hid (I3 w B b xz yz (.slice vwa ln.length vwc) (.slice vha lf.length vhc) (.slice vna ln.length vnc) (.slice vfa lf.length vfc) ln lf wr)) (fun vi _ => ln.length - (intOf vi).toNat)
      case atStart => exact ⟨0, rfl, by omega, HROW⟩
      case round =>
        obtain ⟨k, rfl, hk, hh⟩ := hrel
        clear HROW
        by_cases hkl : k < ln.length
        case pos =>
          have hkl' : (k : Int) < ln.length := by omega
          obtain ⟨i, f, hi, hf, hlk⟩ := HEX.out k hkl
          have hfm := List.mem_of_getElem? hf
          obtain ⟨hw1, hw2⟩ := HGW.out f hfm
          obtain ⟨hhas, hnum⟩ := look_has hlk
          have hi2000 : i ≤ 2000 := by have := (List.getElem?_eq_some_iff.1 hf).1; have := hh.out.1.okx.nf; omega
          obtain ⟨gw, cw, hcw, hcellw⟩ := hh.out.2.1.cell hkl
          obtain ⟨gn, cn, hcn, hcelln⟩ := hh.out.2.2.2.1.cell hkl
          obtain ⟨rfl, rfl⟩ : vwa = some ⟨gw, 0, none⟩ ∧ vwc = cw := by simpa using hcw
          obtain ⟨rfl, rfl⟩ : vna = some ⟨gn, 0, none⟩ ∧ vnc = cn := by simpa using hcn
          obtain ⟨z, hz⟩ : ∃ z : Int, z = ln[k] + 2 := ⟨_, rfl⟩
          rw [← hz] at hcellw hcelln
          have hzi : z = (i : Int) + 2 := by rw [hz, hi]
          have HSN := Lib.hid (show Calls Try.prog 22 #[.pointer (some ⟨b, 0, none⟩), .int .i64 z] wr fun e w' => e = .returned (.tuple #[.string f.nm, .int .i64 0]) ∧ Below wr.heap.size wr w' from by rw [hzi]; exact sortName_any hh.out.1 i f hf)
          have HSO := Lib.hid (show ∀ w1, Below wr.heap.size wr w1 → Calls Try.prog 10 #[.pointer (some ⟨b, 0, none⟩), .string f.nm] w1 fun e w' => e = .returned (.tuple #[.int .i64 z, .int .i64 0]) ∧ Below w1.heap.size w1 w' from fun w1 hb =>
            (sort_any (hh.out.1.below hb) f.nm (hh.out.1.okx.sz f hfm) hw1 hw2).mono fun e w' h => ⟨by
              rw [h.1]; unfold sortRes; rw [hhas, hnum, hzi, wrap_of (show I64 ((i : Int) + 2) from ⟨by omega, by omega⟩)]; rfl, by rw [h.2]; exact Below.refl _ _⟩)
          have HC := Lib.hid (show ∀ w', Below wr.heap.size wr w' → w'.cell? ⟨gw, k, none⟩ = some (.int .i64 z) ∧ w'.cell? ⟨gn, k, none⟩ = some (.int .i64 z) from fun w' hb =>
            ⟨((bcell hb).1 gw k (World.block_lt_of_cell? wr ⟨gw, k, none⟩ hcellw)).trans hcellw, ((bcell hb).1 gn k (World.block_lt_of_cell? wr ⟨gn, k, none⟩ hcelln)).trans hcelln⟩)
          generalize f.nm = nm at *
          clear hi hf hlk hfm hw1 hw2 hhas hnum hi2000 hcw hcn hz hzi hcelln
          go_wp2_with fail
          refine HSN.out.mono ?_; rintro e w1 ⟨rfl, hb1⟩
          have HB1 := Lib.hid hb1
          clear HSN hb1 hcellw
          go_wp2_with fail
          refine (HSO.out w1 HB1.out).mono ?_; rintro e w2 ⟨rfl, hb2⟩
          have HB2 := Lib.hid (HB1.out.trans (hb2.mono HB1.out.size))
          have HI3 := Lib.hid (hh.out.below HB2.out)
          have cW : ∀ w', Below w2.heap.size w2 w' → w'.cell? ⟨gw, k, none⟩ = some (.int .i64 z) := fun w' hb => (HC.out w' (HB2.out.trans (hb.mono HB2.out.size))).1
          have cN : ∀ w', Below w2.heap.size w2 w' → w'.cell? ⟨gn, k, none⟩ = some (.int .i64 z) := fun w' hb => (HC.out w' (HB2.out.trans (hb.mono HB2.out.size))).2
          clear HSO hb2 HB1 HC hh
          go_wp2_with fail
          refine wp_region_flow3 24 (by kernel_rfl) (by kernel_rfl) ?_ (fun j _ v => (ZF145 gn gw k ln.length vnc vwc z) j v) (fun w' => Below w2.heap.size w2 w') (Below.drew (Below.refl _ w2)) ?_ ?_
          · intro i o' d hi ho hd
            have : i = 0 ∨ i = 1 ∨ i = 2 ∨ i = 3 ∨ i = 4 ∨ i = 5 ∨ i = 6 ∨ i = 7 ∨ i = 8 ∨ i = 9 ∨ i = 10 ∨ i = 11 ∨ i = 12 ∨ i = 13 ∨ i = 14 ∨ i = 15 ∨ i = 16 ∨ i = 17 ∨ i = 18 ∨ i = 19 ∨ i = 20 ∨ i = 21 ∨ i = 22 ∨ i = 23 := by omega
            rcases this with rfl | rfl | rfl | rfl | rfl | rfl | rfl | rfl | rfl | rfl | rfl | rfl | rfl | rfl | rfl | rfl | rfl | rfl | rfl | rfl | rfl | rfl | rfl | rfl <;> (simp at ho; subst ho; simp at hd; subst hd; simp)
          · intro i o' hi ho
            have : i = 0 ∨ i = 1 ∨ i = 2 ∨ i = 3 ∨ i = 4 ∨ i = 5 ∨ i = 6 ∨ i = 7 ∨ i = 8 ∨ i = 9 ∨ i = 10 ∨ i = 11 ∨ i = 12 ∨ i = 13 ∨ i = 14 ∨ i = 15 ∨ i = 16 ∨ i = 17 ∨ i = 18 ∨ i = 19 ∨ i = 20 ∨ i = 21 ∨ i = 22 ∨ i = 23 := by omega
            rcases this with rfl | rfl | rfl | rfl | rfl | rfl | rfl | rfl | rfl | rfl | rfl | rfl | rfl | rfl | rfl | rfl | rfl | rfl | rfl | rfl | rfl | rfl | rfl | rfl <;> (simp at ho; subst ho; intro a w' hC hd hr)
            · rw [if_pos (by rfl)]
              have e12 : a.tmps.getD 12 undef = .slice (some ⟨gn, 0, none⟩) ln.length vnc := hr 12 (free_of (by rfl))
              have e12' : a.tmps[12]?.getD undef = .slice (some ⟨gn, 0, none⟩) ln.length vnc := by simpa using e12
              exact flow_val (v := .slice (some ⟨gn, 0, none⟩) ln.length vnc) (by go_simp; try rfl) ⟨rfl, hC, fun _ _ _ h => h⟩
            · rw [if_pos (by rfl)]
              have e14 : a.tmps.getD 14 undef = .int .i64 k := hr 14 (free_of (by rfl))
              have e14' : a.tmps[14]?.getD undef = .int .i64 k := by simpa using e14
              exact flow_val (v := .int .i64 k) (by go_simp; try rfl) ⟨rfl, hC, fun _ _ _ h => h⟩
            · rw [if_pos (by rfl)]
              have e145 : a.tmps.getD 145 undef = .slice (some ⟨gn, 0, none⟩) ln.length vnc := hd ⟨0, .data⟩ (by simp) rfl _ _ rfl rfl
              have e145' : a.tmps[145]?.getD undef = .slice (some ⟨gn, 0, none⟩) ln.length vnc := by simpa using e145
              have e146 : a.tmps.getD 146 undef = .int .i64 k := hd ⟨1, .data⟩ (by simp) rfl _ _ rfl rfl
              have e146' : a.tmps[146]?.getD undef = .int .i64 k := by simpa using e146
              exact flow_val (v := .pointer (some ⟨gn, k, none⟩)) (by go_simp; try rfl) ⟨rfl, hC, fun _ _ _ h => h⟩
            · rw [if_pos (by rfl)]
              have e147 : a.tmps.getD 147 undef = .pointer (some ⟨gn, k, none⟩) := hd ⟨2, .data⟩ (by simp) rfl _ _ rfl rfl
              have e147' : a.tmps[147]?.getD undef = .pointer (some ⟨gn, k, none⟩) := by simpa using e147
              have c0 : w'.cell? ⟨gn, k, none⟩ = some (.int .i64 z) := cN w' hC
              exact flow_val (v := .int .i64 z) (by go_simp; try rfl) ⟨rfl, hC, fun _ _ _ h => h⟩
            · rw [if_pos (by rfl)]
              have e8 : a.tmps.getD 8 undef = .slice (some ⟨gw, 0, none⟩) ln.length vwc := hr 8 (free_of (by rfl))
              have e8' : a.tmps[8]?.getD undef = .slice (some ⟨gw, 0, none⟩) ln.length vwc := by simpa using e8
              exact flow_val (v := .slice (some ⟨gw, 0, none⟩) ln.length vwc) (by go_simp; try rfl) ⟨rfl, hC, fun _ _ _ h => h⟩
            · rw [if_pos (by rfl)]
              have e14 : a.tmps.getD 14 undef = .int .i64 k := hr 14 (free_of (by rfl))
              have e14' : a.tmps[14]?.getD undef = .int .i64 k := by simpa using e14
              exact flow_val (v := .int .i64 k) (by go_simp; try rfl) ⟨rfl, hC, fun _ _ _ h => h⟩
            · rw [if_pos (by rfl)]
              have e149 : a.tmps.getD 149 undef = .slice (some ⟨gw, 0, none⟩) ln.length vwc := hd ⟨4, .data⟩ (by simp) rfl _ _ rfl rfl
              have e149' : a.tmps[149]?.getD undef = .slice (some ⟨gw, 0, none⟩) ln.length vwc := by simpa using e149
              have e150 : a.tmps.getD 150 undef = .int .i64 k := hd ⟨5, .data⟩ (by simp) rfl _ _ rfl rfl
              have e150' : a.tmps[150]?.getD undef = .int .i64 k := by simpa using e150
              exact flow_val (v := .pointer (some ⟨gw, k, none⟩)) (by go_simp; try rfl) ⟨rfl, hC, fun _ _ _ h => h⟩
            · rw [if_pos (by rfl)]
              have e151 : a.tmps.getD 151 undef = .pointer (some ⟨gw, k, none⟩) := hd ⟨6, .data⟩ (by simp) rfl _ _ rfl rfl
              have e151' : a.tmps[151]?.getD undef = .pointer (some ⟨gw, k, none⟩) := by simpa using e151
              have c0 : w'.cell? ⟨gw, k, none⟩ = some (.int .i64 z) := cW w' hC
              exact flow_val (v := .int .i64 z) (by go_simp; try rfl) ⟨rfl, hC, fun _ _ _ h => h⟩
            · rw [if_pos (by rfl)]
              have e148 : a.tmps.getD 148 undef = .int .i64 z := hd ⟨3, .data⟩ (by simp) rfl _ _ rfl rfl
              have e148' : a.tmps[148]?.getD undef = .int .i64 z := by simpa using e148
              have e152 : a.tmps.getD 152 undef = .int .i64 z := hd ⟨7, .data⟩ (by simp) rfl _ _ rfl rfl
              have e152' : a.tmps[152]?.getD undef = .int .i64 z := by simpa using e152
              exact flow_val (v := .bool false) (by go_simp; try rfl) ⟨rfl, hC, fun _ _ _ h => h⟩
            · rw [if_pos (by rfl)]
              have e153 : a.tmps.getD 153 undef = .bool false := hd ⟨8, .data⟩ (by simp) rfl _ _ rfl rfl
              have e153' : a.tmps[153]?.getD undef = .bool false := by simpa using e153
              exact flow_val (v := .bool false) (by go_simp; try rfl) ⟨rfl, hC, fun _ _ _ h => h⟩
            · have eg := tmp_bool (hd ⟨9, .guard⟩ (by simp) rfl _ _ rfl rfl : a.tmps.getD 154 undef = .bool false)
              rw [if_pos (by simp [Region.wanted, yielded, eg])]
              clear eg
              have e16 : a.tmps.getD 16 undef = .int .i64 0 := hr 16 (free_of (by rfl))
              have e16' : a.tmps[16]?.getD undef = .int .i64 0 := by simpa using e16
              exact flow_val (v := .int .i64 0) (by go_simp; try rfl) ⟨rfl, hC, fun _ _ _ h => h⟩
            · have eg := tmp_bool (hd ⟨9, .guard⟩ (by simp) rfl _ _ rfl rfl : a.tmps.getD 154 undef = .bool false)
              rw [if_pos (by simp [Region.wanted, yielded, eg])]
              clear eg
              have e155 : a.tmps.getD 155 undef = .int .i64 0 := hd ⟨10, .data⟩ (by simp) rfl _ _ rfl rfl
              have e155' : a.tmps[155]?.getD undef = .int .i64 0 := by simpa using e155
              exact flow_val (v := .bool false) (by go_simp; try rfl) ⟨rfl, hC, fun _ _ _ h => h⟩
            · rw [if_pos (by rfl)]
              have e154 : a.tmps.getD 154 undef = .bool false := hd ⟨9, .data⟩ (by simp) rfl _ _ rfl rfl
              have e154' : a.tmps[154]?.getD undef = .bool false := by simpa using e154
              have e156 : a.tmps.getD 156 undef = .bool false := hd ⟨11, .data⟩ (by simp) rfl _ _ rfl rfl
              have e156' : a.tmps[156]?.getD undef = .bool false := by simpa using e156
              exact flow_val (v := .bool false) (by go_simp; try rfl) ⟨rfl, hC, fun _ _ _ h => h⟩
            · rw [if_pos (by rfl)]
              have e157 : a.tmps.getD 157 undef = .bool false := hd ⟨12, .data⟩ (by simp) rfl _ _ rfl rfl
              have e157' : a.tmps[157]?.getD undef = .bool false := by simpa using e157
              exact flow_val (v := .bool false) (by go_simp; try rfl) ⟨rfl, hC, fun _ _ _ h => h⟩
            · have eg := tmp_bool (hd ⟨13, .guard⟩ (by simp) rfl _ _ rfl rfl : a.tmps.getD 158 undef = .bool false)
              rw [if_pos (by simp [Region.wanted, yielded, eg])]
              clear eg
              have e18 : a.tmps.getD 18 undef = .int .i64 0 := hr 18 (free_of (by rfl))
              have e18' : a.tmps[18]?.getD undef = .int .i64 0 := by simpa using e18
              exact flow_val (v := .int .i64 0) (by go_simp; try rfl) ⟨rfl, hC, fun _ _ _ h => h⟩
            · have eg := tmp_bool (hd ⟨13, .guard⟩ (by simp) rfl _ _ rfl rfl : a.tmps.getD 158 undef = .bool false)
              rw [if_pos (by simp [Region.wanted, yielded, eg])]
              clear eg
              have e159 : a.tmps.getD 159 undef = .int .i64 0 := hd ⟨14, .data⟩ (by simp) rfl _ _ rfl rfl
              have e159' : a.tmps[159]?.getD undef = .int .i64 0 := by simpa using e159
              exact flow_val (v := .bool false) (by go_simp; try rfl) ⟨rfl, hC, fun _ _ _ h => h⟩
            · rw [if_pos (by rfl)]
              have e158 : a.tmps.getD 158 undef = .bool false := hd ⟨13, .data⟩ (by simp) rfl _ _ rfl rfl
              have e158' : a.tmps[158]?.getD undef = .bool false := by simpa using e158
              have e160 : a.tmps.getD 160 undef = .bool false := hd ⟨15, .data⟩ (by simp) rfl _ _ rfl rfl
              have e160' : a.tmps[160]?.getD undef = .bool false := by simpa using e160
              exact flow_val (v := .bool false) (by go_simp; try rfl) ⟨rfl, hC, fun _ _ _ h => h⟩
            · rw [if_pos (by rfl)]
              have e161 : a.tmps.getD 161 undef = .bool false := hd ⟨16, .data⟩ (by simp) rfl _ _ rfl rfl
              have e161' : a.tmps[161]?.getD undef = .bool false := by simpa using e161
              exact flow_val (v := .bool false) (by go_simp; try rfl) ⟨rfl, hC, fun _ _ _ h => h⟩
            · have eg := tmp_bool (hd ⟨17, .guard⟩ (by simp) rfl _ _ rfl rfl : a.tmps.getD 162 undef = .bool false)
              rw [if_pos (by simp [Region.wanted, yielded, eg])]
              clear eg
              have e17 : a.tmps.getD 17 undef = .int .i64 z := hr 17 (free_of (by rfl))
              have e17' : a.tmps[17]?.getD undef = .int .i64 z := by simpa using e17
              exact flow_val (v := .int .i64 z) (by go_simp; try rfl) ⟨rfl, hC, fun _ _ _ h => h⟩
            · have eg := tmp_bool (hd ⟨17, .guard⟩ (by simp) rfl _ _ rfl rfl : a.tmps.getD 162 undef = .bool false)
              rw [if_pos (by simp [Region.wanted, yielded, eg])]
              clear eg
              have e8 : a.tmps.getD 8 undef = .slice (some ⟨gw, 0, none⟩) ln.length vwc := hr 8 (free_of (by rfl))
              have e8' : a.tmps[8]?.getD undef = .slice (some ⟨gw, 0, none⟩) ln.length vwc := by simpa using e8
              exact flow_val (v := .slice (some ⟨gw, 0, none⟩) ln.length vwc) (by go_simp; try rfl) ⟨rfl, hC, fun _ _ _ h => h⟩
            · have eg := tmp_bool (hd ⟨17, .guard⟩ (by simp) rfl _ _ rfl rfl : a.tmps.getD 162 undef = .bool false)
              rw [if_pos (by simp [Region.wanted, yielded, eg])]
              clear eg
              have e14 : a.tmps.getD 14 undef = .int .i64 k := hr 14 (free_of (by rfl))
              have e14' : a.tmps[14]?.getD undef = .int .i64 k := by simpa using e14
              exact flow_val (v := .int .i64 k) (by go_simp; try rfl) ⟨rfl, hC, fun _ _ _ h => h⟩
            · have eg := tmp_bool (hd ⟨17, .guard⟩ (by simp) rfl _ _ rfl rfl : a.tmps.getD 162 undef = .bool false)
              rw [if_pos (by simp [Region.wanted, yielded, eg])]
              clear eg
              have e164 : a.tmps.getD 164 undef = .slice (some ⟨gw, 0, none⟩) ln.length vwc := hd ⟨19, .data⟩ (by simp) rfl _ _ rfl rfl
              have e164' : a.tmps[164]?.getD undef = .slice (some ⟨gw, 0, none⟩) ln.length vwc := by simpa using e164
              have e165 : a.tmps.getD 165 undef = .int .i64 k := hd ⟨20, .data⟩ (by simp) rfl _ _ rfl rfl
              have e165' : a.tmps[165]?.getD undef = .int .i64 k := by simpa using e165
              exact flow_val (v := .pointer (some ⟨gw, k, none⟩)) (by go_simp; try rfl) ⟨rfl, hC, fun _ _ _ h => h⟩
            · have eg := tmp_bool (hd ⟨17, .guard⟩ (by simp) rfl _ _ rfl rfl : a.tmps.getD 162 undef = .bool false)
              rw [if_pos (by simp [Region.wanted, yielded, eg])]
              clear eg
              have e166 : a.tmps.getD 166 undef = .pointer (some ⟨gw, k, none⟩) := hd ⟨21, .data⟩ (by simp) rfl _ _ rfl rfl
              have e166' : a.tmps[166]?.getD undef = .pointer (some ⟨gw, k, none⟩) := by simpa using e166
              have c0 : w'.cell? ⟨gw, k, none⟩ = some (.int .i64 z) := cW w' hC
              exact flow_val (v := .int .i64 z) (by go_simp; try rfl) ⟨rfl, hC, fun _ _ _ h => h⟩
            · have eg := tmp_bool (hd ⟨17, .guard⟩ (by simp) rfl _ _ rfl rfl : a.tmps.getD 162 undef = .bool false)
              rw [if_pos (by simp [Region.wanted, yielded, eg])]
              clear eg
              have e163 : a.tmps.getD 163 undef = .int .i64 z := hd ⟨18, .data⟩ (by simp) rfl _ _ rfl rfl
              have e163' : a.tmps[163]?.getD undef = .int .i64 z := by simpa using e163
              have e167 : a.tmps.getD 167 undef = .int .i64 z := hd ⟨22, .data⟩ (by simp) rfl _ _ rfl rfl
              have e167' : a.tmps[167]?.getD undef = .int .i64 z := by simpa using e167
              exact flow_val (v := .bool false) (by go_simp; try rfl) ⟨rfl, hC, fun _ _ _ h => h⟩
          intro vs' w4 hb4 hZ
          have v17 : vs' 17 = .bool false := hZ 17 _ _ (by omega) rfl rfl
          have v23 : vs' 23 = .bool false := hZ 23 _ _ (by omega) rfl rfl
          clear hZ cW cN
          simp only [List.drop_succ_cons, List.drop_zero, List.take_succ_cons, List.take_zero, putAll, v17, v23]
          have HI4 := Lib.hid (HI3.out.below hb4)
          clear hb4 HI3 HB2
          go_wp2_with fail
          go_roundw
          case rel => exact ⟨k + 1, by go_num, by omega, HI4⟩
          case measure => simp [intOf]; omega
        case neg =>
        have hkl' : ¬ (k : Int) < ln.length := by omega
        have HROW := hh
        clear hh HEX HGW
        go_wp2_with fail
        go_loopw [19] (fun vi wr => ∃ k : Nat, vi = .int .i64 k ∧ k ≤ lf.length ∧ Hid (I3 w B b xz yz (.slice vwa ln.length vwc) (.slice vha lf.length vhc) (.slice vna ln.length vnc) (.slice vfa lf.length vfc) ln lf wr)) (fun vi _ => lf.length - (intOf vi).toNat)
        case atStart => exact ⟨0, rfl, by omega, HROW⟩
        case round =>
          obtain ⟨k, rfl, hk, hh⟩ := hrel
          clear HROW
          by_cases hkl : k < lf.length
          case pos =>
            have hkl' : (k : Int) < lf.length := by omega
            obtain ⟨i, f, hi, hf, hlk⟩ := HEY.out k hkl
            have hfm := List.mem_of_getElem? hf
            obtain ⟨hhas, hnum⟩ := look_has hlk
            obtain ⟨la, hla, hargs⟩ := hh.out.1.oky.ar f hfm
            obtain ⟨gw, cw, hcw, hcellw⟩ := ints_cell hh.out.2.2.1 hkl
            obtain ⟨gn, cn, hcn, hcelln⟩ := ints_cell hh.out.2.2.2.2.1 hkl
            obtain ⟨rfl, rfl⟩ : vha = some ⟨gw, 0, none⟩ ∧ vhc = cw := by simpa using hcw
            obtain ⟨rfl, rfl⟩ : vfa = some ⟨gn, 0, none⟩ ∧ vfc = cn := by simpa using hcn
            obtain ⟨z, hz⟩ : ∃ z : Int, z = lf[k] := ⟨_, rfl⟩
            rw [← hz] at hcellw hcelln
            have hzi : z = (i : Int) := by rw [hz, hi]
            have HSN := Lib.hid (show Calls Try.prog 14 #[.pointer (some ⟨b, 0, none⟩), .int .i64 z] wr fun e w' => ∃ (za : Option Addr) (zn zc : Nat), e = .returned (.tuple #[.agg #[.string f.nm, .slice za zn zc, .int .i64 f.res, .bool f.df], .int .i64 0]) ∧ Below wr.heap.size wr w' from by
              rw [hzi]; exact (info_any hh.out.1 i f hf la hla hargs).mono fun e w' ⟨⟨v', h1, h3⟩, h2⟩ => by
                obtain ⟨za, zc, rfl, _⟩ := own_slice h3
                exact ⟨za, _, zc, h1, h2⟩)
            have HSO := Lib.hid (show ∀ w1, Below wr.heap.size wr w1 → Calls Try.prog 13 #[.pointer (some ⟨b, 0, none⟩), .string f.nm] w1 fun e w' => e = .returned (.tuple #[.int .i64 z, .int .i64 0]) ∧ Below w1.heap.size w1 w' from fun w1 hb =>
              (fun_any (hh.out.1.below hb) f.nm (hh.out.1.oky.sz f hfm)).mono fun e w' h => ⟨by rw [h.1]; unfold funRes; rw [hhas, hnum, hzi]; rfl, by rw [h.2]; exact Below.refl _ _⟩)
            have HC := Lib.hid (show ∀ w', Below wr.heap.size wr w' → w'.cell? ⟨gw, k, none⟩ = some (.int .i64 z) ∧ w'.cell? ⟨gn, k, none⟩ = some (.int .i64 z) from fun w' hb =>
              ⟨((bcell hb).1 gw k (World.block_lt_of_cell? wr ⟨gw, k, none⟩ hcellw)).trans hcellw, ((bcell hb).1 gn k (World.block_lt_of_cell? wr ⟨gn, k, none⟩ hcelln)).trans hcelln⟩)
            generalize f.nm = nm at *
            generalize f.res = rs at *
            generalize f.df = df at *
            clear hi hf hlk hfm hhas hnum hcw hcn hz hzi hcelln hargs hla
            go_wp2_with fail
            refine HSN.out.mono ?_; rintro e w1 ⟨za, zn, zc, rfl, hb1⟩
            have HB1 := Lib.hid hb1
            clear HSN hb1 hcellw
            go_wp2_with fail
            refine (HSO.out _ (by have hb1 := HB1.out; (repeat (first | (with_reducible exact Below.refl _ _) | ((with_reducible refine Below.alloc ?_ ?_ _); rotate_left; focus (first | (simp; done) | (simp; omega) | (have q0 := hb1.size; (try simp at q0); (try simp); omega))) | ((with_reducible refine Below.setCell ?_ ?_ _); rotate_left; focus (first | (simp; done) | (simp; omega) | (have q0 := hb1.size; (try simp at q0); (try simp); omega))) | (with_reducible refine Below.drew ?_) | (with_reducible refine Below.drewN' ?_ _) | (with_reducible refine Below.trans ?_ (hb1.mono ?_); rotate_left; focus (first | (simp; done) | (simp; omega) | (have q0 := hb1.size; (try simp at q0); (try simp); omega))))))).mono ?_; rintro e w2 ⟨rfl, hb2⟩
            have HB2 := Lib.hid (show Below wr.heap.size wr w2 by have hb1 := HB1.out; (repeat (first | (with_reducible exact Below.refl _ _) | ((with_reducible refine Below.alloc ?_ ?_ _); rotate_left; focus (first | (simp; done) | (simp; omega) | (have q0 := hb1.size; (try simp at q0); have q1 := hb2.size; (try simp at q1); (try simp); omega))) | ((with_reducible refine Below.setCell ?_ ?_ _); rotate_left; focus (first | (simp; done) | (simp; omega) | (have q0 := hb1.size; (try simp at q0); have q1 := hb2.size; (try simp at q1); (try simp); omega))) | (with_reducible refine Below.drew ?_) | (with_reducible refine Below.drewN' ?_ _) | (with_reducible refine Below.trans ?_ (hb1.mono ?_); rotate_left; focus (first | (simp; done) | (simp; omega) | (have q0 := hb1.size; (try simp at q0); have q1 := hb2.size; (try simp at q1); (try simp); omega))) | (with_reducible refine Below.trans ?_ (hb2.mono ?_); rotate_left; focus (first | (simp; done) | (simp; omega) | (have q0 := hb1.size; (try simp at q0); have q1 := hb2.size; (try simp at q1); (try simp); omega))))))
            have HI3 := Lib.hid (hh.out.below HB2.out)
            have cW : ∀ w', Below w2.heap.size w2 w' → w'.cell? ⟨gw, k, none⟩ = some (.int .i64 z) := fun w' hb => (HC.out w' (HB2.out.trans (hb.mono HB2.out.size))).1
            have cN : ∀ w', Below w2.heap.size w2 w' → w'.cell? ⟨gn, k, none⟩ = some (.int .i64 z) := fun w' hb => (HC.out w' (HB2.out.trans (hb.mono HB2.out.size))).2
            clear HSO hb2 HB1 HC hh
            go_wp2_with fail
            refine wp_region_flow3 24 (by kernel_rfl) (by kernel_rfl) ?_ (fun j _ v => (ZF192 gn gw k lf.length vfc vhc z) j v) (fun w' => Below w2.heap.size w2 w') (Below.drew (Below.refl _ w2)) ?_ ?_
            · intro i o' d hi ho hd
              have : i = 0 ∨ i = 1 ∨ i = 2 ∨ i = 3 ∨ i = 4 ∨ i = 5 ∨ i = 6 ∨ i = 7 ∨ i = 8 ∨ i = 9 ∨ i = 10 ∨ i = 11 ∨ i = 12 ∨ i = 13 ∨ i = 14 ∨ i = 15 ∨ i = 16 ∨ i = 17 ∨ i = 18 ∨ i = 19 ∨ i = 20 ∨ i = 21 ∨ i = 22 ∨ i = 23 := by omega
              rcases this with rfl | rfl | rfl | rfl | rfl | rfl | rfl | rfl | rfl | rfl | rfl | rfl | rfl | rfl | rfl | rfl | rfl | rfl | rfl | rfl | rfl | rfl | rfl | rfl <;> (simp at ho; subst ho; simp at hd; subst hd; simp)
            · intro i o' hi ho
              have : i = 0 ∨ i = 1 ∨ i = 2 ∨ i = 3 ∨ i = 4 ∨ i = 5 ∨ i = 6 ∨ i = 7 ∨ i = 8 ∨ i = 9 ∨ i = 10 ∨ i = 11 ∨ i = 12 ∨ i = 13 ∨ i = 14 ∨ i = 15 ∨ i = 16 ∨ i = 17 ∨ i = 18 ∨ i = 19 ∨ i = 20 ∨ i = 21 ∨ i = 22 ∨ i = 23 := by omega
              rcases this with rfl | rfl | rfl | rfl | rfl | rfl | rfl | rfl | rfl | rfl | rfl | rfl | rfl | rfl | rfl | rfl | rfl | rfl | rfl | rfl | rfl | rfl | rfl | rfl <;> (simp at ho; subst ho; intro a w' hC hd hr)
              · rw [if_pos (by rfl)]
                have e13 : a.tmps.getD 13 undef = .slice (some ⟨gn, 0, none⟩) lf.length vfc := hr 13 (free_of (by rfl))
                have e13' : a.tmps[13]?.getD undef = .slice (some ⟨gn, 0, none⟩) lf.length vfc := by simpa using e13
                exact flow_val (v := .slice (some ⟨gn, 0, none⟩) lf.length vfc) (by go_simp; try rfl) ⟨rfl, hC, fun _ _ _ h => h⟩
              · rw [if_pos (by rfl)]
                have e19 : a.tmps.getD 19 undef = .int .i64 k := hr 19 (free_of (by rfl))
                have e19' : a.tmps[19]?.getD undef = .int .i64 k := by simpa using e19
                exact flow_val (v := .int .i64 k) (by go_simp; try rfl) ⟨rfl, hC, fun _ _ _ h => h⟩
              · rw [if_pos (by rfl)]
                have e192 : a.tmps.getD 192 undef = .slice (some ⟨gn, 0, none⟩) lf.length vfc := hd ⟨0, .data⟩ (by simp) rfl _ _ rfl rfl
                have e192' : a.tmps[192]?.getD undef = .slice (some ⟨gn, 0, none⟩) lf.length vfc := by simpa using e192
                have e193 : a.tmps.getD 193 undef = .int .i64 k := hd ⟨1, .data⟩ (by simp) rfl _ _ rfl rfl
                have e193' : a.tmps[193]?.getD undef = .int .i64 k := by simpa using e193
                exact flow_val (v := .pointer (some ⟨gn, k, none⟩)) (by go_simp; try rfl) ⟨rfl, hC, fun _ _ _ h => h⟩
              · rw [if_pos (by rfl)]
                have e194 : a.tmps.getD 194 undef = .pointer (some ⟨gn, k, none⟩) := hd ⟨2, .data⟩ (by simp) rfl _ _ rfl rfl
                have e194' : a.tmps[194]?.getD undef = .pointer (some ⟨gn, k, none⟩) := by simpa using e194
                have c0 : w'.cell? ⟨gn, k, none⟩ = some (.int .i64 z) := cN w' hC
                exact flow_val (v := .int .i64 z) (by go_simp; try rfl) ⟨rfl, hC, fun _ _ _ h => h⟩
              · rw [if_pos (by rfl)]
                have e9 : a.tmps.getD 9 undef = .slice (some ⟨gw, 0, none⟩) lf.length vhc := hr 9 (free_of (by rfl))
                have e9' : a.tmps[9]?.getD undef = .slice (some ⟨gw, 0, none⟩) lf.length vhc := by simpa using e9
                exact flow_val (v := .slice (some ⟨gw, 0, none⟩) lf.length vhc) (by go_simp; try rfl) ⟨rfl, hC, fun _ _ _ h => h⟩
              · rw [if_pos (by rfl)]
                have e19 : a.tmps.getD 19 undef = .int .i64 k := hr 19 (free_of (by rfl))
                have e19' : a.tmps[19]?.getD undef = .int .i64 k := by simpa using e19
                exact flow_val (v := .int .i64 k) (by go_simp; try rfl) ⟨rfl, hC, fun _ _ _ h => h⟩
              · rw [if_pos (by rfl)]
                have e196 : a.tmps.getD 196 undef = .slice (some ⟨gw, 0, none⟩) lf.length vhc := hd ⟨4, .data⟩ (by simp) rfl _ _ rfl rfl
                have e196' : a.tmps[196]?.getD undef = .slice (some ⟨gw, 0, none⟩) lf.length vhc := by simpa using e196
                have e197 : a.tmps.getD 197 undef = .int .i64 k := hd ⟨5, .data⟩ (by simp) rfl _ _ rfl rfl
                have e197' : a.tmps[197]?.getD undef = .int .i64 k := by simpa using e197
                exact flow_val (v := .pointer (some ⟨gw, k, none⟩)) (by go_simp; try rfl) ⟨rfl, hC, fun _ _ _ h => h⟩
              · rw [if_pos (by rfl)]
                have e198 : a.tmps.getD 198 undef = .pointer (some ⟨gw, k, none⟩) := hd ⟨6, .data⟩ (by simp) rfl _ _ rfl rfl
                have e198' : a.tmps[198]?.getD undef = .pointer (some ⟨gw, k, none⟩) := by simpa using e198
                have c0 : w'.cell? ⟨gw, k, none⟩ = some (.int .i64 z) := cW w' hC
                exact flow_val (v := .int .i64 z) (by go_simp; try rfl) ⟨rfl, hC, fun _ _ _ h => h⟩
              · rw [if_pos (by rfl)]
                have e195 : a.tmps.getD 195 undef = .int .i64 z := hd ⟨3, .data⟩ (by simp) rfl _ _ rfl rfl
                have e195' : a.tmps[195]?.getD undef = .int .i64 z := by simpa using e195
                have e199 : a.tmps.getD 199 undef = .int .i64 z := hd ⟨7, .data⟩ (by simp) rfl _ _ rfl rfl
                have e199' : a.tmps[199]?.getD undef = .int .i64 z := by simpa using e199
                exact flow_val (v := .bool false) (by go_simp; try rfl) ⟨rfl, hC, fun _ _ _ h => h⟩
              · rw [if_pos (by rfl)]
                have e200 : a.tmps.getD 200 undef = .bool false := hd ⟨8, .data⟩ (by simp) rfl _ _ rfl rfl
                have e200' : a.tmps[200]?.getD undef = .bool false := by simpa using e200
                exact flow_val (v := .bool false) (by go_simp; try rfl) ⟨rfl, hC, fun _ _ _ h => h⟩
              · have eg := tmp_bool (hd ⟨9, .guard⟩ (by simp) rfl _ _ rfl rfl : a.tmps.getD 201 undef = .bool false)
                rw [if_pos (by simp [Region.wanted, yielded, eg])]
                clear eg
                have e21 : a.tmps.getD 21 undef = .int .i64 0 := hr 21 (free_of (by rfl))
                have e21' : a.tmps[21]?.getD undef = .int .i64 0 := by simpa using e21
                exact flow_val (v := .int .i64 0) (by go_simp; try rfl) ⟨rfl, hC, fun _ _ _ h => h⟩
              · have eg := tmp_bool (hd ⟨9, .guard⟩ (by simp) rfl _ _ rfl rfl : a.tmps.getD 201 undef = .bool false)
                rw [if_pos (by simp [Region.wanted, yielded, eg])]
                clear eg
                have e202 : a.tmps.getD 202 undef = .int .i64 0 := hd ⟨10, .data⟩ (by simp) rfl _ _ rfl rfl
                have e202' : a.tmps[202]?.getD undef = .int .i64 0 := by simpa using e202
                exact flow_val (v := .bool false) (by go_simp; try rfl) ⟨rfl, hC, fun _ _ _ h => h⟩
              · rw [if_pos (by rfl)]
                have e201 : a.tmps.getD 201 undef = .bool false := hd ⟨9, .data⟩ (by simp) rfl _ _ rfl rfl
                have e201' : a.tmps[201]?.getD undef = .bool false := by simpa using e201
                have e203 : a.tmps.getD 203 undef = .bool false := hd ⟨11, .data⟩ (by simp) rfl _ _ rfl rfl
                have e203' : a.tmps[203]?.getD undef = .bool false := by simpa using e203
                exact flow_val (v := .bool false) (by go_simp; try rfl) ⟨rfl, hC, fun _ _ _ h => h⟩
              · rw [if_pos (by rfl)]
                have e204 : a.tmps.getD 204 undef = .bool false := hd ⟨12, .data⟩ (by simp) rfl _ _ rfl rfl
                have e204' : a.tmps[204]?.getD undef = .bool false := by simpa using e204
                exact flow_val (v := .bool false) (by go_simp; try rfl) ⟨rfl, hC, fun _ _ _ h => h⟩
              · have eg := tmp_bool (hd ⟨13, .guard⟩ (by simp) rfl _ _ rfl rfl : a.tmps.getD 205 undef = .bool false)
                rw [if_pos (by simp [Region.wanted, yielded, eg])]
                clear eg
                have e23 : a.tmps.getD 23 undef = .int .i64 0 := hr 23 (free_of (by rfl))
                have e23' : a.tmps[23]?.getD undef = .int .i64 0 := by simpa using e23
                exact flow_val (v := .int .i64 0) (by go_simp; try rfl) ⟨rfl, hC, fun _ _ _ h => h⟩
              · have eg := tmp_bool (hd ⟨13, .guard⟩ (by simp) rfl _ _ rfl rfl : a.tmps.getD 205 undef = .bool false)
                rw [if_pos (by simp [Region.wanted, yielded, eg])]
                clear eg
                have e206 : a.tmps.getD 206 undef = .int .i64 0 := hd ⟨14, .data⟩ (by simp) rfl _ _ rfl rfl
                have e206' : a.tmps[206]?.getD undef = .int .i64 0 := by simpa using e206
                exact flow_val (v := .bool false) (by go_simp; try rfl) ⟨rfl, hC, fun _ _ _ h => h⟩
              · rw [if_pos (by rfl)]
                have e205 : a.tmps.getD 205 undef = .bool false := hd ⟨13, .data⟩ (by simp) rfl _ _ rfl rfl
                have e205' : a.tmps[205]?.getD undef = .bool false := by simpa using e205
                have e207 : a.tmps.getD 207 undef = .bool false := hd ⟨15, .data⟩ (by simp) rfl _ _ rfl rfl
                have e207' : a.tmps[207]?.getD undef = .bool false := by simpa using e207
                exact flow_val (v := .bool false) (by go_simp; try rfl) ⟨rfl, hC, fun _ _ _ h => h⟩
              · rw [if_pos (by rfl)]
                have e208 : a.tmps.getD 208 undef = .bool false := hd ⟨16, .data⟩ (by simp) rfl _ _ rfl rfl
                have e208' : a.tmps[208]?.getD undef = .bool false := by simpa using e208
                exact flow_val (v := .bool false) (by go_simp; try rfl) ⟨rfl, hC, fun _ _ _ h => h⟩
              · have eg := tmp_bool (hd ⟨17, .guard⟩ (by simp) rfl _ _ rfl rfl : a.tmps.getD 209 undef = .bool false)
                rw [if_pos (by simp [Region.wanted, yielded, eg])]
                clear eg
                have e22 : a.tmps.getD 22 undef = .int .i64 z := hr 22 (free_of (by rfl))
                have e22' : a.tmps[22]?.getD undef = .int .i64 z := by simpa using e22
                exact flow_val (v := .int .i64 z) (by go_simp; try rfl) ⟨rfl, hC, fun _ _ _ h => h⟩
              · have eg := tmp_bool (hd ⟨17, .guard⟩ (by simp) rfl _ _ rfl rfl : a.tmps.getD 209 undef = .bool false)
                rw [if_pos (by simp [Region.wanted, yielded, eg])]
                clear eg
                have e9 : a.tmps.getD 9 undef = .slice (some ⟨gw, 0, none⟩) lf.length vhc := hr 9 (free_of (by rfl))
                have e9' : a.tmps[9]?.getD undef = .slice (some ⟨gw, 0, none⟩) lf.length vhc := by simpa using e9
                exact flow_val (v := .slice (some ⟨gw, 0, none⟩) lf.length vhc) (by go_simp; try rfl) ⟨rfl, hC, fun _ _ _ h => h⟩
              · have eg := tmp_bool (hd ⟨17, .guard⟩ (by simp) rfl _ _ rfl rfl : a.tmps.getD 209 undef = .bool false)
                rw [if_pos (by simp [Region.wanted, yielded, eg])]
                clear eg
                have e19 : a.tmps.getD 19 undef = .int .i64 k := hr 19 (free_of (by rfl))
                have e19' : a.tmps[19]?.getD undef = .int .i64 k := by simpa using e19
                exact flow_val (v := .int .i64 k) (by go_simp; try rfl) ⟨rfl, hC, fun _ _ _ h => h⟩
              · have eg := tmp_bool (hd ⟨17, .guard⟩ (by simp) rfl _ _ rfl rfl : a.tmps.getD 209 undef = .bool false)
                rw [if_pos (by simp [Region.wanted, yielded, eg])]
                clear eg
                have e211 : a.tmps.getD 211 undef = .slice (some ⟨gw, 0, none⟩) lf.length vhc := hd ⟨19, .data⟩ (by simp) rfl _ _ rfl rfl
                have e211' : a.tmps[211]?.getD undef = .slice (some ⟨gw, 0, none⟩) lf.length vhc := by simpa using e211
                have e212 : a.tmps.getD 212 undef = .int .i64 k := hd ⟨20, .data⟩ (by simp) rfl _ _ rfl rfl
                have e212' : a.tmps[212]?.getD undef = .int .i64 k := by simpa using e212
                exact flow_val (v := .pointer (some ⟨gw, k, none⟩)) (by go_simp; try rfl) ⟨rfl, hC, fun _ _ _ h => h⟩
              · have eg := tmp_bool (hd ⟨17, .guard⟩ (by simp) rfl _ _ rfl rfl : a.tmps.getD 209 undef = .bool false)
                rw [if_pos (by simp [Region.wanted, yielded, eg])]
                clear eg
                have e213 : a.tmps.getD 213 undef = .pointer (some ⟨gw, k, none⟩) := hd ⟨21, .data⟩ (by simp) rfl _ _ rfl rfl
                have e213' : a.tmps[213]?.getD undef = .pointer (some ⟨gw, k, none⟩) := by simpa using e213
                have c0 : w'.cell? ⟨gw, k, none⟩ = some (.int .i64 z) := cW w' hC
                exact flow_val (v := .int .i64 z) (by go_simp; try rfl) ⟨rfl, hC, fun _ _ _ h => h⟩
              · have eg := tmp_bool (hd ⟨17, .guard⟩ (by simp) rfl _ _ rfl rfl : a.tmps.getD 209 undef = .bool false)
                rw [if_pos (by simp [Region.wanted, yielded, eg])]
                clear eg
                have e210 : a.tmps.getD 210 undef = .int .i64 z := hd ⟨18, .data⟩ (by simp) rfl _ _ rfl rfl
                have e210' : a.tmps[210]?.getD undef = .int .i64 z := by simpa using e210
                have e214 : a.tmps.getD 214 undef = .int .i64 z := hd ⟨22, .data⟩ (by simp) rfl _ _ rfl rfl
                have e214' : a.tmps[214]?.getD undef = .int .i64 z := by simpa using e214
                exact flow_val (v := .bool false) (by go_simp; try rfl) ⟨rfl, hC, fun _ _ _ h => h⟩
            intro vs' w4 hb4 hZ
            have v17 : vs' 17 = .bool false := hZ 17 _ _ (by omega) rfl rfl
            have v23 : vs' 23 = .bool false := hZ 23 _ _ (by omega) rfl rfl
            clear hZ cW cN
            simp only [List.drop_succ_cons, List.drop_zero, List.take_succ_cons, List.take_zero, putAll, v17, v23]
            have HI4 := Lib.hid (HI3.out.below hb4)
            clear hb4 HI3 HB2
            go_wp2_with fail
            go_roundw
            case rel => exact ⟨k + 1, by go_num, by omega, HI4⟩
            case measure => simp [intOf]; omega
          case neg =>
          have hkl' : ¬ (k : Int) < lf.length := by omega
          have HLW := Lib.hid hh.out.2.2.2.2.2
          clear hh HEY
          go_wp2_with fail
          refine (known_calls _).mono ?_; rintro e wn ⟨rfl, hbn⟩
          have HB3 := Lib.hid (HLW.out.trans (hbn.mono HLW.out.size))
          clear hbn
          go_wp2_with fail
          go_ret
          exact ⟨rfl, HB3.out⟩
end Go.Proofs.Ytggbnjdbbomjoaa
