/- Walks of the sorts package: DeclareFun. -/
import Derived.Test.YtggbnjdbbomjoaaSorI
namespace Go.Proofs.Ytggbnjdbbomjoaa
open Go.RowKit
def words17 : List ByteArray := [⟨#[116, 114, 117, 101]⟩, ⟨#[102, 97, 108, 115, 101]⟩, ⟨#[110, 111, 116]⟩, ⟨#[97, 110, 100]⟩, ⟨#[111, 114]⟩, ⟨#[120, 111, 114]⟩, ⟨#[61, 62]⟩, ⟨#[105, 116, 101]⟩, ⟨#[61]⟩, ⟨#[100, 105, 115, 116, 105, 110, 99, 116]⟩, ⟨#[43]⟩, ⟨#[45]⟩, ⟨#[42]⟩, ⟨#[60, 61]⟩, ⟨#[60]⟩, ⟨#[62, 61]⟩, ⟨#[62]⟩]
/-- what is told of one more function -/
def DeclF (B : Nat) (w : World) (b : Nat) (x y : Nm) (f : Fd) (l : List Int) (e : Ending) (w' : World) : Prop :=
  (∃ (v er : Int), er ≠ 0 ∧ e = .returned (.tuple #[.int .i64 v, .int .i64 er]) ∧ STab B w' b x y ∧ Below B w w' ∧ Chg b x y w w') ∨
  (∃ A' ar', e = .returned (.tuple #[.int .i64 y.fs.length, .int .i64 0]) ∧ l.length ≤ 20 ∧ Maps.has y.D (kS f.nm) = false ∧ w'.ownsRow B 27 1 ar' l.length (l.map (Value.int .i64)) ∧ STab B w' b x (y.add ⟨f.nm, ar', f.res, f.df⟩ A') ∧ Below B w w' ∧ Chg b x y w w')
/-- the two boxes of the call -/
def StF (w : World) (b : Nat) (f : Fd) (w' : World) : Prop := Below w.heap.size w w' ∧ RowB w' w.heap.size 25 [.pointer (some ⟨b, 0, none⟩)] ∧ RowB w' (w.heap.size + 1) 30 f.cells
theorem StF.below {w w' w'' : World} {b : Nat} {f : Fd} (h : StF w b f w') (hb : Below w'.heap.size w' w'') : StF w b f w'' :=
  ⟨h.1.trans (hb.mono h.1.size), h.2.1.kept (S := fun _ => False) (Ch.ofBelow hb) (fun e => e), h.2.2.kept (S := fun _ => False) (Ch.ofBelow hb) (fun e => e)⟩
theorem StF.cells {w w' : World} {b : Nat} {f : Fd} (h : StF w b f w') : w'.cell? ⟨w.heap.size, 0, none⟩ = some (.pointer (some ⟨b, 0, none⟩)) ∧ w'.cell? ⟨w.heap.size + 1, 0, none⟩ = some (.string f.nm) ∧ w'.cell? ⟨w.heap.size + 1, 1, none⟩ = some f.ar ∧
    w'.cell? ⟨w.heap.size + 1, 2, none⟩ = some (.int .i64 f.res) ∧ w'.cell? ⟨w.heap.size + 1, 3, none⟩ = some (.bool f.df) ∧ w'.frozen? ⟨w.heap.size + 1, 1, none⟩ = false ∧ w.heap.size + 1 < w'.heap.size :=
  ⟨h.2.1.cell 0, h.2.2.cell 0, h.2.2.cell 1, h.2.2.cell 2, h.2.2.cell 3, h.2.2.free 1, h.2.2.lt⟩
def PostF (B b : Nat) (x y : Nm) (f' : Fd) (l : List Int) (w' : World) : Prop :=
  (addE y.D f'.nm y.fs.length ≠ 0 ∧ STab B w' b x y) ∨
  (addE y.D f'.nm y.fs.length = 0 ∧ Maps.has y.D (kS f'.nm) = false ∧ ∃ A', STab B w' b x (y.add f' A') ∧ w'.ownsRow B 27 1 f'.ar l.length (l.map (Value.int .i64)))
/-- what is known of the world while the call of add is pending, or behind it -/
structure CF (B : Nat) (w0 : World) (b : Nat) (x y : Nm) (f' : Fd) (l : List Int) (s : Array Bool) (w' : World) : Prop where
  tb : RowB w' w0.heap.size 25 [.pointer (some ⟨b, 0, none⟩)]
  fb : RowB w' (w0.heap.size + 1) 30 f'.cells
  low : Below B w0 w'
  chg : Chg b x y w0 w'
  pre : s.getD 4 true = false → STab B w' b x y ∧ w'.ownsRow B 27 1 f'.ar l.length (l.map (Value.int .i64))
  post : s.getD 4 true = true → PostF B b x y f' l w'
theorem getD_set_true' {s : Array Bool} {i : Nat} (_ : s.getD i true = false) : (s.setIfInBounds i true).getD i true = true := by
  by_cases h : i < s.size <;> simp [h]
theorem CF.set {B : Nat} {w0 : World} {b : Nat} {x y : Nm} {f' : Fd} {l : List Int} {s : Array Bool} {w' : World} (h : CF B w0 b x y f' l s w') {i : Nat} (hi : i ≠ 4) : CF B w0 b x y f' l (s.setIfInBounds i true) w' :=
  ⟨h.tb, h.fb, h.low, h.chg, fun e => h.pre (by rwa [getD_set_ne true hi] at e), fun e => h.post (by rwa [getD_set_ne true hi] at e)⟩
def addR (e : Int) (n : Nat) : Int := if e = 0 then n else 0
/-- the values of the operations of 'return t.funs.add(f)' -/
def ZF (b : Nat) (f' : Fd) (e : Int) (n : Nat) : Nat → Value → Prop
  | 2, v => v = .pointer (some ⟨b, 3, none⟩)
  | 3, v => v = .agg f'.cells.toArray
  | 4, v => v = .tuple #[.int .i64 (addR e n), .int .i64 e]
  | 5, v => v = .int .i64 (addR e n)
  | 6, v => v = .int .i64 e
  | _, v => v = .pointer (some ⟨b, 0, none⟩)
set_option maxRecDepth 100000 in
set_option maxHeartbeats 1000000 in
theorem declareFun_any {B B0 : Nat} {w : World} {b : Nat} {x y : Nm} (h : STab B w b x y) (f : Fd) (hs : f.nm.size ≤ maxLen) (hres : I64 f.res) (l : List Int) (hl : l.length ≤ 40) (hI : ∀ z ∈ l, I64 z)
    (hv : w.ownsRow B0 27 1 f.ar l.length (l.map (Value.int .i64))) :
    Calls Try.prog 11 #[.pointer (some ⟨b, 0, none⟩), .agg f.cells.toArray] w (DeclF B w b x y f l) := by
  have HN := Lib.hid (show ∀ w', Below w.heap.size w w' → Calls Try.prog 24 #[.pointer (some ⟨b, 0, none⟩)] w' fun e w'' => e = .returned (.bool false) ∧ w'' = w' from fun w' hb => none_tab (h.below hb).toSTab0)
  have HT := Lib.hid h
  have HV := Lib.hid (show ∀ w', Below w.heap.size w w' → w'.ownsRow B0 27 1 f.ar l.length (l.map (Value.int .i64)) from fun w' hb => ownsRow_ch (S := fun _ => False) hv (Ch.ofBelow hb) (fun _ _ e => e))
  have HI := Lib.hid hI
  have HST := Lib.hid (show StF w b f ((w.alloc (.cells #[.pointer (some ⟨b, 0, none⟩)] 25)).alloc (.cells f.cells.toArray 30)) from
    ⟨((Below.refl _ w).alloc (Nat.le_refl _) _).alloc (by simp) _, RowB.kept (S := fun _ => False) (RowB.new w [.pointer (some ⟨b, 0, none⟩)] 25) ((Ch.refl _ _).alloc _) (fun e => e), by
      have := RowB.new (w.alloc (.cells #[.pointer (some ⟨b, 0, none⟩)] 25)) f.cells 30
      simpa using this⟩)
  obtain ⟨ao, cap, hao, _⟩ := own_slice hv
  clear h hv hI
  go_enter Try.func11, Try.ntmps11
  go_wp2_with fail
  refine (HN.out _ HST.out.1).mono ?_; rintro e w1 ⟨rfl, rfl⟩
  clear HN
  obtain ⟨t0, k0, k1, k2, k3, u1, sz⟩ := HST.out.cells
  rw [hao] at k1
  generalize hW : (w.alloc (.cells #[.pointer (some ⟨b, 0, none⟩)] 25)).alloc (.cells f.cells.toArray 30) = w1 at *
  clear hW
  go_wp2_with fail
  refine (may_any f.nm words17 _ w1.heap.size _ (by simp) (World.ownsRow_lit w1 _ 17 (Nat.le_refl _) (by decide) rfl) (by decide)).mono ?_; rintro e w2 ⟨rfl, hb2⟩
  replace HST := Lib.hid (HST.out.below (show Below w1.heap.size w1 w2 by (repeat (first | (with_reducible exact Below.refl _ _) | ((with_reducible refine Below.alloc ?_ ?_ _); rotate_left; focus (first | (simp; done) | (simp; omega) | (have q0 := hb2.size; (try simp at q0); (try simp); omega))) | ((with_reducible refine Below.setCell ?_ ?_ _); rotate_left; focus (first | (simp; done) | (simp; omega) | (have q0 := hb2.size; (try simp at q0); (try simp); omega))) | (with_reducible refine Below.drew ?_) | (with_reducible refine Below.drewN' ?_ _) | (with_reducible refine Below.trans ?_ (hb2.mono ?_); rotate_left; focus (first | (simp; done) | (simp; omega) | (have q0 := hb2.size; (try simp at q0); (try simp); omega)))))))
  clear hb2 t0 k0 k1 k2 k3 u1 sz
  obtain ⟨t0, k0, k1, k2, k3, u1, sz⟩ := HST.out.cells
  rw [hao] at k1
  have hBw : B ≤ w.heap.size := HT.out.B_le
  have fin : ∀ w', StF w b f w' → STab B w' b x y ∧ Below B w w' ∧ Chg b x y w w' := fun w' h => ⟨HT.out.below h.1, h.1.mono hBw, Chg.ofB h.1⟩
  have FIN := Lib.hid fin
  clear fin
  cases hm : mayB f.nm words17
  case false =>
    go_wp2_with fail
    go_ret2
    exact Or.inl ⟨_, 50, by decide, rfl, FIN.out _ HST.out⟩
  case true =>
    by_cases hl20 : l.length ≤ 20
    case neg =>
      have hl' : (20 : Int) < l.length := by omega
      clear hm
      go_wp2_with fail
      go_ret2
      exact Or.inl ⟨_, 3, by decide, rfl, FIN.out _ HST.out⟩
    case pos =>
    have hl' : ¬ (20 : Int) < l.length := by omega
    clear hm
    go_wp2_with fail
    refine (there_any (HT.out.below HST.out.1) f.res hres).mono ?_; rintro e w3 ⟨⟨bb, rfl⟩, hb3⟩
    replace HST := Lib.hid (HST.out.below hb3)
    clear hb3 t0 k0 k1 k2 k3 u1 sz
    obtain ⟨t0, k0, k1, k2, k3, u1, sz⟩ := HST.out.cells
    rw [hao] at k1
    cases bb
    case false =>
      go_wp2_with fail
      go_ret2
      exact Or.inl ⟨_, 7, by decide, rfl, FIN.out _ HST.out⟩
    case true =>
    go_wp2_with fail
    have hvv := HV.out _ HST.out.1
    rw [hao] at hvv
    refine (containsFunc_any (HT.out.below HST.out.1) w.heap.size t0 (by omega) _ l hvv hl HI.out).mono ?_; rintro e w4 ⟨⟨cc, rfl⟩, hb4⟩
    clear hvv
    replace HST := Lib.hid (HST.out.below hb4)
    clear hb4 t0 k0 k1 k2 k3 u1 sz
    obtain ⟨t0, k0, k1, k2, k3, u1, sz⟩ := HST.out.cells
    rw [hao] at k1
    cases cc
    case true =>
      go_wp2_with fail
      go_ret2
      exact Or.inl ⟨_, 7, by decide, rfl, FIN.out _ HST.out⟩
    case false =>
    go_wp2_with fail
    have hvv := HV.out _ HST.out.1
    rw [hao] at hvv
    refine (clone_any _ l hvv hl).mono ?_; rintro e w5 ⟨⟨ar', rfl, hown⟩, hb5⟩
    clear hvv
    have hsz4 := HST.out.2.2.lt
    have hown' := own_lower hown (show B ≤ _ by omega)
    replace HST := Lib.hid (HST.out.below hb5)
    clear hb5 t0 k0 k1 k2 k3 u1 sz
    obtain ⟨t0, k0, k1, k2, k3, u1, sz⟩ := HST.out.cells
    obtain ⟨ao', cap', rfl, _⟩ := own_slice hown
    have HOW := Lib.hid (And.intro hown hown')
    clear hown hown'
    go_wp2_with fail
    have hb6 : Below w.heap.size w (w5.setCell ⟨w.heap.size + 1, 1, none⟩ (.slice ao' l.length cap')) := HST.out.1.setCell (p := ⟨w.heap.size + 1, 1, none⟩) (by simp) _
    have hT6 := HT.out.below hb6
    have htb : RowB (w5.setCell ⟨w.heap.size + 1, 1, none⟩ (.slice ao' l.length cap')) w.heap.size 25 [.pointer (some ⟨b, 0, none⟩)] :=
      HST.out.2.1.kept ((Ch.refl (fun k => k = w.heap.size + 1) w5).setC (w.heap.size + 1) 1 rfl _) (fun (e : w.heap.size = w.heap.size + 1) => by omega)
    have hfb : RowB (w5.setCell ⟨w.heap.size + 1, 1, none⟩ (.slice ao' l.length cap')) (w.heap.size + 1) 30 (Fd.cells ⟨f.nm, .slice ao' l.length cap', f.res, f.df⟩) := HST.out.2.2.set 1 (.slice ao' l.length cap')
    have hO6 := ownsRow_setCell_other HOW.out.2 (a := ⟨w.heap.size + 1, 1, none⟩) (fun e => by have := (HOW.out.1.lt _ e).1; simp at this; omega) (.slice ao' l.length cap')
    have HC0 := Lib.hid (show CF B w b x y ⟨f.nm, .slice ao' l.length cap', f.res, f.df⟩ l (Array.replicate 9 false) { w5.setCell ⟨w.heap.size + 1, 1, none⟩ (.slice ao' l.length cap') with drawn := (w5.setCell ⟨w.heap.size + 1, 1, none⟩ (.slice ao' l.length cap')).drawn + 1 } from
      ⟨htb, hfb, ⟨hb6.os, hb6.tape, hb6.output, hb6.size, fun k hk => hb6.block k (by omega)⟩, Ch.drawn (Chg.ofB hb6), fun _ => ⟨hT6.below ⟨rfl, rfl, rfl, Nat.le_refl _, fun _ _ => rfl⟩, hO6⟩, fun e => by simp at e⟩)
    clear hb6 hT6 htb hfb hO6 t0 k0 k1 k2 k3 u1 sz HV HI
    generalize w5.setCell ⟨w.heap.size + 1, 1, none⟩ (.slice ao' l.length cap') = w6 at *
    generalize hf' : (⟨f.nm, .slice ao' l.length cap', f.res, f.df⟩ : Fd) = f' at *
    have hnm' : f'.nm.size ≤ maxLen := by rw [← hf']; exact hs
    refine wp_region_flow4 7 (by kernel_rfl) (by kernel_rfl) ?_ (fun j _ v => ZF b f' (addE y.D f'.nm y.fs.length) y.fs.length j v) (CF B w b x y f' l) HC0.out ?_ ?_
    · intro i o' d hi ho hd
      have : i = 0 ∨ i = 1 ∨ i = 2 ∨ i = 3 ∨ i = 4 ∨ i = 5 ∨ i = 6 := by omega
      rcases this with rfl | rfl | rfl | rfl | rfl | rfl | rfl <;> (simp at ho; subst ho; simp at hd; subst hd; simp)
    · intro i o' hi ho
      have : i = 0 ∨ i = 1 ∨ i = 2 ∨ i = 3 ∨ i = 4 ∨ i = 5 ∨ i = 6 := by omega
      rcases this with rfl | rfl | rfl | rfl | rfl | rfl | rfl <;> (simp at ho; subst ho; intro s a w' hun hC hd hr; rw [if_pos (by rfl)])
      · have e2 : a.tmps.getD 2 undef = .pointer (some ⟨w.heap.size, 0, none⟩) := hr 2 (free_of (by rfl))
        have e2' : a.tmps[2]?.getD undef = .pointer (some ⟨w.heap.size, 0, none⟩) := by simpa using e2
        have c0 : w'.cell? ⟨w.heap.size, 0, none⟩ = some (.pointer (some ⟨b, 0, none⟩)) := hC.tb.cell 0
        exact flow_val (v := .pointer (some ⟨b, 0, none⟩)) (by go_simp) ⟨rfl, hC.set (by decide), fun _ _ _ h => h⟩
      · have e36 : a.tmps.getD 36 undef = .pointer (some ⟨b, 0, none⟩) := hd ⟨0, .data⟩ (by simp) rfl _ _ rfl rfl
        have e36' : a.tmps[36]?.getD undef = .pointer (some ⟨b, 0, none⟩) := by simpa using e36
        exact flow_val (v := .pointer (some ⟨b, 0, none⟩)) (by go_simp) ⟨rfl, hC.set (by decide), fun _ _ _ h => h⟩
      · have e37 : a.tmps.getD 37 undef = .pointer (some ⟨b, 0, none⟩) := hd ⟨1, .data⟩ (by simp) rfl _ _ rfl rfl
        have e37' : a.tmps[37]?.getD undef = .pointer (some ⟨b, 0, none⟩) := by simpa using e37
        exact flow_val (v := .pointer (some ⟨b, 3, none⟩)) (by go_simp) ⟨rfl, hC.set (by decide), fun _ _ _ h => h⟩
      · have e3 : a.tmps.getD 3 undef = .pointer (some ⟨w.heap.size + 1, 0, none⟩) := hr 3 (free_of (by rfl))
        exact flow_val (run_load_cells 30 (.tmp 3) rfl (w.heap.size + 1) 0 e3 f'.cells _ Try.underlying30 rfl (by kernel_rfl) hC.fb.at) ⟨rfl, hC.set (by decide), fun _ _ _ h => h⟩
      · have e38 : a.tmps.getD 38 undef = .pointer (some ⟨b, 3, none⟩) := hd ⟨2, .data⟩ (by simp) rfl _ _ rfl rfl
        have e38' : a.tmps[38]?.getD undef = .pointer (some ⟨b, 3, none⟩) := by simpa using e38
        have e39 : a.tmps.getD 39 undef = .agg f'.cells.toArray := hd ⟨3, .data⟩ (by simp) rfl _ _ rfl rfl
        have e39' : a.tmps[39]?.getD undef = .agg f'.cells.toArray := by simpa using e39
        obtain ⟨p1, p2⟩ := hC.pre hun
        refine flow_call (f := 26) (args := #[.pointer (some ⟨b, 3, none⟩), .agg f'.cells.toArray]) (by go_simp) ?_
        refine (addy_any p1 f' hnm' l hl20 p2).mono fun e w'' hw => ?_
        have keep : Ch (fun k => k = b ∨ y.A.ownBlock = some k ∨ k = y.m) w' w'' → RowB w'' w.heap.size 25 [.pointer (some ⟨b, 0, none⟩)] ∧ RowB w'' (w.heap.size + 1) 30 f'.cells := fun hch =>
          ⟨hC.tb.kept hch (fun q => by
            rcases q with q | q | q
            · have := HT.out.lt; omega
            · have := (HT.out.oky.oA.lt _ q).2; omega
            · have := HT.out.oky.oD.lt; omega), hC.fb.kept hch (fun q => by
            rcases q with q | q | q
            · have := HT.out.lt; omega
            · have := (HT.out.oky.oA.lt _ q).2; omega
            · have := HT.out.oky.oD.lt; omega)⟩
        rcases hw with ⟨h1, rfl, h3, h4, h5⟩ | ⟨A', h1, rfl, h3, h4, h5, h6, h7⟩
        · refine ⟨_, rfl, ?_, ⟨(keep h5).1, (keep h5).2, hC.low.trans h4, Ch.trans hC.chg (Chg.ofy (own3 h5)), fun e => ?_, fun _ => Or.inl ⟨h1, h3⟩⟩, fun _ _ _ h => h⟩
          · show _ = _
            unfold addR; rw [if_neg h1]
          · rw [getD_set_true' hun] at e; cases e
        · refine ⟨_, rfl, ?_, ⟨(keep h7).1, (keep h7).2, hC.low.trans h5, Ch.trans hC.chg (Chg.ofy (own3 h7)), fun e => ?_, fun _ => Or.inr ⟨h1, h3, A', h4, h6⟩⟩, fun _ _ _ h => h⟩
          · show _ = _
            unfold addR; rw [if_pos h1, h1]
          · rw [getD_set_true' hun] at e; cases e
      · have e40 : a.tmps.getD 40 undef = .tuple #[.int .i64 (addR (addE y.D f'.nm y.fs.length) y.fs.length), .int .i64 (addE y.D f'.nm y.fs.length)] := hd ⟨4, .data⟩ (by simp) rfl _ _ rfl rfl
        have e40' : a.tmps[40]?.getD undef = .tuple #[.int .i64 (addR (addE y.D f'.nm y.fs.length) y.fs.length), .int .i64 (addE y.D f'.nm y.fs.length)] := by simpa using e40
        exact flow_val (v := .int .i64 (addR (addE y.D f'.nm y.fs.length) y.fs.length)) (by go_simp) ⟨rfl, hC.set (by decide), fun _ _ _ h => h⟩
      · have e40 : a.tmps.getD 40 undef = .tuple #[.int .i64 (addR (addE y.D f'.nm y.fs.length) y.fs.length), .int .i64 (addE y.D f'.nm y.fs.length)] := hd ⟨4, .data⟩ (by simp) rfl _ _ rfl rfl
        have e40' : a.tmps[40]?.getD undef = .tuple #[.int .i64 (addR (addE y.D f'.nm y.fs.length) y.fs.length), .int .i64 (addE y.D f'.nm y.fs.length)] := by simpa using e40
        exact flow_val (v := .int .i64 (addE y.D f'.nm y.fs.length)) (by go_simp) ⟨rfl, hC.set (by decide), fun _ _ _ h => h⟩
    · intro vs' w7 hC7 hZ
      have v5 : vs' 5 = .int .i64 (addR (addE y.D f'.nm y.fs.length) y.fs.length) := hZ 5 _ _ (by omega) rfl rfl
      have v6 : vs' 6 = .int .i64 (addE y.D f'.nm y.fs.length) := hZ 6 _ _ (by omega) rfl rfl
      have HP := Lib.hid (And.intro (hC7.post (by simp [doneS])) (And.intro hC7.low hC7.chg))
      clear hZ hC7 HC0
      simp only [List.drop_succ_cons, List.drop_zero, List.take_succ_cons, List.take_zero, putAll, v5, v6]
      clear v5 v6
      go_wp2
      go_ret2
      subst hf'
      rcases HP.out with ⟨⟨h1, h2⟩ | ⟨h1, h2, A', h3, h4⟩, hlow⟩
      · exact Or.inl ⟨_, _, h1, rfl, h2, hlow⟩
      · refine Or.inr ⟨A', .slice ao' l.length cap', ?_, hl20, h2, h4, h3, hlow⟩
        show Ending.returned (.tuple #[.int .i64 (addR (addE y.D f.nm y.fs.length) y.fs.length), .int .i64 (addE y.D f.nm y.fs.length)]) = _
        have h1' : addE y.D f.nm y.fs.length = 0 := h1
        unfold addR; rw [if_pos h1', h1']
end Go.Proofs.Ytggbnjdbbomjoaa
