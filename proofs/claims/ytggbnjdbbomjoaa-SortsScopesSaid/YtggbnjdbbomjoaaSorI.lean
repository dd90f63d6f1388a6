/- Walks of the sorts package: DeclareSort. -/
import Derived.Test.YtggbnjdbbomjoaaSorH
import Derived.Test.YtggbnjdbbomjoaaFlow4
namespace Go.Proofs.Ytggbnjdbbomjoaa
open Go.RowKit
def Nm.add (x : Nm) (f : Fd) (A' : Value) : Nm := { x with A := A', fs := x.fs ++ [f], D := x.D.put (kS f.nm) (.lit (.int .i64 x.fs.length)) }
theorem NmOk.add {B : Nat} {w w' : World} {x : Nm} {f : Fd} {A' : Value} {l : List Int} (h : NmOk B w x) (hn : x.fs.length < 2000) (hA : w'.ownsRow B 30 4 A' (x.fs.length + 1) (flatF x.fs ++ f.cells))
    (hD : ownsD w' x.m (x.fs.length + 1) (x.D.put (kS f.nm) (.lit (.int .i64 x.fs.length)))) (hM : w'.ownsRow B 3 1 x.M x.ms.length (x.ms.map (Value.int .i64))) (hf : f.nm.size ≤ maxLen)
    (har : ∀ g ∈ x.fs, ∃ l : List Int, l.length ≤ 20 ∧ w'.ownsRow B 27 1 g.ar l.length (l.map (Value.int .i64))) (hl : l.length ≤ 20) (hv : w'.ownsRow B 27 1 f.ar l.length (l.map (Value.int .i64))) : NmOk B w' (x.add f A') := by
  have e : (x.add f A').fs.length = x.fs.length + 1 := by simp [Nm.add]
  refine ⟨?_, hM, ?_, by rw [e]; omega, h.nm, fun z hz => ?_, ?_, h.gm, ?_⟩
  · rw [e]; show w'.ownsRow B _ 4 A' _ (flatF (x.fs ++ [f])); rw [flatF_snoc]; exact hA
  · rw [e]; exact hD
  · rw [e]; have := h.mks z hz; omega
  · intro g hg
    rcases List.mem_append.1 hg with h1 | h1
    · exact h.sz g h1
    · rw [List.mem_singleton.1 h1]; exact hf
  · intro g hg
    rcases List.mem_append.1 hg with h1 | h1
    · exact har g h1
    · rw [List.mem_singleton.1 h1]; exact ⟨l, hl, hv⟩
/-- behind add of x -/
theorem STab.addx {B : Nat} {w w' : World} {b : Nat} {x y : Nm} {f : Fd} {A' : Value} {l : List Int} (h : STab B w b x y) (hn : x.fs.length < 2000) (hrow : RowB w' b 63 ((rowOf x y).set 0 A'))
    (hA : w'.ownsRow B 30 4 A' (x.fs.length + 1) (flatF x.fs ++ f.cells)) (hD : ownsD w' x.m (x.fs.length + 1) (x.D.put (kS f.nm) (.lit (.int .i64 x.fs.length))))
    (hat : A'.ownBlock = x.A.ownBlock ∨ ∃ g, A'.ownBlock = some g ∧ w.heap.size ≤ g) (hc : Ch (fun k => k = b ∨ x.A.ownBlock = some k ∨ k = x.m) w w') (hf : f.nm.size ≤ maxLen)
    (hl : l.length ≤ 20) (hv : w.ownsRow B 27 1 f.ar l.length (l.map (Value.int .i64))) : STab B w' b (x.add f A') y ∧ Below B w w' ∧ w'.ownsRow B 27 1 f.ar l.length (l.map (Value.int .i64)) := by
  have hc' : Ch (Own b x) w w' := hc.mono (fun k _ e => by rcases e with e | e | e; exact Or.inl e; exact Or.inr (Or.inl e); exact Or.inr (Or.inr (Or.inl e)))
  have hM : w'.ownsRow B 3 1 x.M x.ms.length (x.ms.map (Value.int .i64)) := ownsRow_ch h.okx.oM hc (fun k hk hs => by
    rcases hs with rfl | e | rfl
    · exact own_ne_row h.okx.oM h.row (by decide) hk
    · exact own_ne h.okx.oM h.okx.oA (by decide) hk e
    · exact own_ne_map h.okx.oM h.okx.oD hk)
  have hargs : ∀ (v : Value) (l : List Int), w.ownsRow B 27 1 v l.length (l.map (Value.int .i64)) → w'.ownsRow B 27 1 v l.length (l.map (Value.int .i64)) := fun v l hv =>
    ownsRow_ch hv hc' ((own_args h.toSTab0).1 v (l.map (Value.int .i64)) (by simpa using hv))
  refine ⟨⟨⟨hrow, h.gb, NmOk.add h.okx hn hA hD hM hf (fun g hg => ?_) hl (hargs _ _ hv), h.yx hc', ?_, h.nM, h.nD⟩, h.ln⟩, h.lowx hc', hargs _ _ hv⟩
  · obtain ⟨l, h1, h2⟩ := h.okx.ar g hg
    exact ⟨l, h1, hargs _ _ h2⟩
  · intro k hk hk'
    rcases hat with e | ⟨g, e, e2⟩
    · exact h.nA k (by rw [← e]; exact hk) hk'
    · have e3 : A'.ownBlock = some k := hk
      rw [e] at e3
      have : g = k := by simpa using e3
      have := (h.oky.oA.lt k hk').2
      omega
theorem STab.addy {B : Nat} {w w' : World} {b : Nat} {x y : Nm} {f : Fd} {A' : Value} {l : List Int} (h : STab B w b x y) (hn : y.fs.length < 2000) (hrow : RowB w' b 63 ((rowOf x y).set 3 A'))
    (hA : w'.ownsRow B 30 4 A' (y.fs.length + 1) (flatF y.fs ++ f.cells)) (hD : ownsD w' y.m (y.fs.length + 1) (y.D.put (kS f.nm) (.lit (.int .i64 y.fs.length))))
    (hat : A'.ownBlock = y.A.ownBlock ∨ ∃ g, A'.ownBlock = some g ∧ w.heap.size ≤ g) (hc : Ch (fun k => k = b ∨ y.A.ownBlock = some k ∨ k = y.m) w w') (hf : f.nm.size ≤ maxLen)
    (hl : l.length ≤ 20) (hv : w.ownsRow B 27 1 f.ar l.length (l.map (Value.int .i64))) : STab B w' b x (y.add f A') ∧ Below B w w' ∧ w'.ownsRow B 27 1 f.ar l.length (l.map (Value.int .i64)) := by
  have hc' : Ch (Own b y) w w' := hc.mono (fun k _ e => by rcases e with e | e | e; exact Or.inl e; exact Or.inr (Or.inl e); exact Or.inr (Or.inr (Or.inl e)))
  have hM : w'.ownsRow B 3 1 y.M y.ms.length (y.ms.map (Value.int .i64)) := ownsRow_ch h.oky.oM hc (fun k hk hs => by
    rcases hs with rfl | e | rfl
    · exact own_ne_row h.oky.oM h.row (by decide) hk
    · exact own_ne h.oky.oM h.oky.oA (by decide) hk e
    · exact own_ne_map h.oky.oM h.oky.oD hk)
  have hargs : ∀ (v : Value) (l : List Int), w.ownsRow B 27 1 v l.length (l.map (Value.int .i64)) → w'.ownsRow B 27 1 v l.length (l.map (Value.int .i64)) := fun v l hv =>
    ownsRow_ch hv hc' ((own_args h.toSTab0).2 v (l.map (Value.int .i64)) (by simpa using hv))
  refine ⟨⟨⟨hrow, h.gb, h.xy hc', NmOk.add h.oky hn hA hD hM hf (fun g hg => ?_) hl (hargs _ _ hv), ?_, h.nM, h.nD⟩, h.ln⟩, h.lowy hc', hargs _ _ hv⟩
  · obtain ⟨l, h1, h2⟩ := h.oky.ar g hg
    exact ⟨l, h1, hargs _ _ h2⟩
  · intro k hk hk'
    rcases hat with e | ⟨g, e, e2⟩
    · exact h.nA k hk (by rw [← e]; exact hk')
    · have e3 : A'.ownBlock = some k := hk'
      rw [e] at e3
      have : g = k := by simpa using e3
      have := (h.okx.oA.lt k hk).2
      omega
theorem addx_any {B : Nat} {w : World} {b : Nat} {x y : Nm} (h : STab B w b x y) (f : Fd) (hnm : f.nm.size ≤ maxLen) (l : List Int) (hl : l.length ≤ 20) (hv : w.ownsRow B 27 1 f.ar l.length (l.map (Value.int .i64))) :
    Calls Try.prog 26 #[.pointer (some ⟨b, 0, none⟩), .agg f.cells.toArray] w fun e w' =>
      (addE x.D f.nm x.fs.length ≠ 0 ∧ e = .returned (.tuple #[.int .i64 0, .int .i64 (addE x.D f.nm x.fs.length)]) ∧ STab B w' b x y ∧ Below B w w' ∧ Ch (fun k => k = b ∨ x.A.ownBlock = some k ∨ k = x.m) w w') ∨
      (∃ A', addE x.D f.nm x.fs.length = 0 ∧ e = .returned (.tuple #[.int .i64 x.fs.length, .int .i64 0]) ∧ Maps.has x.D (kS f.nm) = false ∧ STab B w' b (x.add f A') y ∧ Below B w w' ∧ w'.ownsRow B 27 1 f.ar l.length (l.map (Value.int .i64)) ∧ Ch (fun k => k = b ∨ x.A.ownBlock = some k ∨ k = x.m) w w') := by
  obtain ⟨ao, cap, hao, _⟩ := own_slice hv
  refine (add_any b 0 B x.m x.fs.length (rowOf x y) x.A (flatF x.fs) x.D f w h.row rfl rfl h.okx.oA h.okx.oD h.B_le h.okx.nf hnm (by rw [hao]; rfl)).mono fun e w' hw => ?_
  rcases hw with ⟨h1, h2, h3⟩ | ⟨A', h1, h2, h3, h4, h5, h6, h7, h8, h9⟩
  · have hb : Below w.heap.size w w' := h3.below (Nat.le_refl _) (fun _ e => e.elim)
    exact Or.inl ⟨h1, h2, h.below hb, hb.mono h.B_le, Ch.ofBelow hb⟩
  · obtain ⟨t1, t2, t3⟩ := h.addx h4 h5 h6 h7 h8 h9 hnm hl hv
    exact Or.inr ⟨A', h1, h2, h3, t1, t2, t3, h9⟩
theorem addy_any {B : Nat} {w : World} {b : Nat} {x y : Nm} (h : STab B w b x y) (f : Fd) (hnm : f.nm.size ≤ maxLen) (l : List Int) (hl : l.length ≤ 20) (hv : w.ownsRow B 27 1 f.ar l.length (l.map (Value.int .i64))) :
    Calls Try.prog 26 #[.pointer (some ⟨b, 3, none⟩), .agg f.cells.toArray] w fun e w' =>
      (addE y.D f.nm y.fs.length ≠ 0 ∧ e = .returned (.tuple #[.int .i64 0, .int .i64 (addE y.D f.nm y.fs.length)]) ∧ STab B w' b x y ∧ Below B w w' ∧ Ch (fun k => k = b ∨ y.A.ownBlock = some k ∨ k = y.m) w w') ∨
      (∃ A', addE y.D f.nm y.fs.length = 0 ∧ e = .returned (.tuple #[.int .i64 y.fs.length, .int .i64 0]) ∧ Maps.has y.D (kS f.nm) = false ∧ STab B w' b x (y.add f A') ∧ Below B w w' ∧ w'.ownsRow B 27 1 f.ar l.length (l.map (Value.int .i64)) ∧ Ch (fun k => k = b ∨ y.A.ownBlock = some k ∨ k = y.m) w w') := by
  obtain ⟨ao, cap, hao, _⟩ := own_slice hv
  refine (add_any b 3 B y.m y.fs.length (rowOf x y) y.A (flatF y.fs) y.D f w h.row rfl rfl h.oky.oA h.oky.oD h.B_le h.oky.nf hnm (by rw [hao]; rfl)).mono fun e w' hw => ?_
  rcases hw with ⟨h1, h2, h3⟩ | ⟨A', h1, h2, h3, h4, h5, h6, h7, h8, h9⟩
  · have hb : Below w.heap.size w w' := h3.below (Nat.le_refl _) (fun _ e => e.elim)
    exact Or.inl ⟨h1, h2, h.below hb, hb.mono h.B_le, Ch.ofBelow hb⟩
  · obtain ⟨t1, t2, t3⟩ := h.addy h4 h5 h6 h7 h8 h9 hnm hl hv
    exact Or.inr ⟨A', h1, h2, h3, t1, t2, t3, h9⟩
theorem mayB_not {name : ByteArray} {ws : List ByteArray} (h : mayB name ws = true) : name ∉ ws := by
  unfold mayB at h
  simp only [Bool.and_eq_true, Bool.not_eq_true', decide_eq_false_iff_not] at h
  intro hm
  exact h.2 ((idx_neg name (ws ++ words13) 0 (Int.le_refl 0)).2 (List.mem_append_left _ hm))
/-- what is told of one more sort -/
def DeclS (B : Nat) (w : World) (b : Nat) (x y : Nm) (name : ByteArray) (e : Ending) (w' : World) : Prop :=
  (∃ (v er : Int), er ≠ 0 ∧ e = .returned (.tuple #[.int .i64 v, .int .i64 er]) ∧ STab B w' b x y ∧ Below B w w' ∧ Chg b x y w w') ∨
  (∃ A', e = .returned (.tuple #[.int .i64 (x.fs.length + 2 : Int), .int .i64 0]) ∧ name ≠ sBool ∧ name ≠ sInt ∧ Maps.has x.D (kS name) = false ∧ STab B w' b (x.add ⟨name, .slice none 0 0, 0, false⟩ A') y ∧ Below B w w' ∧ Chg b x y w w')
set_option maxRecDepth 100000 in
set_option maxHeartbeats 1000000 in
theorem declareSort_any {B : Nat} {w : World} {b : Nat} {x y : Nm} (h : STab B w b x y) (name : ByteArray) (hs : name.size ≤ maxLen) :
    Calls Try.prog 9 #[.pointer (some ⟨b, 0, none⟩), .string name] w (DeclS B w b x y name) := by
  have HN := Lib.hid (none_tab h.toSTab0)
  have HT := Lib.hid h
  clear h
  go_enter Try.func9, Try.ntmps9
  go_wp2_with fail
  refine HN.out.mono ?_; rintro e w1 ⟨rfl, rfl⟩
  clear HN
  go_wp2_with fail
  refine (may_any name [sBool, sInt] _ w1.heap.size _ (by simp) (World.ownsRow_lit w1 _ 2 (Nat.le_refl _) (by decide) rfl) (by decide)).mono ?_; rintro e w2 ⟨rfl, hb2⟩
  have HB2 := Lib.hid (show Below w1.heap.size w1 w2 by (repeat (first | (with_reducible exact Below.refl _ _) | ((with_reducible refine Below.alloc ?_ ?_ _); rotate_left; focus (first | (simp; done) | (simp; omega) | (have q0 := hb2.size; (try simp at q0); (try simp); omega))) | ((with_reducible refine Below.setCell ?_ ?_ _); rotate_left; focus (first | (simp; done) | (simp; omega) | (have q0 := hb2.size; (try simp at q0); (try simp); omega))) | (with_reducible refine Below.drew ?_) | (with_reducible refine Below.drewN' ?_ _) | (with_reducible refine Below.trans ?_ (hb2.mono ?_); rotate_left; focus (first | (simp; done) | (simp; omega) | (have q0 := hb2.size; (try simp at q0); (try simp); omega))))))
  clear hb2
  have HT2 := Lib.hid (HT.out.below HB2.out)
  cases hm : mayB name [sBool, sInt]
  case false =>
    go_wp2_with fail
    go_ret2
    exact Or.inl ⟨_, 50, by decide, rfl, HT2.out, HB2.out.mono HT.out.B_le, Chg.ofB HB2.out⟩
  case true =>
    have hnb := mayB_not hm
    have HNB := Lib.hid (show name ≠ sBool ∧ name ≠ sInt from ⟨fun e => hnb (by simp [e]), fun e => hnb (by simp [e])⟩)
    clear hnb
    go_wp2_with fail
    refine (addx_any HT2.out ⟨name, .slice none 0 0, 0, false⟩ hs [] (by simp) (World.ownsRow_nil _ _ _ _)).mono ?_
    rintro e w3 (⟨h1, rfl, h3, h4, h6⟩ | ⟨A', h1, rfl, h3, h4, h5, _, h6⟩)
    · have HX := Lib.hid (And.intro h3 (And.intro ((HB2.out.mono HT.out.B_le).trans h4) (Ch.trans (Chg.ofB (x := x) (y := y) (b := b) HB2.out) (Chg.ofx (own3 h6)))))
      have hne : (addE x.D name x.fs.length != 0) = true := by simpa using h1
      have HE := Lib.hid h1
      clear h3 h4 h1 h6
      generalize addE x.D name x.fs.length = er at *
      go_wp2_with fail
      go_ret2
      exact Or.inl ⟨_, er, HE.out, rfl, HX.out.1, HX.out.2.1, HX.out.2.2⟩
    · have HX := Lib.hid (And.intro h3 (And.intro h4 (And.intro ((HB2.out.mono HT.out.B_le).trans h5) (Ch.trans (Chg.ofB (x := x) (y := y) (b := b) HB2.out) (Chg.ofx (own3 h6))))))
      have hle : x.fs.length ≤ 2000 := HT.out.okx.nf
      clear h3 h4 h5 h1 h6
      go_wp2_with fail
      go_ret2
      refine Or.inr ⟨A', ?_, HNB.out.1, HNB.out.2, HX.out.1, HX.out.2.1, HX.out.2.2.1, HX.out.2.2.2⟩
      simp
end Go.Proofs.Ytggbnjdbbomjoaa
