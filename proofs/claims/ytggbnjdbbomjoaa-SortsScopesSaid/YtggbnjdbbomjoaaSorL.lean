/- Walks of the sorts package: Pop, New. -/
import Derived.Test.YtggbnjdbbomjoaaSorK
namespace Go.Proofs.Ytggbnjdbbomjoaa
open Go.RowKit
def Nm.popTo (x : Nm) (q fr : Nat) (M' : Value) : Nm := { x with M := M', ms := x.ms.take q, D := popD x.fs (x.fs.length - fr) fr x.D }
theorem NmOk.popTo {B : Nat} {w w' : World} {x : Nm} {M' : Value} {q fr : Nat} (h : NmOk B w x) (hq : q ≤ x.ms.length) (hA : w'.ownsRow B 30 4 x.A x.fs.length (flatF x.fs)) (hM : w'.ownsRow B 3 1 M' q ((x.ms.take q).map (Value.int .i64)))
    (hD : ownsD w' x.m x.fs.length (popD x.fs (x.fs.length - fr) fr x.D)) (har : ∀ g ∈ x.fs, ∃ l : List Int, l.length ≤ 20 ∧ w'.ownsRow B 27 1 g.ar l.length (l.map (Value.int .i64))) : NmOk B w' (x.popTo q fr M') := by
  have e : (x.popTo q fr M').ms.length = q := by simp [Nm.popTo]; omega
  refine ⟨hA, by rw [e]; exact hM, hD, h.nf, by rw [e]; have := h.nm; omega, fun z hz => h.mks z (List.mem_of_mem_take hz), h.sz, h.gm, har⟩
theorem STab0.popx {B : Nat} {w w' : World} {b : Nat} {x y : Nm} {M' : Value} {q fr : Nat} (h : STab0 B w b x y) (hq : q ≤ x.ms.length) (hrow : RowB w' b 63 ((rowOf x y).set 2 M'))
    (hM : w'.ownsRow B 3 1 M' q ((x.ms.take q).map (Value.int .i64))) (hat : M'.ownBlock = x.M.ownBlock) (hD : ownsD w' x.m x.fs.length (popD x.fs (x.fs.length - fr) fr x.D))
    (hc : Ch (fun k => k = b ∨ k = x.m) w w') : STab0 B w' b (x.popTo q fr M') y ∧ Below B w w' ∧ Ch (Own b x) w w' := by
  have hc' : Ch (Own b x) w w' := hc.mono (fun k _ e => e.elim Or.inl (fun e => Or.inr (Or.inr (Or.inl e))))
  have hA := ownsRow_ch h.okx.oA hc (fun k hk hs => by
    rcases hs with rfl | rfl
    · exact own_ne_row h.okx.oA h.row (by decide) hk
    · exact own_ne_map h.okx.oA h.okx.oD hk)
  have har : ∀ g ∈ x.fs, ∃ l : List Int, l.length ≤ 20 ∧ w'.ownsRow B 27 1 g.ar l.length (l.map (Value.int .i64)) := fun g hg => by
    obtain ⟨l, h1, h2⟩ := h.okx.ar g hg
    exact ⟨l, h1, ownsRow_ch h2 hc' ((own_args h).1 g.ar (l.map (Value.int .i64)) (by simpa using h2))⟩
  exact ⟨⟨hrow, h.gb, NmOk.popTo h.okx hq hA hM hD har, h.yx hc', h.nA, fun k hk hk' => h.nM k (by rw [← hat]; exact hk) hk', h.nD⟩, h.lowx hc', hc'⟩
theorem popx_any {B : Nat} {w : World} {b : Nat} {x y : Nm} (h : STab0 B w b x y) (k : Int) (hk1 : 1 ≤ k) (hk2 : k ≤ x.ms.length) :
    Calls Try.prog 32 #[.pointer (some ⟨b, 0, none⟩), .int .i64 k] w fun e w' => e = .returned (.tuple #[]) ∧
      ∃ (M' : Value) (fr q : Nat), (q : Int) = x.ms.length - k ∧ x.ms[q]? = some (fr : Int) ∧ STab0 B w' b (x.popTo q fr M') y ∧ Below B w w' ∧ Ch (Own b x) w w' ∧ M'.ownBlock = x.M.ownBlock := by
  refine (pop_any b 0 B x.m (rowOf x y) x.A x.M x.fs x.ms k x.D w h.row rfl rfl rfl h.okx.oA h.okx.oM h.okx.oD h.okx.nf (by have := h.okx.nm; omega) hk1 hk2 h.okx.mks h.okx.sz).mono ?_
  rintro e w' ⟨rfl, M', fr, q, h1, h2, h3, h4, h5, h6, h7⟩
  obtain ⟨t1, t2⟩ := h.popx (by omega) h3 h4 h5 h6 h7
  exact ⟨rfl, M', fr, q, h1, h2, t1, t2.1, t2.2, h5⟩
theorem STab0.popy {B : Nat} {w w' : World} {b : Nat} {x y : Nm} {M' : Value} {q fr : Nat} (h : STab0 B w b x y) (hq : q ≤ y.ms.length) (hrow : RowB w' b 63 ((rowOf x y).set 5 M'))
    (hM : w'.ownsRow B 3 1 M' q ((y.ms.take q).map (Value.int .i64))) (hat : M'.ownBlock = y.M.ownBlock) (hD : ownsD w' y.m y.fs.length (popD y.fs (y.fs.length - fr) fr y.D))
    (hc : Ch (fun k => k = b ∨ k = y.m) w w') : STab0 B w' b x (y.popTo q fr M') ∧ Below B w w' ∧ Ch (Own b y) w w' := by
  have hc' : Ch (Own b y) w w' := hc.mono (fun k _ e => e.elim Or.inl (fun e => Or.inr (Or.inr (Or.inl e))))
  have hA := ownsRow_ch h.oky.oA hc (fun k hk hs => by
    rcases hs with rfl | rfl
    · exact own_ne_row h.oky.oA h.row (by decide) hk
    · exact own_ne_map h.oky.oA h.oky.oD hk)
  have har : ∀ g ∈ y.fs, ∃ l : List Int, l.length ≤ 20 ∧ w'.ownsRow B 27 1 g.ar l.length (l.map (Value.int .i64)) := fun g hg => by
    obtain ⟨l, h1, h2⟩ := h.oky.ar g hg
    exact ⟨l, h1, ownsRow_ch h2 hc' ((own_args h).2 g.ar (l.map (Value.int .i64)) (by simpa using h2))⟩
  exact ⟨⟨hrow, h.gb, h.xy hc', NmOk.popTo h.oky hq hA hM hD har, h.nA, fun k hk hk' => h.nM k hk (by rw [← hat]; exact hk'), h.nD⟩, h.lowy hc', hc'⟩
theorem popy_any {B : Nat} {w : World} {b : Nat} {x y : Nm} (h : STab0 B w b x y) (k : Int) (hk1 : 1 ≤ k) (hk2 : k ≤ y.ms.length) :
    Calls Try.prog 32 #[.pointer (some ⟨b, 3, none⟩), .int .i64 k] w fun e w' => e = .returned (.tuple #[]) ∧
      ∃ (M' : Value) (fr q : Nat), (q : Int) = y.ms.length - k ∧ y.ms[q]? = some (fr : Int) ∧ STab0 B w' b x (y.popTo q fr M') ∧ Below B w w' ∧ Ch (Own b y) w w' ∧ M'.ownBlock = y.M.ownBlock := by
  refine (pop_any b 3 B y.m (rowOf x y) y.A y.M y.fs y.ms k y.D w h.row rfl rfl rfl h.oky.oA h.oky.oM h.oky.oD h.oky.nf (by have := h.oky.nm; omega) hk1 hk2 h.oky.mks h.oky.sz).mono ?_
  rintro e w' ⟨rfl, M', fr, q, h1, h2, h3, h4, h5, h6, h7⟩
  obtain ⟨t1, t2⟩ := h.popy (by omega) h3 h4 h5 h6 h7
  exact ⟨rfl, M', fr, q, h1, h2, t1, t2.1, t2.2, h5⟩
/-- what is told of a pop -/
def PopR (B : Nat) (w : World) (b : Nat) (x y : Nm) (n : Int) (e : Ending) (w' : World) : Prop :=
  (∃ er : Int, er ≠ 0 ∧ e = .returned (.int .i64 er) ∧ (n < 0 ∨ (x.ms.length : Int) < n) ∧ STab B w' b x y ∧ Below B w w' ∧ Chg b x y w w') ∨ (e = .returned (.int .i64 0) ∧ n = 0 ∧ STab B w' b x y ∧ Below B w w' ∧ Chg b x y w w') ∨
  (∃ (q f1 f2 : Nat) (M1 M2 : Value), e = .returned (.int .i64 0) ∧ 1 ≤ n ∧ (q : Int) = x.ms.length - n ∧ x.ms[q]? = some (f1 : Int) ∧ y.ms[q]? = some (f2 : Int) ∧ STab B w' b (x.popTo q f1 M1) (y.popTo q f2 M2) ∧ Below B w w' ∧ Chg b x y w w' ∧ M1.ownBlock = x.M.ownBlock ∧ M2.ownBlock = y.M.ownBlock)
set_option maxRecDepth 100000 in
set_option maxHeartbeats 1000000 in
theorem popT_any {B : Nat} {w1 : World} {b : Nat} {x y : Nm} (h : STab B w1 b x y) (n : Int) : Calls Try.prog 17 #[.pointer (some ⟨b, 0, none⟩), .int .i64 n] w1 (PopR B w1 b x y n) := by
  have HN := Lib.hid (none_tab h.toSTab0)
  have HL := Lib.hid (level_any h)
  have HT := Lib.hid h
  clear h
  go_enter Try.func17, Try.ntmps17
  go_wp2_with fail
  refine HN.out.mono ?_; rintro e w2 ⟨rfl, rfl⟩
  clear HN
  by_cases h0 : n < 0
  · go_wp2_with fail
    go_ret
    exact Or.inl ⟨2, by decide, rfl, Or.inl h0, HT.out, Below.refl _ _, Ch.refl _ _⟩
  go_wp2_with fail
  refine HL.out.mono ?_; rintro e w3 ⟨rfl, rfl⟩
  clear HL
  by_cases h1 : (x.ms.length : Int) < n
  · go_wp2_with fail
    go_ret
    exact Or.inl ⟨51, by decide, rfl, Or.inr h1, HT.out, Below.refl _ _, Ch.refl _ _⟩
  by_cases h2 : 0 < n
  case neg =>
    have h3 : n = 0 := by omega
    have H3 := Lib.hid h3
    go_wp2_with fail
    go_ret
    exact Or.inr (Or.inl ⟨rfl, H3.out, HT.out, Below.refl _ _, Ch.refl _ _⟩)
  case pos =>
    have HK := Lib.hid (And.intro (show 1 ≤ n by omega) (show n ≤ x.ms.length by omega))
    go_wp2_with fail
    refine (popx_any HT.out.toSTab0 n HK.out.1 HK.out.2).mono ?_; rintro e w4 ⟨rfl, M1, f1, q, hq, hf1, ht1, hb1⟩
    have HA := Lib.hid (And.intro hq (And.intro hf1 (And.intro ht1 hb1)))
    clear hq hf1 ht1 hb1
    go_wp2_with fail
    refine (popy_any HA.out.2.2.1 n HK.out.1 (by rw [← HT.out.ln]; exact HK.out.2)).mono ?_; rintro e w5 ⟨rfl, M2, f2, q', hq', hf2, ht2, hb2⟩
    have hqq : q' = q := by have := HA.out.1; have := HT.out.ln; omega
    subst hqq
    have HBB := Lib.hid (And.intro hf2 (And.intro ht2 hb2))
    clear hq' hf2 ht2 hb2
    go_wp2_with fail
    go_ret
    refine Or.inr (Or.inr ⟨q', f1, f2, M1, M2, rfl, HK.out.1, HA.out.1, HA.out.2.1, HBB.out.1, ⟨HBB.out.2.1, ?_⟩, HA.out.2.2.2.1.trans HBB.out.2.2.1, Ch.trans (Chg.ofx HA.out.2.2.2.2.1) (Chg.ofy HBB.out.2.2.2.1), HA.out.2.2.2.2.2, HBB.out.2.2.2.2⟩)
    simp [Nm.popTo, HT.out.ln]
/-- a new table -/
def Nm.fresh (m : Nat) : Nm := ⟨.slice none 0 0, m, .slice none 0 0, [], [], .map []⟩
set_option maxRecDepth 100000 in
theorem new_any (w : World) : Calls Try.prog 8 #[] w fun e w' => ∃ b m1 m2, e = .returned (.pointer (some ⟨b, 0, none⟩)) ∧ STab w.heap.size w' b (Nm.fresh m1) (Nm.fresh m2) ∧ Below w.heap.size w w' := by
  have hmm := @run_makeMap Try.prog
  go_enter Try.func8, Try.ntmps8
  go_wp2
  go_ret
  have hm1 : ownsD (((w.alloc (.map #[] 0)).alloc (.map #[] 0)).alloc (.cells (rowOf (Nm.fresh w.heap.size) (Nm.fresh (w.heap.size + 1))).toArray 63)) w.heap.size 0 (.map []) := ((World.ownsMap_made w Try.prog 9 (plainElem Try.prog 3)).alloc _).alloc _
  have hm2 : ownsD (((w.alloc (.map #[] 0)).alloc (.map #[] 0)).alloc (.cells (rowOf (Nm.fresh w.heap.size) (Nm.fresh (w.heap.size + 1))).toArray 63)) (w.heap.size + 1) 0 (.map []) := by
    have := (World.ownsMap_made (H := Unit) (w.alloc (.map #[] 0)) Try.prog 9 (plainElem Try.prog 3)).alloc (.cells (rowOf (Nm.fresh w.heap.size) (Nm.fresh (w.heap.size + 1))).toArray 63)
    simpa using this
  have ok : ∀ m, w.heap.size ≤ m → ownsD (((w.alloc (.map #[] 0)).alloc (.map #[] 0)).alloc (.cells (rowOf (Nm.fresh w.heap.size) (Nm.fresh (w.heap.size + 1))).toArray 63)) m 0 (.map []) → NmOk w.heap.size (((w.alloc (.map #[] 0)).alloc (.map #[] 0)).alloc (.cells (rowOf (Nm.fresh w.heap.size) (Nm.fresh (w.heap.size + 1))).toArray 63)) (Nm.fresh m) := fun m hm h =>
    ⟨World.ownsRow_nil _ _ _ _, World.ownsRow_nil _ _ _ _, h, Nat.zero_le _, Nat.zero_le _, (fun _ h => by cases h), (fun _ h => by cases h), hm, (fun _ h => by cases h)⟩
  refine ⟨w.heap.size + 1 + 1, w.heap.size, w.heap.size + 1, rfl, ⟨⟨?_, by omega, ok _ (Nat.le_refl _) hm1, ok _ (by omega) hm2, fun k hk => by simp [Nm.fresh, Value.ownBlock] at hk, fun k hk => by simp [Nm.fresh, Value.ownBlock] at hk, by simp [Nm.fresh]⟩, rfl⟩, ?_⟩
  · have := RowB.new ((w.alloc (.map #[] 0)).alloc (.map #[] 0)) (rowOf (Nm.fresh w.heap.size) (Nm.fresh (w.heap.size + 1))) 63
    rw [show ((w.alloc (.map #[] 0)).alloc (.map #[] 0)).heap.size = w.heap.size + 1 + 1 by simp] at this
    exact this
  · exact (((Below.refl _ w).alloc (Nat.le_refl _) _).alloc (by simp) _).alloc (by simp; omega) _
end Go.Proofs.Ytggbnjdbbomjoaa
