/- The world package (3). -/
import Derived.Test.YtendekbckfpmgaaGreatMb
import Derived.Test.YtendekbckfpmgaaGreatMd
import Derived.Test.YtendekbckfpmgaaGreatEc
import Derived.Test.YtendekbckfpmgaaGreatMc
namespace Go.Proofs.YtendekbckfpmgaaGreat
open Go Go.RowKit Go.Proofs.YtendekbckfpmgaaGreatW.PrintWords Go.Proofs.YtendekbckfpmgaaGreat.PWorldMay
def Looks (fs : List Fd) (D : DataW Unit) : Prop := ∀ (i : Nat) (f : Fd), fs[i]? = some f → look D f.nm = some (i : Int)
theorem look_has {D : DataW Unit} {s : ByteArray} {c : Int} (h : look D s = some c) : Maps.has D (kS s) = true ∧ numOf D s = c := by
 unfold look at h
 split at h
 · rename_i q; exact ⟨q, by simpa using h⟩
 · cases h
theorem has_iff {fs : List Fd} {D : DataW Unit} (hN : Nums fs D) (hL : Looks fs D) (s : ByteArray) : Maps.has D (kS s) = true ↔ ∃ f ∈ fs, f.nm = s := by
 constructor
 · intro h
   obtain ⟨i, f, _, h2, h3⟩ := hN s (numOf D s) (by unfold look; rw [h]; rfl)
   exact ⟨f, List.mem_of_getElem? h2, h3⟩
 · rintro ⟨f, hf, rfl⟩
   obtain ⟨i, hi⟩ := List.getElem?_of_mem hf
   exact (look_has (hL i f hi)).1
theorem Looks.put {fs : List Fd} {D : DataW Unit} (h : Looks fs D) (hm : Maps.IsMap D) (f : Fd) (hh : Maps.has D (kS f.nm) = false) : Looks (fs ++ [f]) (D.put (kS f.nm) (.lit (.int .i64 fs.length))) := by
 intro i g hg
 by_cases e : i < fs.length
 · rw [List.getElem?_append_left e] at hg
   have := h i g hg
   have hne : g.nm ≠ f.nm := fun e => by
    have := (look_has this).1
    rw [e, hh] at this; cases this
   rw [look_put_other hne]; exact this
 · have hi : i = fs.length := by
    have := (List.getElem?_eq_some_iff.1 hg).1
    simp at this; omega
   subst hi
   simp at hg
   subst hg
   exact look_put_same hm _ _
theorem Looks.rises {fs : List Fd} {D : DataW Unit} (hN : Nums fs D) (hL : Looks fs D) {vs : List Int} (h : Rises D vs) : vs = rangeI 0 fs.length := by
 have hm : ∀ v, v ∈ vs ↔ v ∈ rangeI 0 fs.length := fun v => by
  rw [h.mem]
  unfold rangeI
  simp only [List.mem_map, List.mem_range]
  constructor
  · rintro ⟨s, hs⟩
    obtain ⟨i, f, h1, h2, _⟩ := hN s v hs
    exact ⟨i, (List.getElem?_eq_some_iff.1 h2).1, by omega⟩
  · rintro ⟨i, hi, rfl⟩
    exact ⟨_, by have := hL i fs[i] (List.getElem?_eq_getElem hi); simpa using this⟩
 have hu : (rangeI 0 fs.length).Pairwise (· < ·) := by
  unfold rangeI
  rw [List.pairwise_map]
  exact List.pairwise_lt_range.imp (fun h => by omega)
 have hn : vs.Nodup := h.up.imp (fun q e => by omega)
 have hk : (rangeI 0 fs.length).Nodup := hu.imp (fun q e => by omega)
 exact ((List.perm_ext_iff_of_nodup hn hk).2 hm).eq_of_pairwise (le := (· < ·)) (fun a b _ _ h1 h2 => by omega) h.up hu
theorem rangeI_shift (n : Nat) : (rangeI 0 n).map (· + 2) = rangeI 2 n := by
 unfold rangeI
 rw [List.map_map]
 rfl
theorem seek_iff (s : ByteArray) : ∀ (l : List En) (i : Int), 0 ≤ i → (∀ e ∈ l, e.st = true) → (seekE s l i < 0 ↔ ∀ e ∈ l, e.nm ≠ s)
 | [], i, _, _ => by simp [seekE]
 | e :: r, i, h, hs => by
  have ih := seek_iff s r (i + 1) (by omega) (fun q hq => hs q (List.mem_cons_of_mem _ hq))
  have h1 := hs e (List.mem_cons_self ..)
  simp only [seekE, h1, true_and]
  by_cases c : e.nm = s
  · rw [if_pos c]
    constructor
    · intro h; omega
    · intro h; exact absurd c (h e (List.mem_cons_self ..))
  · rw [if_neg c, ih]
    constructor
    · intro h q hq
      rcases List.mem_cons.1 hq with rfl | hq
      · exact c
      · exact h q hq
    · intro h q hq; exact h q (List.mem_cons_of_mem _ hq)
structure Twin (B : Nat) (w : World) (x y : Nm) (r : Rt) (es : List (Fd × En × List Int)) : Prop where
 nx : Nums x.fs x.D
 ny : Nums y.fs y.D
 lx : Looks x.fs x.D
 ly : Looks y.fs y.D
 s0 : ∀ e ∈ r.l0, e.st = true
 s1 : ∀ e ∈ r.l1, e.st = true
 n0 : r.l0.map En.nm = x.fs.map Fd.nm
 fy : es.map (·.1) = y.fs
 fr : es.map (·.2.1) = r.l1
 al : ∀ p ∈ es, p.2.1.nm = p.1.nm ∧ p.2.1.res = p.1.res ∧ p.2.1.df = p.1.df
 ok : ∀ p ∈ es, p.2.2.length ≤ 20 ∧ (∀ z ∈ p.2.2, I64 z) ∧ I64 p.1.res
 ap : ∀ p ∈ es, w.ownsRow B 43 1 p.1.ar p.2.2.length (p.2.2.map (Value.int .i64))
 ar : ∀ p ∈ es, ArOk w p.2.2 p.2.1.ar
theorem Twin.len0 {B : Nat} {w : World} {x y : Nm} {r : Rt} {es : List (Fd × En × List Int)} (h : Twin B w x y r es) : r.l0.length = x.fs.length := by
 have := congrArg List.length h.n0
 simpa using this
theorem Twin.len1 {B : Nat} {w : World} {x y : Nm} {r : Rt} {es : List (Fd × En × List Int)} (h : Twin B w x y r es) : r.l1.length = y.fs.length := by
 rw [← h.fy, ← h.fr]; simp
theorem Twin.seekx {B : Nat} {w : World} {x y : Nm} {r : Rt} {es : List (Fd × En × List Int)} (h : Twin B w x y r es) (s : ByteArray) : seekE s r.l0 0 < 0 ↔ Maps.has x.D (kS s) = false := by
 rw [seek_iff s r.l0 0 (by omega) h.s0]
 have hh := has_iff h.nx h.lx s
 constructor
 · intro q
   cases e : Maps.has x.D (kS s)
   · rfl
   · obtain ⟨f, hf, hn⟩ := hh.1 e
     have : f.nm ∈ r.l0.map En.nm := by rw [h.n0]; exact List.mem_map_of_mem hf
     obtain ⟨e', he, hn'⟩ := List.mem_map.1 this
     exact absurd (hn'.trans hn) (q e' he)
 · intro q e he hn
   have : e.nm ∈ x.fs.map Fd.nm := by rw [← h.n0]; exact List.mem_map_of_mem he
   obtain ⟨f, hf, hn'⟩ := List.mem_map.1 this
   have := hh.2 ⟨f, hf, hn'.trans hn⟩
   rw [q] at this; cases this
theorem Twin.seeky {B : Nat} {w : World} {x y : Nm} {r : Rt} {es : List (Fd × En × List Int)} (h : Twin B w x y r es) (s : ByteArray) : seekE s r.l1 0 < 0 ↔ Maps.has y.D (kS s) = false := by
 rw [seek_iff s r.l1 0 (by omega) h.s1]
 have hh := has_iff h.ny h.ly s
 constructor
 · intro q
   cases e : Maps.has y.D (kS s)
   · rfl
   · obtain ⟨f, hf, hn⟩ := hh.1 e
     rw [← h.fy] at hf
     obtain ⟨p, hp, rfl⟩ := List.mem_map.1 hf
     exact absurd ((h.al p hp).1.trans hn) (q p.2.1 (by rw [← h.fr]; exact List.mem_map_of_mem hp))
 · intro q e he hn
   rw [← h.fr] at he
   obtain ⟨p, hp, rfl⟩ := List.mem_map.1 he
   have := hh.2 ⟨p.1, by rw [← h.fy]; exact List.mem_map_of_mem hp, (h.al p hp).1.symm.trans hn⟩
   rw [q] at this; cases this
theorem Twin.stand {B : Nat} {w : World} {x y : Nm} {r : Rt} {es : List (Fd × En × List Int)} (h : Twin B w x y r es) (s : Int) : thereB x s = standB r s := by
 unfold thereB standB
 congr 1
 by_cases h2 : 2 ≤ s
 · rw [decide_eq_true h2]
   simp only [Bool.true_and]
   by_cases hl : (s - 2).toNat < x.fs.length
   · have hl' : (s - 2).toNat < r.l0.length := by rw [h.len0]; exact hl
     rw [List.getElem?_eq_getElem hl, List.getElem?_eq_getElem hl']
     have hk := look_has (h.lx _ _ (List.getElem?_eq_getElem hl))
     show (Maps.has x.D (kS x.fs[(s - 2).toNat].nm) && (numOf x.D x.fs[(s - 2).toNat].nm == s - 2)) = r.l0[(s - 2).toNat].st
     rw [hk.1, hk.2, h.s0 _ (List.getElem_mem hl')]
     have : ((s - 2).toNat : Int) = s - 2 := by omega
     rw [this]; simp
   · have hl' : r.l0.length ≤ (s - 2).toNat := by rw [h.len0]; omega
     rw [List.getElem?_eq_none (by omega), List.getElem?_eq_none hl']
 · rw [decide_eq_false h2]; rfl
theorem addE_iff (D : DataW Unit) (s : ByteArray) (n : Nat) : addE D s n = 0 ↔ Maps.has D (kS s) = false ∧ n < 2000 := by
 unfold addE
 cases Maps.has D (kS s)
 · simp
 · simp
theorem Twin.okS {B : Nat} {w : World} {x y : Nm} {r : Rt} {es : List (Fd × En × List Int)} (h : Twin B w x y r es) (s : ByteArray) : OkS x s ↔ mayB s [sBool, sInt] = true ∧ seekE s r.l0 0 < 0 ∧ r.l0.length < 2000 := by
 unfold OkS
 rw [addE_iff, h.seekx, h.len0]
theorem Twin.okF {B : Nat} {w : World} {x y : Nm} {r : Rt} {es : List (Fd × En × List Int)} (h : Twin B w x y r es) (s : ByteArray) (res : Int) (la : List Int) : OkF x y s res la ↔ OkR r (mayB s words17) s res la := by
 unfold OkF OkR
 rw [addE_iff, h.seeky, h.len1, h.stand]
 have : (∀ z ∈ la, thereB x z = true) ↔ ∀ z ∈ la, standB r z = true := by
  constructor <;> intro q z hz
  · rw [← h.stand]; exact q z hz
  · rw [h.stand]; exact q z hz
 rw [this]
 constructor
 · rintro ⟨a, b, c, d, e, f⟩; exact ⟨a, b, d, c, e, f⟩
 · rintro ⟨a, b, d, c, e, f⟩; exact ⟨a, b, c, d, e, f⟩
theorem sargs_apart {B B' : Nat} {w : World} {b : Nat} {x y : Nm} (k : STab B w b x y) {v : Value} {l : List Value} {n : Nat} (hv : w.ownsRow B' 43 1 v n l) : ∀ q, v.ownBlock = some q → ¬ (Own b x q ∨ Own b y q) := by
 intro q hq e
 rcases e with e | e
 · rcases e with e | e | e | e
   · subst e; exact own_ne_row hv k.row (by decide) hq
   · exact own_ne hv k.okx.oA (by decide) hq e
   · subst e; exact own_ne_map hv k.okx.oD hq
   · exact own_ne hv k.okx.oM (by decide) hq e
 · rcases e with e | e | e | e
   · subst e; exact own_ne_row hv k.row (by decide) hq
   · exact own_ne hv k.oky.oA (by decide) hq e
   · subst e; exact own_ne_map hv k.oky.oD hq
   · exact own_ne hv k.oky.oM (by decide) hq e
theorem Twin.mem {B : Nat} {w w' : World} {x y : Nm} {r : Rt} {es : List (Fd × En × List Int)} (h : Twin B w x y r es) (k : ∀ (B' : Nat) (v : Value) (l : List Int), w.ownsRow B' 43 1 v l.length (l.map (Value.int .i64)) → w'.ownsRow B' 43 1 v l.length (l.map (Value.int .i64))) : Twin B w' x y r es :=
 { h with ap := fun p hp => k _ _ _ (h.ap p hp), ar := fun p hp => k _ _ _ (h.ar p hp) }
theorem Twin.below {B : Nat} {w w' : World} {x y : Nm} {r : Rt} {es : List (Fd × En × List Int)} (h : Twin B w x y r es) (hb : Below w.heap.size w w') : Twin B w' x y r es :=
 h.mem fun _ _ _ hv => ownsRow_ch (S := fun _ => False) hv (Ch.ofBelow hb) (fun _ _ e => e)
theorem Twin.chg {B B2 : Nat} {w w' : World} {b : Nat} {x y x2 y2 : Nm} {r : Rt} {es : List (Fd × En × List Int)} (h : Twin B w x2 y2 r es) (k : STab B2 w b x y) (hc : Chg b x y w w') : Twin B w' x2 y2 r es :=
 h.mem fun _ _ _ hv => ownsRow_ch hv hc (sargs_apart k hv)
theorem Twin.rch {B B2 : Nat} {w w' : World} {g : Nat} {x y : Nm} {r r2 : Rt} {es : List (Fd × En × List Int)} (h : Twin B w x y r es) (k : RTab B2 w g r2) (hc : Ch (ROwn g r2) w w') : Twin B w' x y r es :=
 h.mem fun _ _ _ hv => ownsRow_ch hv hc (args_apart k hv)
theorem Twin.sort {B : Nat} {w : World} {x y : Nm} {r : Rt} {es : List (Fd × En × List Int)} (h : Twin B w x y r es) (hm : Maps.IsMap x.D) (s : ByteArray) (hh : Maps.has x.D (kS s) = false) (A' A2 ar : Value) :
 Twin B w (x.add ⟨s, .slice none 0 0, 0, false⟩ A') y { r with A0 := A2, l0 := r.l0 ++ [⟨s, ar, 0, false, r.dp, true⟩] } es :=
 { h with
  nx := h.nx.put hm ⟨s, .slice none 0 0, 0, false⟩
  lx := h.lx.put hm ⟨s, .slice none 0 0, 0, false⟩ hh
  s0 := fun e he => by
   rcases List.mem_append.1 he with he | he
   · exact h.s0 e he
   · rw [List.mem_singleton.1 he]
  n0 := by
   show (r.l0 ++ [_]).map En.nm = (x.fs ++ [_]).map Fd.nm
   rw [List.map_append, List.map_append, h.n0]; rfl }
theorem Twin.fn {B : Nat} {w : World} {x y : Nm} {r : Rt} {es : List (Fd × En × List Int)} (h : Twin B w x y r es) (hm : Maps.IsMap y.D) (s : ByteArray) (hh : Maps.has y.D (kS s) = false) (A' A2 ap ar : Value) (la : List Int) (res : Int) (df : Bool)
 (hl : la.length ≤ 20) (hI : ∀ z ∈ la, I64 z) (hr : I64 res) (hp : w.ownsRow B 43 1 ap la.length (la.map (Value.int .i64))) (ha : ArOk w la ar) :
 Twin B w x (y.add ⟨s, ap, res, df⟩ A') { r with A1 := A2, l1 := r.l1 ++ [⟨s, ar, res, df, r.dp, true⟩] } (es ++ [(⟨s, ap, res, df⟩, ⟨s, ar, res, df, r.dp, true⟩, la)]) :=
 { h with
  ny := h.ny.put hm ⟨s, ap, res, df⟩
  ly := h.ly.put hm ⟨s, ap, res, df⟩ hh
  s1 := fun e he => by
   rcases List.mem_append.1 he with he | he
   · exact h.s1 e he
   · rw [List.mem_singleton.1 he]
  fy := by
   rw [List.map_append, h.fy]; rfl
  fr := by
   rw [List.map_append, h.fr]; rfl
  al := fun p hp => by
   rcases List.mem_append.1 hp with hp | hp
   · exact h.al p hp
   · rw [List.mem_singleton.1 hp]; exact ⟨rfl, rfl, rfl⟩
  ok := fun p hq => by
   rcases List.mem_append.1 hq with hq | hq
   · exact h.ok p hq
   · rw [List.mem_singleton.1 hq]; exact ⟨hl, hI, hr⟩
  ap := fun p hq => by
   rcases List.mem_append.1 hq with hq | hq
   · exact h.ap p hq
   · rw [List.mem_singleton.1 hq]; exact hp
  ar := fun p hq => by
   rcases List.mem_append.1 hq with hq | hq
   · exact h.ar p hq
   · rw [List.mem_singleton.1 hq]; exact ha }
theorem Twin.fresh (B : Nat) (w : World) (m1 m2 : Nat) : Twin B w (Nm.fresh m1) (Nm.fresh m2) ⟨.slice none 0 0, .slice none 0 0, [], [], 0⟩ [] :=
 ⟨(fun s c h => by simp [look, Nm.fresh, Maps.has] at h), (fun s c h => by simp [look, Nm.fresh, Maps.has] at h), (fun i f h => by simp [Nm.fresh] at h), (fun i f h => by simp [Nm.fresh] at h), (fun _ h => by cases h), (fun _ h => by cases h), rfl, rfl, rfl,
  (fun _ h => by cases h), (fun _ h => by cases h), (fun _ h => by cases h), (fun _ h => by cases h)⟩
end Go.Proofs.YtendekbckfpmgaaGreat
namespace Go.Proofs.YtendekbckfpmgaaGreat
open Go Go.RowKit Go.Proofs.YtendekbckfpmgaaGreatW.PrintWords Go.Proofs.YtendekbckfpmgaaGreat.PWorldMay
set_option maxRecDepth 1000000 in
theorem termsNew_run : pointsE tab 1000000 49 .nil = true := by kernel_rfl
set_option maxRecDepth 1000000 in
theorem storeNew_run : pointsE tab 1000000 50 .nil = true := by kernel_rfl
theorem termsNew_any (w : World) : Calls Tryz.prog 49 #[] w fun e w' => (∃ a, e = .returned (.pointer (some a))) ∧ Below w.heap.size w w' := calls_points tabOk termsNew_run (fun σ => by simp only [VRs])
theorem storeNew_any (w : World) : Calls Tryz.prog 50 #[] w fun e w' => (∃ a, e = .returned (.pointer (some a))) ∧ Below w.heap.size w w' := calls_points tabOk storeNew_run (fun σ => by simp only [VRs])
theorem rt_fresh (w : World) {B : Nat} (hB : B ≤ w.heap.size) : RTab B (w.alloc (.cells #[.slice none 0 0, .slice none 0 0, .int .i64 0] 88)) w.heap.size ⟨.slice none 0 0, .slice none 0 0, [], [], 0⟩ :=
 ⟨RowB.new w [.slice none 0 0, .slice none 0 0, .int .i64 0] 88, hB, World.ownsRow_nil _ _ _ _, World.ownsRow_nil _ _ _ _, fun k hk => by simp [Value.ownBlock] at hk, Nat.zero_le _, Nat.zero_le _, Nat.zero_le _⟩
structure Bk (B : Nat) (w : World) (b g p q : Nat) (x y : Nm) (r : Rt) (a1 a2 : Value) (m : Nat) : Prop where
 st : STab B w b x y
 rt : RTab B w g r
 bp : RowB w p 63 [.pointer (some ⟨b, 0, none⟩), a1, .map (some m)]
 bq : RowB w q 68 [.pointer (some ⟨g, 0, none⟩), a2, .slice none 0 0]
section
variable {B : Nat} {w w' : World} {b g p q : Nat} {x y : Nm} {r : Rt} {es : List (Fd × En × List Int)} {a1 a2 : Value} {m : Nat}
theorem Bk.below (h : Bk B w b g p q x y r a1 a2 m) (hb : Below w.heap.size w w') : Bk B w' b g p q x y r a1 a2 m :=
 ⟨h.st.below hb, h.rt.below hb, h.bp.kept (S := fun _ => False) (Ch.ofBelow hb) (fun e => e), h.bq.kept (S := fun _ => False) (Ch.ofBelow hb) (fun e => e)⟩
theorem row_apart {k : Nat} {t : TypeId} {vs : List Value} (h : RowB w k t vs) (hs : STab B w b x y) (h1 : t ≠ 142) (h2 : 72 ≠ t) (h3 : 3 ≠ t) : ¬ (Own b x k ∨ Own b y k) := by
 intro e
 rcases e with e | e
 · rcases e with e | e | e | e
   · exact row_ne_row h hs.row h1 e
   · exact own_ne_row hs.okx.oA h h2 e
   · exact row_ne_map h hs.okx.oD e
   · exact own_ne_row hs.okx.oM h h3 e
 · rcases e with e | e | e | e
   · exact row_ne_row h hs.row h1 e
   · exact own_ne_row hs.oky.oA h h2 e
   · exact row_ne_map h hs.oky.oD e
   · exact own_ne_row hs.oky.oM h h3 e
theorem row_rapart {k : Nat} {t : TypeId} {vs : List Value} (h : RowB w k t vs) (hr : RTab B w g r) (h1 : t ≠ 88) (h2 : 147 ≠ t) : ¬ ROwn g r k := by
 intro e
 rcases e with e | e | e
 · exact row_ne_row h hr.row h1 e
 · exact own_ne_row hr.o0 h h2 e
 · exact own_ne_row hr.o1 h h2 e
theorem Bk.chg {x' y' : Nm} (h : Bk B w b g p q x y r a1 a2 m) (hc : Chg b x y w w') (hs : STab B w' b x' y') : Bk B w' b g p q x' y' r a1 a2 m :=
 ⟨hs, h.rt.chg h.st hc, h.bp.kept hc (row_apart h.bp h.st (by decide) (by decide) (by decide)), h.bq.kept hc (row_apart h.bq h.st (by decide) (by decide) (by decide))⟩
theorem Bk.rch {r' : Rt} (h : Bk B w b g p q x y r a1 a2 m) (hc : Ch (ROwn g r) w w') (hr : RTab B w' g r') : Bk B w' b g p q x y r' a1 a2 m :=
 ⟨h.st.rch h.rt hc, hr, h.bp.kept hc (row_rapart h.bp h.rt (by decide) (by decide)), h.bq.kept hc (row_rapart h.bq h.rt (by decide) (by decide))⟩
theorem Ch.rlow (k : RTab B w g r) (hc : Ch (ROwn g r) w w') : Below B w w' :=
 hc.below (Nat.le_trans k.gb (Nat.le_of_lt k.lt)) (fun _ hq => (k.own_lt hq).1)
theorem Bk.sort {w1 : World} (h : Bk B w b g p q x y r a1 a2 m) (t : Twin B w x y r es) {s : ByteArray} {e1 : Ending} (h1 : DeclS B w b x y s e1 w1) :
 ∃ x1, Bk B w1 b g p q x1 y r a1 a2 m ∧ Below B w w1 ∧
  ∀ w1' e2 w2, Below w1.heap.size w1 w1' → RDeclS B w1' g r s (mayB s [sBool, sInt]) e2 w2 → ∃ r', Bk B w2 b g p q x1 y r' a1 a2 m ∧ Twin B w2 x1 y r' es ∧ Below B w w2 := by
 have hB : B ≤ w.heap.size := Nat.le_trans h.rt.gb (Nat.le_of_lt h.rt.lt)
 have okS := t.okS s
 rcases h1 with ⟨v, er, ⟨_, hno⟩, _, hst, hb, hc⟩ | ⟨A', _, _, _, ⟨hh, hok⟩, hst, hb, hc⟩
 · have k1 := h.chg hc hst
   have t1 := t.chg h.st hc
   refine ⟨x, k1, hb, fun w1' e2 w2 hb1 h2 => ?_⟩
   have hB1 : B ≤ w1.heap.size := Nat.le_trans hB hb.size
   have hbw : Below B w w1' := hb.trans (hb1.mono hB1)
   rcases h2 with ⟨er2, _, _, _, hr2, hb2⟩ | ⟨A2, ar, hm, hs, hl, _, _, _⟩
   · exact ⟨r, (k1.below hb1).below hb2, (t1.below hb1).below hb2, hbw.trans (hb2.mono (Nat.le_trans hB1 hb1.size))⟩
   · exact absurd (okS.2 ⟨hm, hs, hl⟩) hno
 · have k1 := h.chg hc hst
   refine ⟨_, k1, hb, fun w1' e2 w2 hb1 h2 => ?_⟩
   have hB1 : B ≤ w1.heap.size := Nat.le_trans hB hb.size
   have hbw : Below B w w1' := hb.trans (hb1.mono hB1)
   rcases h2 with ⟨er2, _, _, hno, _, _⟩ | ⟨A2, ar, hm, hs, hl, _, hr2, hc2⟩
   · exact absurd (okS.1 hok) hno
   · have kk := (k1.below hb1).rch hc2 hr2
     have tt := (((t.sort h.st.okx.oD.isMap s hh A' A2 ar).chg h.st hc).below hb1).rch (k1.below hb1).rt hc2
     exact ⟨_, kk, tt, hbw.trans (Ch.rlow (k1.below hb1).rt hc2)⟩
theorem Bk.fn {w1 : World} (h : Bk B w b g p q x y r a1 a2 m) (t : Twin B w x y r es) {f : Fd} {la : List Int} (hI : ∀ z ∈ la, I64 z) (hres : I64 f.res) {e1 : Ending} (h1 : DeclF B w b x y f la e1 w1) :
 ∃ y1, Bk B w1 b g p q x y1 r a1 a2 m ∧ Below B w w1 ∧ Chg b x y w w1 ∧
  ∀ w1' f2 e2 w2, Below w1.heap.size w1 w1' → f2.nm = f.nm → f2.res = f.res → f2.df = f.df → RDeclF B w1' g r f2 la (mayB f.nm words17) e2 w2 → ∃ r' es', Bk B w2 b g p q x y1 r' a1 a2 m ∧ Twin B w2 x y1 r' es' ∧ Below B w w2 := by
 have hB : B ≤ w.heap.size := Nat.le_trans h.rt.gb (Nat.le_of_lt h.rt.lt)
 have okF := t.okF f.nm f.res la
 rcases h1 with ⟨v, er, ⟨_, hno⟩, _, hst, hb, hc⟩ | ⟨A', ar', _, hl20, ⟨hh, hok⟩, hrow, hst, hb, hc⟩
 · have k1 := h.chg hc hst
   have t1 := t.chg h.st hc
   refine ⟨y, k1, hb, hc, fun w1' f2 ee w2 hb1 e1 e2 e3 h2 => ?_⟩
   have hB1 : B ≤ w1.heap.size := Nat.le_trans hB hb.size
   have hbw : Below B w w1' := hb.trans (hb1.mono hB1)
   rcases h2 with ⟨er2, _, _, hr2, hb2⟩ | ⟨A2, ar, ⟨hok2, _⟩, _⟩
   · exact ⟨r, es, (k1.below hb1).below hb2, (t1.below hb1).below hb2, hbw.trans (hb2.mono (Nat.le_trans hB1 hb1.size))⟩
   · rw [e1, e2] at hok2
     exact absurd (okF.2 hok2) hno
 · have k1 := h.chg hc hst
   refine ⟨_, k1, hb, hc, fun w1' f2 ee w2 hb1 e1 e2 e3 h2 => ?_⟩
   have hB1 : B ≤ w1.heap.size := Nat.le_trans hB hb.size
   have hbw : Below B w w1' := hb.trans (hb1.mono hB1)
   rcases h2 with ⟨er2, ⟨_, hno⟩, _⟩ | ⟨A2, ar, ⟨_, har⟩, _, _, _, hr2, hc2⟩
   · rw [e1, e2] at hno
     exact absurd (okF.1 hok) hno
   · rw [e1, e2, e3] at hr2
     have kk := (k1.below hb1).rch hc2 hr2
     have t2 := ((t.chg h.st hc).below hb1).rch (k1.below hb1).rt hc2
     have row2 : w2.ownsRow B 43 1 ar' la.length (la.map (Value.int .i64)) := by
      have r1 := ownsRow_ch (S := fun _ => False) hrow (Ch.ofBelow hb1) (fun _ _ e => e)
      exact ownsRow_ch r1 hc2 (args_apart (k1.below hb1).rt r1)
     exact ⟨_, _, kk, t2.fn h.st.oky.oD.isMap f.nm hh A' A2 ar' ar la f.res f.df hl20 hI hres row2 har, hbw.trans (Ch.rlow (k1.below hb1).rt hc2)⟩
end
end Go.Proofs.YtendekbckfpmgaaGreat
namespace Go.Proofs.YtendekbckfpmgaaGreat
open Go Go.RowKit Go.Proofs.YtendekbckfpmgaaGreatW.PrintWords Go.Proofs.YtendekbckfpmgaaGreat.PWorldMay
theorem STab0.no {B : Nat} {w : World} {b : Nat} {x y : Nm} (h : STab0 B w b x y) {k : Nat} (hk : w.heap.size ≤ k) : ¬ (Own b x k ∨ Own b y k) := by
 rintro ((e | e | e | e) | (e | e | e | e))
 · have := h.lt; omega
 · have := (h.okx.oA.lt _ e).2; omega
 · have := h.okx.oD.lt; omega
 · have := (h.okx.oM.lt _ e).2; omega
 · have := h.lt; omega
 · have := (h.oky.oA.lt _ e).2; omega
 · have := h.oky.oD.lt; omega
 · have := (h.oky.oM.lt _ e).2; omega
theorem ints_at {w : World} {A : Option Addr} {l : List Int} (h : (Kd.int .i64).C w A l.length l) (k : Nat) (hk : k < l.length) : ∃ ad bb oo, A = some ad ∧ ad.add k = ⟨bb, oo, none⟩ ∧ w.cell? ⟨bb, oo, none⟩ = some (.int .i64 (l.getD k 0)) := by
 obtain ⟨ad, c, e, _, hK, hc⟩ := Kd.C_get h 0 k (by omega) (by omega)
 rw [Int.toNat_natCast] at hc
 obtain rfl : c = [.int .i64 (l.getD ((k : Int)).toNat 0)] := hK
 have h0 := hc 0 _ rfl
 rw [Nat.add_zero, Int.toNat_natCast] at h0
 have h0' : w.cell? (ad.add (k * 1)) = some (.int .i64 (l.getD k 0)) := h0
 rw [Nat.mul_one] at h0'
 rcases hq : ad.add k with ⟨bb, oo, sp⟩
 cases sp with
 | none => exact ⟨ad, bb, oo, e, hq, by rw [← hq]; exact h0'⟩
 | some s =>
  rw [hq] at h0'
  unfold World.cell? at h0'
  revert h0'
  simp only []
  split <;> intro h0' <;> simp at h0'
theorem args_rd {w : World} {za : Option Addr} {zc : Nat} {la : List Int} (h : ArOk w la (.slice za la.length zc)) (k : Nat) (hk : k < la.length) :
 ∃ ad bb oo, za = some ad ∧ ad.add k = ⟨bb, oo, none⟩ ∧ bb < w.heap.size ∧ w.cell? ⟨bb, oo, none⟩ = some (.int .i64 (la.getD k 0)) := by
 obtain ⟨A6, c6, he, hle, hC⟩ := args_C h
 simp only [Value.slice.injEq] at he
 obtain ⟨rfl, _, rfl⟩ := he
 obtain ⟨ad, bb, oo, e, h1, h2⟩ := ints_at hC k hk
 refine ⟨ad, bb, oo, e, h1, ?_, h2⟩
 rcases Nat.lt_or_ge bb w.heap.size with h | h
 · exact h
 · unfold World.cell? at h2
   simp [Array.getElem?_eq_none h] at h2
def BooksR (w : World) (e : Ending) (w' : World) : Prop :=
 ∃ (b g p q : Nat) (x y : Nm) (r : Rt) (es : List (Fd × En × List Int)) (a1 a2 : Value) (m : Nat),
  e = .returned (.tuple #[.pointer (some ⟨p, 0, none⟩), .pointer (some ⟨q, 0, none⟩)]) ∧ Bk w.heap.size w' b g p q x y r a1 a2 m ∧ Twin w.heap.size w' x y r es ∧ Below w.heap.size w w'
def DefIn (v : S119) : Prop := v.f0.size + 8 * v.f2.f1.length ≤ 4000 ∧ (∀ s ∈ v.f2.f1, I64 s) ∧ I64 v.f2.f2
set_option maxRecDepth 100000 in
set_option maxHeartbeats 4000000 in
theorem books_any {w : World} (A : Option Addr) (c : Nat) (l : List S119) (hl : k119.C w A l.length l) (hlen : l.length ≤ 40) (hin : ∀ v ∈ l, DefIn v) :
 Calls Tryz.prog 16 #[.slice A l.length c] w (BooksR w) := by
 have hmm := @run_makeMap Tryz.prog
 have HL := Lib.hid hl
 have HI := Lib.hid hin
 clear hl hin
 go_enter Tryz.func16, Tryz.ntmps16
 go_wp2_with fail
 refine (new_any _).mono ?_; rintro e w1 ⟨b, m1, m2, rfl, hst, hb1⟩
 have HST := Lib.hid hst
 have HB1 := Lib.hid hb1
 clear hst hb1
 go_wp2_with fail
 refine (termsNew_any _).mono ?_; rintro e w2 ⟨⟨a1, rfl⟩, hb2⟩
 have HST2 := Lib.hid (HST.out.below hb2)
 have HB2 := Lib.hid (HB1.out.trans (hb2.mono HB1.out.size))
 clear hb2 HST HB1
 go_wp2_with fail
 refine (storeNew_any _).mono ?_; rintro e w5 ⟨⟨a2, rfl⟩, hb5⟩
 have e3 : ((w2.alloc (.map #[] 0)).alloc (.cells #[.pointer (some ⟨b, 0, none⟩), .pointer (some a1), .map (some w2.heap.size)] 63)).heap.size = w2.heap.size + 1 + 1 := by simp
 have e2 : (w2.alloc (.map #[] 0)).heap.size = w2.heap.size + 1 := by simp
 have hb4 : Below w2.heap.size w2 (((w2.alloc (.map #[] 0)).alloc (.cells #[.pointer (some ⟨b, 0, none⟩), .pointer (some a1), .map (some w2.heap.size)] 63)).alloc (.cells #[.slice none 0 0, .slice none 0 0, .int .i64 0] 88)) := (((Below.refl _ w2).alloc (Nat.le_refl _) _).alloc (by simp) _).alloc (by simp; omega) _
 have HRT := Lib.hid (show RTab w.heap.size (((w2.alloc (.map #[] 0)).alloc (.cells #[.pointer (some ⟨b, 0, none⟩), .pointer (some a1), .map (some w2.heap.size)] 63)).alloc (.cells #[.slice none 0 0, .slice none 0 0, .int .i64 0] 88)) (w2.heap.size + 1 + 1) ⟨.slice none 0 0, .slice none 0 0, [], [], 0⟩ by
  have := rt_fresh ((w2.alloc (.map #[] 0)).alloc (.cells #[.pointer (some ⟨b, 0, none⟩), .pointer (some a1), .map (some w2.heap.size)] 63)) (B := w.heap.size) (by have := HB2.out.size; simp; omega)
  rw [e3] at this; exact this)
 have HBP := Lib.hid (show RowB (((w2.alloc (.map #[] 0)).alloc (.cells #[.pointer (some ⟨b, 0, none⟩), .pointer (some a1), .map (some w2.heap.size)] 63)).alloc (.cells #[.slice none 0 0, .slice none 0 0, .int .i64 0] 88)) (w2.heap.size + 1) 63 [.pointer (some ⟨b, 0, none⟩), .pointer (some a1), .map (some w2.heap.size)] by
  have := RowB.new (w2.alloc (.map #[] 0)) [.pointer (some ⟨b, 0, none⟩), .pointer (some a1), .map (some w2.heap.size)] 63
  rw [e2] at this
  exact RowB.alloc this _)
 have HB5 := Lib.hid (HB2.out.trans ((hb4.trans (hb5.mono hb4.size)).mono HB2.out.size))
 have HST5 := Lib.hid (HST2.out.below (hb4.trans (hb5.mono hb4.size)))
 have HRT5 := Lib.hid (HRT.out.below hb5)
 have HBP5 := Lib.hid (HBP.out.kept (S := fun _ => False) (Ch.ofBelow hb5) (fun e => e))
 generalize w2.heap.size + 1 + 1 = g at HRT5 ⊢
 generalize w2.heap.size + 1 = p at HBP5 ⊢
 generalize w2.heap.size = m at HBP5 ⊢
 clear HRT HBP hb4 hb5 HST2 HB2 e2 e3
 go_wp2_with fail
 have HBQ := Lib.hid (RowB.new w5 [.pointer (some ⟨g, 0, none⟩), .pointer (some a2), .slice none 0 0] 68)
 have HBK := Lib.hid (show Bk w.heap.size (w5.alloc (.cells #[.pointer (some ⟨g, 0, none⟩), .pointer (some a2), .slice none 0 0] 68)) b g p w5.heap.size (Nm.fresh m1) (Nm.fresh m2) ⟨.slice none 0 0, .slice none 0 0, [], [], 0⟩ (.pointer (some a1)) (.pointer (some a2)) m from
  ⟨HST5.out.below ((Below.refl _ w5).alloc (Nat.le_refl _) _), HRT5.out.below ((Below.refl _ w5).alloc (Nat.le_refl _) _), RowB.alloc HBP5.out _, HBQ.out⟩)
 have HB6 := Lib.hid (show Below w.heap.size w (w5.alloc (.cells #[.pointer (some ⟨g, 0, none⟩), .pointer (some a2), .slice none 0 0] 68)) from HB5.out.alloc HB5.out.size _)
 clear HST5 HRT5 HBP5 HBQ HB5
 generalize w5.heap.size = q at HBK ⊢
 go_loopw [6] (fun vi wr => ∃ k : Nat, vi = .int .i64 k ∧ k ≤ l.length ∧ Hid (∃ x y r es, Bk w.heap.size wr b g p q x y r (.pointer (some a1)) (.pointer (some a2)) m ∧ Twin w.heap.size wr x y r es ∧ Below w.heap.size w wr)) (fun vi _ => l.length - (intOf vi).toNat)
 case atStart => exact ⟨0, rfl, by omega, Lib.hid ⟨_, _, _, _, HBK.out, Twin.fresh _ _ _ _, HB6.out⟩⟩
 case round =>
  clear HBK HB6
  obtain ⟨k, rfl, hk, hh⟩ := hrel
  obtain ⟨x, y, r, es, hbk, htw, hbb⟩ := hh.out
  clear hh
  have HBK := Lib.hid hbk
  have HTW := Lib.hid htw
  have HB := Lib.hid hbb
  by_cases hkl : k < l.length
  case neg =>
   have hkl' : ¬ (k : Int) < l.length := by omega
   clear hbk htw hbb
   go_wp2_with fail
   go_ret2
   exact ⟨b, g, p, q, x, y, r, es, _, _, m, rfl, HBK.out, HTW.out, HB.out⟩
  case pos =>
   have hkl' : (k : Int) < l.length := by omega
   have p0 : wr.cell? ⟨p, 0, none⟩ = some (.pointer (some ⟨b, 0, none⟩)) := hbk.bp.cell 0
   have hpl : p < wr.heap.size := hbk.bp.lt
   obtain ⟨ad, bb, oo, cs, hA, hadd, hK, hc, hbl2⟩ := cells_at z119 HL.out k hkl (by decide)
   subst hA
   obtain ⟨A4, c4, rfl, hle4, hC4⟩ := k119_open hK
   replace hadd : ad.add (k * 6) = ⟨bb, oo, none⟩ := hadd
   have hin := HI.out (l.getD k z119) (by rw [List.getD_eq_getElem?_getD, List.getElem?_eq_getElem hkl]; exact List.getElem_mem _)
   generalize l.getD k z119 = v at *
   obtain ⟨nm, isS, ⟨fn, la, rs, df⟩⟩ := v
   obtain ⟨hsz, hI, hres⟩ := hin
   simp only at hc hC4 hle4 hsz hI hres
   have hqs := fun i v (h : _) => ((bcell HB.out).1 bb (oo + i) hbl2).trans (hc i v h)
   have q0 : wr.cell? ⟨bb, oo, none⟩ = some (.string nm) := by have := hqs 0 _ rfl; simpa using this
   have q1 : wr.cell? ⟨bb, oo + 1, none⟩ = some (.bool isS) := hqs 1 _ rfl
   have q2 : wr.cell? ⟨bb, oo + 2, none⟩ = some (.string fn) := hqs 2 _ rfl
   have q3 : wr.cell? ⟨bb, oo + 3, none⟩ = some (.slice A4 la.length c4) := hqs 3 _ rfl
   have q4 : wr.cell? ⟨bb, oo + 4, none⟩ = some (.int .i64 rs) := hqs 4 _ rfl
   have q5 : wr.cell? ⟨bb, oo + 5, none⟩ = some (.bool df) := hqs 5 _ rfl
   have hbr : bb < wr.heap.size := Nat.lt_of_lt_of_le hbl2 HB.out.size
   have HC4 := Lib.hid (Kd.C_below hC4 HB.out)
   have HQ0 := Lib.hid (show ∀ W, Below w.heap.size w W → W.cell? ⟨bb, oo, none⟩ = some (.string nm) ∧ bb < W.heap.size from fun W hW => ⟨((bcell hW).1 bb oo hbl2).trans (by have := hc 0 _ rfl; simpa using this), Nat.lt_of_lt_of_le hbl2 hW.size⟩)
   clear hqs hc hK hC4 hbk htw hbb
   have hn1 : nm.size ≤ maxLen := by unfold maxLen; omega
   cases isS
   case true =>
    go_wp2_with fail
    refine wp_region_below_tail 9 (by kernel_rfl) (by kernel_rfl) ?_
    simp only [List.take_succ_cons, List.take_zero]
    iterate 9 (refine wq_val (by rfl) (fun w' hw' => by obtain ⟨hc, hf⟩ := bcell hw'; go_simp; try rfl) ?_; (intro K hK; go_simp; refine hK _ ?_; clear hK K))
    refine wpQuiet_nil ?_; intro w7 hb7
    simp only [List.drop_succ_cons, List.drop_zero]
    have HBK7 := Lib.hid (HBK.out.below hb7)
    have HTW7 := Lib.hid (HTW.out.below hb7)
    have HB7 := Lib.hid (HB.out.trans (hb7.mono HB.out.size))
    clear hb7 HBK HTW p0 hpl q0 q1 q2 q3 q4 q5 hbr
    go_wp2_with fail
    refine (declareSort_any HBK7.out.st nm hn1).mono ?_; intro e w8 h8
    obtain ⟨x1, k8, hb8, fin⟩ := HBK7.out.sort HTW7.out h8
    obtain ⟨vv, rfl⟩ : ∃ vv, e = .returned vv := by
     rcases h8 with ⟨_, _, _, e, _⟩ | ⟨_, e, _⟩
     · exact ⟨_, e⟩
     · exact ⟨_, e⟩
    have HBK8 := Lib.hid k8
    have HF := Lib.hid fin
    have hb8' := HB7.out.trans hb8
    have HB8 := Lib.hid hb8'
    have p0 : w8.cell? ⟨q, 0, none⟩ = some (.pointer (some ⟨g, 0, none⟩)) := k8.bq.cell 0
    have hpl : q < w8.heap.size := k8.bq.lt
    obtain ⟨q0, hbr⟩ := HQ0.out w8 hb8'
    clear h8 k8 fin hb8 hb8' HBK7 HTW7
    go_wp2_with fail
    refine wp_region_below_tail 9 (by kernel_rfl) (by kernel_rfl) ?_
    simp only [List.take_succ_cons, List.take_zero]
    iterate 9 (refine wq_val (by rfl) (fun w' hw' => by obtain ⟨hc, hf⟩ := bcell hw'; go_simp; try rfl) ?_; (intro K hK; go_simp; refine hK _ ?_; clear hK K))
    refine wpQuiet_nil ?_; intro w9 hb9
    simp only [List.drop_succ_cons, List.drop_zero]
    have HB9 := Lib.hid hb9
    clear hb9 p0 hpl q0 hbr
    obtain ⟨k0, mr, hm⟩ := may_says nm true
    have hmr := may_is k0 nm true [sBool, sInt] (Or.inl ⟨rfl, rfl⟩) mr hm
    subst hmr
    have HM := Lib.hid hm
    clear hm
    go_wp2_with fail
    refine (rdeclareSort_any (HBK8.out.below HB9.out).rt nm _ k0 HM.out).mono ?_; intro e w10 h10
    obtain ⟨r', kk, tt, bw⟩ := HF.out w9 e w10 HB9.out h10
    obtain ⟨vv, rfl⟩ : ∃ vv, e = .returned vv := by
     rcases h10 with ⟨_, _, e, _⟩ | ⟨_, _, _, _, _, e, _⟩
     · exact ⟨_, e⟩
     · exact ⟨_, e⟩
    have HX := Lib.hid (show ∃ x y r es, Bk w.heap.size w10 b g p q x y r (.pointer (some a1)) (.pointer (some a2)) m ∧ Twin w.heap.size w10 x y r es ∧ Below w.heap.size w w10 from ⟨x1, y, r', es, kk, tt, HB7.out.trans bw⟩)
    clear h10 kk tt bw HBK8 HF HB8 HB9 HM
    go_wp2_with fail
    go_roundw
    case rel => exact ⟨k + 1, by go_num, by omega, HX⟩
    case measure => simp [intOf]; omega
   case false =>
    go_wp2_with fail
    refine (copied_row wr fn A4 c4 la rs df (by omega) hle4 HC4.out).mono ?_; rintro e w7 ⟨za, zb, rfl, hb7, har⟩
    obtain ⟨A5, c5, hare, hle5, hC5⟩ := args_C har
    obtain ⟨zb1, zb2⟩ := zb
    simp only [Value.slice.injEq] at hare
    obtain ⟨rfl, rfl, rfl⟩ := hare
    have HBK7 := Lib.hid (HBK.out.below hb7)
    have HTW7 := Lib.hid (HTW.out.below hb7)
    have hb7' := HB.out.trans (hb7.mono HB.out.size)
    have HB7 := Lib.hid hb7'
    have HAR := Lib.hid har
    obtain ⟨q0, hbr⟩ := HQ0.out w7 hb7'
    clear hb7 hb7' HBK HTW p0 hpl q1 q2 q3 q4 q5 har hC5
    go_wp2_with fail
    have HNO := Lib.hid (STab0.no HBK7.out.st.toSTab0 (Nat.le_refl w7.heap.size))
    have h8 : Below w7.heap.size w7 (w7.alloc (.cells #[.string nm, .slice za la.length zb2, .int .i64 rs, .bool df] 72)) := (Below.refl _ w7).alloc (Nat.le_refl _) _
    have HBK8 := Lib.hid (HBK7.out.below h8)
    have HTW8 := Lib.hid (HTW7.out.below h8)
    have HB8 := Lib.hid (HB7.out.trans (h8.mono HB7.out.size))
    have HAR8 := Lib.hid (show ArOk (w7.alloc (.cells #[.string nm, .slice za la.length zb2, .int .i64 rs, .bool df] 72)) la (.slice za la.length zb2) from ownsRow_ch (S := fun _ => False) HAR.out (Ch.ofBelow h8) (fun _ _ e => e))
    have HFB := Lib.hid (show RowB (w7.alloc (.cells #[.string nm, .slice za la.length zb2, .int .i64 rs, .bool df] 72)) w7.heap.size 72 [.string nm, .slice za la.length zb2, .int .i64 rs, .bool df] from RowB.new w7 _ _)
    clear h8 HBK7 HTW7 HB7 HAR q0 hbr
    generalize w7.alloc (.cells #[.string nm, .slice za la.length zb2, .int .i64 rs, .bool df] 72) = w8 at *
    generalize w7.heap.size = fb at *
    have p0 : w8.cell? ⟨p, 0, none⟩ = some (.pointer (some ⟨b, 0, none⟩)) := HBK8.out.bp.cell 0
    have hpl : p < w8.heap.size := HBK8.out.bp.lt
    have u0 : w8.cell? ⟨fb, 0, none⟩ = some (.string nm) := HFB.out.cell 0
    have u1 : w8.cell? ⟨fb, 1, none⟩ = some (.slice za la.length zb2) := HFB.out.cell 1
    have u2 : w8.cell? ⟨fb, 2, none⟩ = some (.int .i64 rs) := HFB.out.cell 2
    have u3 : w8.cell? ⟨fb, 3, none⟩ = some (.bool df) := HFB.out.cell 3
    have hfl : fb < w8.heap.size := HFB.out.lt
    refine wp_region_below_tail 5 (by kernel_rfl) (by kernel_rfl) ?_
    simp only [List.take_succ_cons, List.take_zero]
    iterate 5 (refine wq_val (by rfl) (fun w' hw' => by obtain ⟨hc, hf⟩ := bcell hw'; go_simp; try rfl) ?_; (intro K hK; go_simp; refine hK _ ?_; clear hK K))
    refine wpQuiet_nil ?_; intro w9 hb9
    simp only [List.drop_succ_cons, List.drop_zero]
    have HBK9 := Lib.hid (HBK8.out.below hb9)
    have HTW9 := Lib.hid (HTW8.out.below hb9)
    have HB9 := Lib.hid (HB8.out.trans (hb9.mono HB8.out.size))
    have HAR9 := Lib.hid (show ArOk w9 la (.slice za la.length zb2) from ownsRow_ch (S := fun _ => False) HAR8.out (Ch.ofBelow hb9) (fun _ _ e => e))
    have HFB9 := Lib.hid (HFB.out.kept (S := fun _ => False) (Ch.ofBelow hb9) (fun e => e))
    clear hb9 HBK8 HTW8 HB8 HAR8 HFB p0 hpl u0 u1 u2 u3 hfl
    go_wp2_with fail
    refine (declareFun_any HBK9.out.st ⟨nm, .slice za la.length zb2, rs, df⟩ hn1 hres la (by omega) hI HAR9.out).mono ?_; intro e w10 h10
    obtain ⟨y1, k10, hb10, hc10, fin⟩ := HBK9.out.fn HTW9.out hI hres h10
    obtain ⟨vv, rfl⟩ : ∃ vv, e = .returned vv := by
     rcases h10 with ⟨_, _, _, e, _⟩ | ⟨_, _, e, _⟩
     · exact ⟨_, e⟩
     · exact ⟨_, e⟩
    have HBK10 := Lib.hid k10
    have HF := Lib.hid fin
    have HAR10 := Lib.hid (show ArOk w10 la (.slice za la.length zb2) from ownsRow_ch HAR9.out hc10 (sargs_apart HBK9.out.st HAR9.out))
    have hfb10 := HFB9.out.kept hc10 HNO.out
    have HFB10 := Lib.hid hfb10
    have p0 : w10.cell? ⟨q, 0, none⟩ = some (.pointer (some ⟨g, 0, none⟩)) := k10.bq.cell 0
    have hpl : q < w10.heap.size := k10.bq.lt
    have u0 : w10.cell? ⟨fb, 0, none⟩ = some (.string nm) := hfb10.cell 0
    have u1 : w10.cell? ⟨fb, 1, none⟩ = some (.slice za la.length zb2) := hfb10.cell 1
    have u2 : w10.cell? ⟨fb, 2, none⟩ = some (.int .i64 rs) := hfb10.cell 2
    have u3 : w10.cell? ⟨fb, 3, none⟩ = some (.bool df) := hfb10.cell 3
    have hfl : fb < w10.heap.size := hfb10.lt
    clear h10 k10 fin hc10 hb10 hfb10 HBK9 HTW9 HAR9 HFB9 HNO
    go_wp2_with fail
    refine wp_region_below_tail 5 (by kernel_rfl) (by kernel_rfl) ?_
    simp only [List.take_succ_cons, List.take_zero]
    iterate 5 (refine wq_val (by rfl) (fun w' hw' => by obtain ⟨hc, hf⟩ := bcell hw'; go_simp; try rfl) ?_; (intro K hK; go_simp; refine hK _ ?_; clear hK K))
    refine wpQuiet_nil ?_; intro w11 hb11
    simp only [List.drop_succ_cons, List.drop_zero]
    have HB11 := Lib.hid hb11
    have HAR11 := Lib.hid (show ArOk w11 la (.slice za la.length zb2) from ownsRow_ch (S := fun _ => False) HAR10.out (Ch.ofBelow hb11) (fun _ _ e => e))
    clear hb11 p0 hpl u0 u1 u2 u3 hfl HFB10 HAR10
    obtain ⟨k0, mr, hm⟩ := may_says nm false
    have hmr := may_is k0 nm false words17 (Or.inr ⟨rfl, rfl⟩) mr hm
    subst hmr
    have HM := Lib.hid hm
    clear hm
    go_wp2_with fail
    refine (rdeclareFun_any (HBK10.out.below HB11.out).rt nm za zb2 la rs df (by omega) hI hres _ k0 HM.out (args_rd HAR11.out) (fun w' hc => ?_)).mono ?_
    · have ha : ArOk w' la (.slice za la.length zb2) := ownsRow_ch HAR11.out hc (fun q hq e => args_apart (HBK10.out.below HB11.out).rt HAR11.out q hq (Or.inr (Or.inr e)))
      obtain ⟨A6, c6, he, hle, hC⟩ := args_C ha
      simp only [Value.slice.injEq] at he
      obtain ⟨rfl, _, rfl⟩ := he
      exact copied_row w' nm za zb2 la rs df (by omega) hle hC
    intro e w12 h12
    obtain ⟨r', es', kk, tt, bw⟩ := HF.out w11 ⟨nm, .slice za la.length zb2, rs, df⟩ e w12 HB11.out rfl rfl rfl h12
    obtain ⟨vv, rfl⟩ : ∃ vv, e = .returned vv := by
     rcases h12 with ⟨_, _, e, _⟩ | ⟨_, _, _, _, _, e, _⟩
     · exact ⟨_, e⟩
     · exact ⟨_, e⟩
    have HX := Lib.hid (show ∃ x y r es, Bk w.heap.size w12 b g p q x y r (.pointer (some a1)) (.pointer (some a2)) m ∧ Twin w.heap.size w12 x y r es ∧ Below w.heap.size w w12 from ⟨x, y1, r', es', kk, tt, HB9.out.trans bw⟩)
    clear h12 kk tt bw HBK10 HF HB11 HM HAR11
    go_wp2_with fail
    go_roundw
    case rel => exact ⟨k + 1, by go_num, by omega, HX⟩
    case measure => simp [intOf]; omega
end Go.Proofs.YtendekbckfpmgaaGreat
namespace Go.Proofs.YtendekbckfpmgaaGreat
open Go Go.RowKit Go.Proofs.YtendekbckfpmgaaGreatW.PrintWords Go.Proofs.YtendekbckfpmgaaGreat.PWorldMay
theorem isKeyI (s : Int) : WideAt.IsKeyLit (.int .i64 s) := by simp [WideAt.IsKeyLit]
theorem numZ_same {D : DataW Unit} (h : Maps.IsMap D) (s c : Int) : numZ (D.put (.int .i64 s) (.lit (.int .i64 c))) s = c := by
 unfold numZ; rw [Maps.atKey_put_same h (isKeyI s)]
theorem numZ_other {D : DataW Unit} {s t : Int} (h : t ≠ s) (c : Int) : numZ (D.put (.int .i64 s) (.lit (.int .i64 c))) t = numZ D t := by
 unfold numZ; rw [Maps.atKey_put_other (by simp [h])]
theorem foldZ_out : ∀ (z : List S78) (D : DataW Unit) (s : Int), (∀ x ∈ z, x.f0 ≠ s) → numZ (z.foldl (fun D s => D.put (.int .i64 s.f0) (.lit (.int .i64 s.f1))) D) s = numZ D s
 | [], _, _, _ => rfl
 | x :: t, D, s, h => by
  rw [List.foldl_cons, foldZ_out t _ s (fun y hy => h y (List.mem_cons_of_mem _ hy)), numZ_other (fun e => h x (List.mem_cons_self ..) e.symm)]
theorem foldZ_in : ∀ (z : List S78) (D : DataW Unit) (s : Int), Maps.IsMap D → (z.map (·.f0)).Nodup → numZ D s = 0 → numZ (z.foldl (fun D s => D.put (.int .i64 s.f0) (.lit (.int .i64 s.f1))) D) s = sizeR z s
 | [], _, _, _, _, h => h
 | x :: t, D, s, hm, hn, h => by
  rw [List.map_cons, List.nodup_cons] at hn
  rw [List.foldl_cons, sizeR]
  by_cases c : x.f0 = s
  · rw [if_pos c, foldZ_out t _ s (fun y hy e => hn.1 (by rw [c, ← e]; exact List.mem_map_of_mem hy)), c, numZ_same hm]
  · rw [if_neg c]
    exact foldZ_in t _ s (hm.put _ _) hn.2 (by rw [numZ_other (fun e => c e.symm)]; exact h)
theorem numZ_size (z : List S78) (hn : (z.map (·.f0)).Nodup) (s : Int) : numZ (mapZ z) s = sizeR z s :=
 foldZ_in z _ s ⟨[], rfl⟩ hn rfl
theorem rangeI_nodup (a : Int) (n : Nat) : (rangeI a n).Nodup := by
 unfold rangeI
 unfold List.Nodup
 rw [List.pairwise_map]
 exact List.pairwise_lt_range.imp (fun h => by omega)
theorem norm_iff (hi lo : Int) (h : -1099511627776 ≤ hi ∧ hi ≤ 1099511627776) (hlo : I64 lo) : (hi == normHi (val hi lo) && lo == normLo (val hi lo)) = decide (0 ≤ lo ∧ lo < 4611686018427387904) := by
 have hM : M62 = 4611686018427387904 := rfl
 unfold I64 at hlo
 have hd : (hi * M62 + lo) / M62 = hi + lo / M62 := by rw [hM]; omega
 have hmod : (hi * M62 + lo) % M62 = lo % M62 := by rw [hM]; omega
 have hq : -2 ≤ lo / M62 ∧ lo / M62 ≤ 1 := by rw [hM]; omega
 unfold normHi normLo val
 rw [hd, hmod]
 have n1 : ¬ hi + lo / M62 < minI := by unfold minI; omega
 have n2 : ¬ maxI < hi + lo / M62 := by unfold maxI; omega
 unfold madeHi madeLo
 rw [if_neg n1, if_neg n2, if_neg n1, if_neg n2]
 by_cases c : 0 ≤ lo ∧ lo < 4611686018427387904
 · have e1 : lo / M62 = 0 := by rw [hM]; omega
   have e2 : lo % M62 = lo := by rw [hM]; omega
   rw [decide_eq_true c, e1, e2]
   simp
 · rw [decide_eq_false c, Bool.and_eq_false_iff, beq_eq_false_iff_ne, beq_eq_false_iff_ne]
   rw [hM]; omega
theorem is_same (z : List S78) (hn : (z.map (·.f0)).Nodup) (v : S47) (hv : WideV v) (s : Int) : isB (mapZ z) v s = isR z v s := by
 obtain ⟨v0, v1, ⟨v2, v3⟩, v4⟩ := v
 have hlo : I64 v3 := hv.2.2.1
 unfold isB isR
 rw [numZ_size z hn]
 simp only
 by_cases h0 : s = 0
 · subst h0
   rw [if_pos rfl, if_pos rfl]
   by_cases c : v0 = 0
   · rw [if_pos c, c]
     cases (v2 == 0) <;> cases (v3 == 0) <;> simp
   · rw [if_neg c]; simp [c]
 rw [if_neg h0, if_neg h0]
 by_cases h1 : s = 1
 · subst h1
   rw [if_pos rfl, if_pos rfl]
   by_cases hr : -1099511627776 ≤ v2 ∧ v2 ≤ 1099511627776
   · rw [norm_iff v2 v3 hr hlo, decide_eq_true hr]
     by_cases c : v0 = 1
     · rw [if_pos c, c]
       cases v1
       · by_cases c4 : v4 = 0
         · subst c4
           by_cases c3 : 0 ≤ v3
           · by_cases c5 : v3 < 4611686018427387904
             · simp [c3, c5, hr]
             · simp [c3, c5]
           · simp [c3]
         · simp [c4]
       · simp
     · rw [if_neg c]; simp [c]
   · rw [decide_eq_false hr, Bool.false_and, Bool.and_false]
     symm
     repeat' split
     all_goals first | rfl | skip
     all_goals (simp; omega)
 rw [if_neg h1, if_neg h1]
 by_cases c : v0 = s
 · rw [if_pos c, c]
   cases v1
   · by_cases c1 : 0 ≤ v4
     · by_cases c2 : v4 < sizeR z s
       · cases (v2 == 0) <;> cases (v3 == 0) <;> simp [c1, c2]
       · cases (v2 == 0) <;> cases (v3 == 0) <;> simp [c1, c2]
     · cases (v2 == 0) <;> cases (v3 == 0) <;> simp [c1]
   · simp
 · rw [if_neg c]; simp [c]
theorem eqB_list (z : List S78) (hn : (z.map (·.f0)).Nodup) : ∀ (l : List S47) (ss : List Int), WideL l → eqB (mapZ z) l ss = listB (isR z) l ss
 | [], [], _ => rfl
 | [], _ :: _, _ => rfl
 | _ :: _, [], _ => rfl
 | v :: r, s :: t, h => by
  rw [eqB, listB, is_same z hn v (h v (List.mem_cons_self ..)), eqB_list z hn r t (fun x hx => h x (List.mem_cons_of_mem _ hx))]
theorem row_same (z : List S78) (hn : (z.map (·.f0)).Nodup) (r : S84) (h : WideRow r) (res : Int) (ss : List Int) : rowB (mapZ z) r res ss = rowR z res ss r := by
 unfold rowB rowR
 rw [is_same z hn r.f1 h.2.1, eqB_list z hn r.f0 ss h.1]
 by_cases c : r.f0.length = ss.length
 · rw [decide_eq_true c]; simp
 · rw [decide_eq_false c, listB_len _ _ _ c]; simp
theorem table_same (z : List S78) (hn : (z.map (·.f0)).Nodup) (y : S81) (hw : WideRows y.f1) (he : WideV y.f2) (res : Int) (ss : List Int) : tableB (mapZ z) y.f1 y.f2 res ss = tabR z y res ss := by
 unfold tableB tabR
 rw [is_same z hn y.f2 he, Bool.and_assoc]
 congr 2
 have hb := badRow_neg (mapZ z) res ss y.f1 0 (by omega)
 have hr : (∀ r ∈ y.f1, rowB (mapZ z) r res ss = true) ↔ y.f1.all (rowR z res ss) = true := by
  rw [List.all_eq_true]
  constructor <;> intro h r hr
  · rw [← row_same z hn r (hw r hr)]; exact h r hr
  · rw [row_same z hn r (hw r hr)]; exact h r hr
 rw [hr] at hb
 cases c : y.f1.all (rowR z res ss)
 · rw [c] at hb
   rw [decide_eq_true (hb.2 (by decide))]; rfl
 · rw [c] at hb
   rw [decide_eq_false (fun q => hb.1 q rfl)]; rfl
theorem sorts_same : ∀ (z : List S78) (i : Int), sortsB z i = ((z.all fun s => !decide (s.f1 < 1)) && decide (z.map (·.f0) = rangeI i z.length))
 | [], _ => by simp [sortsB, rangeI]
 | x :: t, i => by
  have e : rangeI i (t.length + 1) = i :: rangeI (i + 1) t.length := by
   unfold rangeI
   rw [List.range_succ_eq_map, List.map_cons, List.map_map]
   congr 1
   · simp
   · refine List.map_congr_left (fun j _ => ?_)
     simp; omega
  rw [sortsB, sorts_same t (i + 1), List.all_cons, List.map_cons, List.length_cons, e]
  by_cases c : x.f0 = i
  · rw [c]
    cases decide (x.f1 < 1) <;> simp
  · have : ¬ (x.f0 :: t.map (·.f0) = i :: rangeI (i + 1) t.length) := fun q => c (List.cons.inj q).1
    rw [decide_eq_false this]
    simp [c]
def WideTs (f : List S81) : Prop := ∀ y ∈ f, WideRows y.f1 ∧ WideV y.f2
theorem funs_same (z : List S78) (hn : (z.map (·.f0)).Nodup) : ∀ (es : List (Fd × En × List Int)) (i : Int) (f : List S81), WideTs f → (∀ p ∈ es, p.2.1.nm = p.1.nm ∧ p.2.1.res = p.1.res ∧ p.2.1.df = p.1.df) →
 funsB z (es.map fun p => (p.2.1, p.2.2)) i f = (decide ((liveF (es.map fun p => (p.1, p.2.2)) i).length = f.length) && tabsP (mapZ z) (liveF (es.map fun p => (p.1, p.2.2)) i) f)
 | [], i, f, _, _ => by
  cases f <;> simp [funsB, liveF, tabsP]
 | p :: t, i, f, hw, ha => by
  have ih := fun f hw => funs_same z hn t (i + 1) f hw (fun q hq => ha q (List.mem_cons_of_mem _ hq))
  obtain ⟨_, h2, h3⟩ := ha p (List.mem_cons_self ..)
  simp only [List.map_cons, funsB, liveF, h3]
  by_cases hd : p.1.df = true
  · rw [if_pos hd, if_pos hd, ih f hw]
  · rw [if_neg hd, if_neg hd]
    cases f with
    | nil => simp
    | cons y ys =>
     have hy := hw y (List.mem_cons_self ..)
     simp only [List.length_cons, tabsP]
     rw [ih ys (fun q hq => hw q (List.mem_cons_of_mem _ hq)), h2, table_same z hn y hy.1 hy.2]
     by_cases c : (liveF (t.map fun p => (p.1, p.2.2)) (i + 1)).length = ys.length
     · rw [decide_eq_true c, decide_eq_true (by omega)]; simp
     · rw [decide_eq_false c, decide_eq_false (by omega)]; simp
theorem may_same {B : Nat} {w : World} {x y : Nm} {r : Rt} {es : List (Fd × En × List Int)} (h : Twin B w x y r es) (z : List S78) (f : List S81) (hw : WideTs f) :
 mayP x.fs.length (es.map fun p => (p.1, p.2.2)) z f = mayR r (es.map fun p => (p.2.1, p.2.2)) z f := by
 unfold mayP mayR
 rw [sorts_same, h.len0]
 by_cases c : z.map (·.f0) = rangeI 2 x.fs.length
 · have hl : x.fs.length = z.length := by have := congrArg List.length c; simpa [rangeI_len] using this.symm
   have hn : (z.map (·.f0)).Nodup := by rw [c]; exact rangeI_nodup _ _
   rw [funs_same z hn es 0 f hw h.al, ← hl, decide_eq_true c]
   simp
 · rw [decide_eq_false c]
   by_cases hl : x.fs.length = z.length
   · rw [← hl, decide_eq_false c]; simp
   · rw [decide_eq_false hl]; simp
end Go.Proofs.YtendekbckfpmgaaGreat
namespace Go.Proofs.YtendekbckfpmgaaGreat
open Go Go.RowKit Go.Proofs.YtendekbckfpmgaaGreatW.PrintWords Go.Proofs.YtendekbckfpmgaaGreat.PWorldMay
theorem known_calls (w : World) : Calls Tryz.prog 15 #[] w fun e w' => e = .returned (.bool true) ∧ Below w.heap.size w w' :=
 calls_run tabOk worldKnown_run (fun σ => by simp only [VRs])
set_option maxRecDepth 100000 in
theorem pmay_nil (w : World) (A1 : Option Addr) (c1 n1 : Nat) (A2 : Option Addr) (c2 n2 : Nat) :
 Calls Tryz.prog 18 #[.pointer none, .agg #[.slice A1 n1 c1, .slice A2 n2 c2]] w fun e w' => e = .returned (.bool false) ∧ Below w.heap.size w w' := by
 go_enter Tryz.func18, Tryz.ntmps18
 go_wp2_with fail
 go_ret
 exact ⟨rfl, by (repeat (first | (with_reducible exact Below.refl _ _) | ((with_reducible refine Below.alloc ?_ ?_ _); rotate_left; focus (first | (simp; done) | (simp; omega))) | ((with_reducible refine Below.setCell ?_ ?_ _); rotate_left; focus (first | (simp; done) | (simp; omega))) | (with_reducible refine Below.drew ?_) | (with_reducible refine Below.drewN' ?_ _)))⟩
theorem WorldIn.short {z : List S78} {f : List S81} (h : WorldIn z f) : ShortT f :=
 ⟨Nat.le_trans h.2.1 (by decide), fun x hx => ⟨Nat.le_trans (h.2.2 x hx).2.1.1 (by decide), fun r hr => Nat.le_trans ((h.2.2 x hx).2.1.2 r hr).1.1 (by decide)⟩⟩
theorem WorldIn.wide {z : List S78} {f : List S81} (h : WorldIn z f) : WideTs f :=
 fun y hy => ⟨fun r hr => ⟨((h.2.2 y hy).2.1.2 r hr).1.2, ((h.2.2 y hy).2.1.2 r hr).2, Nat.le_trans ((h.2.2 y hy).2.1.2 r hr).1.1 (by decide)⟩, (h.2.2 y hy).2.2⟩
def DefsIn (l : List S119) : Prop := l.length ≤ bN ∧ ∀ x ∈ l, x.f0.size ≤ bN ∧ x.f2.f0.size ≤ bN ∧ (x.f2.f1.length ≤ bN ∧ ∀ s ∈ x.f2.f1, I64 s) ∧ I64 x.f2.f2
theorem tame_any {w : World} (A0 : Option Addr) (c0 : Nat) (l : List S119) (hl : k119.C w A0 l.length l) (hd : DefsIn l) {A1 : Option Addr} {c1 : Nat} {z : List S78} {A2 : Option Addr} {c2 : Nat} {f : List S81} (hw : WorldC w A1 c1 z A2 c2 f) (hin : WorldIn z f) (w' : World) (hb : Below w.heap.size w w') :
 Calls Tryz.prog 14 #[.slice A0 l.length c0, .slice none 0 0, .agg #[.slice A1 z.length c1, .slice A2 f.length c2]] w' fun e w'' => ∃ b : Bool, (b = true → l.length ≤ 40 ∧ ∀ v ∈ l, DefIn v) ∧ e = .returned (.bool b) ∧ Below w'.heap.size w' w'' := by
 refine (rtame_any A0 c0 l (Kd.C_below hl hb) hd.1 (fun x hx => ⟨(hd.2 x hx).1, (hd.2 x hx).2.2.1.1⟩) (hw.below hb) hin).mono ?_
 rintro e w'' ⟨⟨b, he, h⟩, hb2⟩
 exact ⟨b, fun e => ⟨(h e).1, fun v hv => ⟨(h e).2 v hv, (hd.2 v hv).2.2.1.2, (hd.2 v hv).2.2.2⟩⟩, he, hb2⟩
def ZM5 (p q b g : Nat) (vi vw vu : Value) (ans sm : Bool) : Nat → Value → Prop
 | 0, v => v = .pointer (some ⟨p, 0, none⟩)
 | 1, v => v = .pointer (some ⟨p, 0, none⟩)
 | 2, v => v = .pointer (some ⟨p, 0, none⟩)
 | 3, v => v = .pointer (some ⟨b, 0, none⟩)
 | 4, v => v = vi
 | 5, v => v = .bool ans
 | 6, v => v = .pointer (some ⟨q, 0, none⟩)
 | 7, v => v = .pointer (some ⟨q, 0, none⟩)
 | 8, v => v = .pointer (some ⟨q, 0, none⟩)
 | 9, v => v = .pointer (some ⟨g, 0, none⟩)
 | 10, v => v = vw
 | 11, v => v = .bool ans
 | 12, v => v = .bool true
 | 13, v => v = .bool true
 | 14, v => v = vi
 | 15, v => v = vu
 | 16, v => v = .bool sm
 | 17, v => v = vw
 | 18, v => v = vu
 | 19, v => v = .bool sm
 | 20, v => v = .bool true
 | 21, v => v = .bool true
 | 22, v => v = .bool true
 | 23, v => v = vi
 | 24, v => v = vw
 | 25, v => v = .bool true
 | 26, v => v = .bool true
 | 27, v => v = .bool true
 | 28, v => v = vi
 | 29, v => v = vw
 | 30, v => v = .bool true
 | 31, v => v = .bool true
 | 32, v => v = .bool true
 | 33, v => v = vw
 | 34, v => v = .bool false
 | 35, v => v = .bool true
 | 36, v => v = .bool true
 | 37, v => v = .bool true
 | 38, v => v = .bool true
 | _, v => v = .bool true
set_option maxRecDepth 100000 in
set_option maxHeartbeats 4000000 in
theorem worldMay_any {w : World} (A0 : Option Addr) (c0 : Nat) (l : List S119) (hl : k119.C w A0 l.length l) (_hc0 : l.length ≤ c0) (hd : DefsIn l)
 {A1 : Option Addr} {c1 : Nat} {z : List S78} {A2 : Option Addr} {c2 : Nat} {f : List S81} (hw : WorldC w A1 c1 z A2 c2 f) (hin : WorldIn z f)
 {A3 : Option Addr} {c3 : Nat} {z2 : List S78} {A4 : Option Addr} {c4 : Nat} {f2 : List S81} (hu : WorldC w A3 c3 z2 A4 c4 f2) (hinu : WorldIn z2 f2) :
 Calls Tryz.prog 4 #[.slice A0 l.length c0, .agg #[.slice A1 z.length c1, .slice A2 f.length c2], .agg #[.slice A3 z2.length c3, .slice A4 f2.length c4]] w fun e w' => e = .returned (.bool true) ∧ Below w.heap.size w w' := by
 have ht1 := tame_any A0 c0 l hl hd hw hin
 have ht2 := tame_any none 0 [] (w := w) ⟨rfl, Nat.zero_le _, fun h => by cases h⟩ ⟨Nat.zero_le _, fun _ h => by cases h⟩ hu hinu
 have HT1 := Lib.hid ht1
 have HT2 := Lib.hid ht2
 have HL := Lib.hid hl
 have HW := Lib.hid hw
 have HU := Lib.hid hu
 have HI := Lib.hid hin
 have HJ := Lib.hid hinu
 clear hl hd hw hin hu hinu ht1 ht2
 have HR4 := Lib.hid (show RowB ((w.alloc (.cells #[.slice A1 z.length c1, .slice A2 f.length c2] 37)).alloc (.cells #[.slice A3 z2.length c3, .slice A4 f2.length c4] 37)) w.heap.size 37 [.slice A1 z.length c1, .slice A2 f.length c2] from RowB.alloc (RowB.new w [.slice A1 z.length c1, .slice A2 f.length c2] 37) _)
 have HR5 := Lib.hid (show RowB ((w.alloc (.cells #[.slice A1 z.length c1, .slice A2 f.length c2] 37)).alloc (.cells #[.slice A3 z2.length c3, .slice A4 f2.length c4] 37)) (w.heap.size + 1) 37 [.slice A3 z2.length c3, .slice A4 f2.length c4] by
  have := RowB.new (w.alloc (.cells #[.slice A1 z.length c1, .slice A2 f.length c2] 37)) [.slice A3 z2.length c3, .slice A4 f2.length c4] 37
  rw [show (w.alloc (.cells #[.slice A1 z.length c1, .slice A2 f.length c2] 37)).heap.size = w.heap.size + 1 by simp] at this
  exact this)
 have HB0 := Lib.hid (show Below w.heap.size w ((w.alloc (.cells #[.slice A1 z.length c1, .slice A2 f.length c2] 37)).alloc (.cells #[.slice A3 z2.length c3, .slice A4 f2.length c4] 37)) from ((Below.refl _ w).alloc (Nat.le_refl _) _).alloc (by simp) _)
 go_enter Tryz.func4, Tryz.ntmps4
 go_wp2_with fail
 refine (HT1.out _ HB0.out).mono ?_; rintro e w1 ⟨b1, hbd, rfl, hb1⟩
 have HBD := Lib.hid hbd
 clear hbd
 have hr4 := HR4.out.kept (S := fun _ => False) (Ch.ofBelow hb1) (fun e => e)
 have hr5 := HR5.out.kept (S := fun _ => False) (Ch.ofBelow hb1) (fun e => e)
 have HB1 := Lib.hid (HB0.out.trans (hb1.mono HB0.out.size))
 generalize w.heap.size + 1 = ub at hr5 ⊢
 generalize hwb : w.heap.size = wb at hr4 ⊢
 have HWB := Lib.hid hwb
 have w0 : w1.cell? ⟨wb, 0, none⟩ = some (.slice A1 z.length c1) := hr4.cell 0
 have w1' : w1.cell? ⟨wb, 1, none⟩ = some (.slice A2 f.length c2) := hr4.cell 1
 have u0 : w1.cell? ⟨ub, 0, none⟩ = some (.slice A3 z2.length c3) := hr5.cell 0
 have u1 : w1.cell? ⟨ub, 1, none⟩ = some (.slice A4 f2.length c4) := hr5.cell 1
 have HR4 := Lib.hid hr4
 have HR5 := Lib.hid hr5
 clear hb1 HB0 hr4 hr5 hwb
 cases b1
 case false =>
  go_wp2_with fail
  refine (known_calls _).mono ?_; rintro e w2 ⟨rfl, hb2⟩
  have HB2 := Lib.hid (HB1.out.trans (hb2.mono HB1.out.size))
  clear hb2
  go_wp2_with fail
  go_ret
  exact ⟨rfl, HB2.out⟩
 case true =>
 obtain ⟨hl40, hdi⟩ := HBD.out rfl
 have HDI := Lib.hid hdi
 clear hdi HBD
 go_wp2_with fail
 refine (HT2.out _ HB1.out).mono ?_; rintro e w2 ⟨b2, _, rfl, hb2⟩
 have hr4 := HR4.out.kept (S := fun _ => False) (Ch.ofBelow hb2) (fun e => e)
 have hr5 := HR5.out.kept (S := fun _ => False) (Ch.ofBelow hb2) (fun e => e)
 have HB2 := Lib.hid (HB1.out.trans (hb2.mono HB1.out.size))
 have HR4 := Lib.hid hr4
 have HR5 := Lib.hid hr5
 clear hb2 HB1 hr4 hr5 w0 w1' u0 u1
 cases b2
 case false =>
  go_wp2_with fail
  refine (known_calls _).mono ?_; rintro e w3 ⟨rfl, hb3⟩
  have HB3 := Lib.hid (HB2.out.trans (hb3.mono HB2.out.size))
  clear hb3
  go_wp2_with fail
  go_ret
  exact ⟨rfl, HB3.out⟩
 case true =>
 go_wp2_with fail
 refine (books_any A0 c0 l (Kd.C_below HL.out HB2.out) hl40 HDI.out).mono ?_; rintro e w3 ⟨b, g, p, q, x, y, r, es, a1, a2, m, rfl, hbk, htw, hb3⟩
 have HB3 := Lib.hid (HB2.out.trans (hb3.mono HB2.out.size))
 have hr4 := HR4.out.kept (S := fun _ => False) (Ch.ofBelow hb3) (fun e => e)
 have HR5 := Lib.hid (HR5.out.kept (S := fun _ => False) (Ch.ofBelow hb3) (fun e => e))
 have HR4 := Lib.hid hr4
 have HBK := Lib.hid hbk
 have HTW := Lib.hid htw
 have w0 : w3.cell? ⟨wb, 0, none⟩ = some (.slice A1 z.length c1) := hr4.cell 0
 have w1' : w3.cell? ⟨wb, 1, none⟩ = some (.slice A2 f.length c2) := hr4.cell 1
 clear hb3 hr4 hbk htw HB2
 go_wp2_with fail
 refine (copy_any (HW.out.below HB3.out) HI.out.1.1 HI.out.small).mono ?_; rintro e w4 ⟨B1, d1, B2, d2, rfl, hwc, hb4⟩
 have HB4 := Lib.hid (HB3.out.trans (hb4.mono HB3.out.size))
 have HR4 := Lib.hid (HR4.out.kept (S := fun _ => False) (Ch.ofBelow hb4) (fun e => e))
 have HR5 := Lib.hid (HR5.out.kept (S := fun _ => False) (Ch.ofBelow hb4) (fun e => e))
 have HBK := Lib.hid (HBK.out.below hb4)
 have HTW := Lib.hid (HTW.out.below hb4)
 have HIC := Lib.hid hwc
 clear hb4 hwc w0 w1' HB3
 go_wp2_with fail
 have hb5 : Below w4.heap.size w4 (w4.alloc (.cells #[.slice B1 z.length d1, .slice B2 f.length d2] 37)) := (Below.refl _ w4).alloc (Nat.le_refl _) _
 have HB5 := Lib.hid (HB4.out.trans (hb5.mono HB4.out.size))
 have HR4 := Lib.hid (HR4.out.kept (S := fun _ => False) (Ch.ofBelow hb5) (fun e => e))
 have HR5 := Lib.hid (HR5.out.kept (S := fun _ => False) (Ch.ofBelow hb5) (fun e => e))
 have HBK := Lib.hid (HBK.out.below hb5)
 have HTW := Lib.hid (HTW.out.below hb5)
 have HIC := Lib.hid (HIC.out.below hb5)
 have HIB := Lib.hid (show RowB (w4.alloc (.cells #[.slice B1 z.length d1, .slice B2 f.length d2] 37)) w4.heap.size 37 [.slice B1 z.length d1, .slice B2 f.length d2] from RowB.new w4 _ _)
 clear hb5
 generalize w4.alloc (.cells #[.slice B1 z.length d1, .slice B2 f.length d2] 37) = w5 at *
 generalize w4.heap.size = ib at *
 have HWC := Lib.hid (HW.out.below HB5.out)
 have HUC := Lib.hid (HU.out.below HB5.out)
 have HM1 := Lib.hid (show ∀ w', Below w5.heap.size w5 w' → Calls Tryz.prog 18 #[.pointer (some ⟨b, 0, none⟩), .agg #[.slice B1 z.length d1, .slice B2 f.length d2]] w' fun e w'' => e = .returned (.bool (mayP x.fs.length (es.map fun p => (p.1, p.2.2)) z f)) ∧ Below w'.heap.size w' w'' from fun w' hb => by
  have T := HTW.out.below hb
  refine pmay_any (HBK.out.st.below hb) T.nx T.ny (fun vs hv => by rw [T.lx.rises T.nx hv, rangeI_shift]) (fun vs hv => T.ly.rises T.ny hv) (es.map fun p => (p.1, p.2.2)) (by rw [List.map_map]; exact T.fy) (fun q hq => ?_) (HIC.out.below hb) HI.out
  obtain ⟨p, hp, rfl⟩ := List.mem_map.1 hq
  exact ⟨(T.ok p hp).1, (T.ok p hp).2.1, (T.ok p hp).2.2, T.ap p hp⟩)
 have HM2 := Lib.hid (show ∀ w', Below w5.heap.size w5 w' → Calls Tryz.prog 19 #[.pointer (some ⟨g, 0, none⟩), .agg #[.slice A1 z.length c1, .slice A2 f.length c2]] w' fun e w'' => e = .returned (.bool (mayP x.fs.length (es.map fun p => (p.1, p.2.2)) z f)) ∧ Below w'.heap.size w' w'' from fun w' hb => by
  have T := HTW.out.below hb
  rw [may_same T z f HI.out.wide]
  refine rmay_any (HBK.out.rt.below hb) T.s0 T.s1 (es.map fun p => (p.2.1, p.2.2)) (by rw [List.map_map]; exact T.fr) (fun q hq => ?_) (HWC.out.below hb) HI.out
  obtain ⟨p, hp, rfl⟩ := List.mem_map.1 hq
  exact ⟨Nat.le_trans (T.ok p hp).1 (by decide), T.ar p hp⟩)
 have HS1 := Lib.hid (show ∀ w', Below w5.heap.size w5 w' → Calls Tryz.prog 20 #[.agg #[.slice B1 z.length d1, .slice B2 f.length d2], .agg #[.slice A3 z2.length c3, .slice A4 f2.length c4]] w' fun e w'' => e = .returned (.bool (eqWorld z z2 f f2)) ∧ Below w'.heap.size w' w'' from fun w' hb =>
  same_any w' B1 d1 z B2 d2 f A3 c3 z2 A4 c4 f2 (HIC.out.below hb).hz (HIC.out.below hb).hf (HUC.out.below hb).hz (HUC.out.below hb).hf (Nat.le_trans HI.out.1.1 (by decide)) HI.out.short)
 have HS2 := Lib.hid (show ∀ w', Below w5.heap.size w5 w' → Calls Tryz.prog 10 #[.agg #[.slice A1 z.length c1, .slice A2 f.length c2], .agg #[.slice A3 z2.length c3, .slice A4 f2.length c4]] w' fun e w'' => e = .returned (.bool (eqWorld z z2 f f2)) ∧ Below w'.heap.size w' w'' from fun w' hb =>
  rsame_any w' A1 c1 z A2 c2 f A3 c3 z2 A4 c4 f2 (HWC.out.below hb).hz (HWC.out.below hb).hf (HUC.out.below hb).hz (HUC.out.below hb).hf (Nat.le_trans HI.out.1.1 (by decide)) HI.out.short)
 have HS3 := Lib.hid (show ∀ w', Below w5.heap.size w5 w' → Calls Tryz.prog 20 #[.agg #[.slice B1 z.length d1, .slice B2 f.length d2], .agg #[.slice A1 z.length c1, .slice A2 f.length c2]] w' fun e w'' => e = .returned (.bool true) ∧ Below w'.heap.size w' w'' from fun w' hb => by
  have := same_any w' B1 d1 z B2 d2 f A1 c1 z A2 c2 f (HIC.out.below hb).hz (HIC.out.below hb).hf (HWC.out.below hb).hz (HWC.out.below hb).hf (Nat.le_trans HI.out.1.1 (by decide)) HI.out.short
  rwa [eqWorld_self] at this)
 have HS4 := Lib.hid (show ∀ w', Below w5.heap.size w5 w' → Calls Tryz.prog 10 #[.agg #[.slice B1 z.length d1, .slice B2 f.length d2], .agg #[.slice A1 z.length c1, .slice A2 f.length c2]] w' fun e w'' => e = .returned (.bool true) ∧ Below w'.heap.size w' w'' from fun w' hb => by
  have := rsame_any w' B1 d1 z B2 d2 f A1 c1 z A2 c2 f (HIC.out.below hb).hz (HIC.out.below hb).hf (HWC.out.below hb).hz (HWC.out.below hb).hf (Nat.le_trans HI.out.1.1 (by decide)) HI.out.short
  rwa [eqWorld_self] at this)
 have HM0 := Lib.hid (show ∀ w', Below w5.heap.size w5 w' → Calls Tryz.prog 18 #[.pointer none, .agg #[.slice A1 z.length c1, .slice A2 f.length c2]] w' fun e w'' => e = .returned (.bool false) ∧ Below w'.heap.size w' w'' from fun w' _ => pmay_nil w' _ _ _ _ _ _)
 generalize mayP x.fs.length (es.map fun p => (p.1, p.2.2)) z f = ans at *
 generalize eqWorld z z2 f f2 = sm at *
 have p0 : w5.cell? ⟨p, 0, none⟩ = some (.pointer (some ⟨b, 0, none⟩)) := HBK.out.bp.cell 0
 have hpl : p < w5.heap.size := HBK.out.bp.lt
 have q0 : w5.cell? ⟨q, 0, none⟩ = some (.pointer (some ⟨g, 0, none⟩)) := HBK.out.bq.cell 0
 have hql : q < w5.heap.size := HBK.out.bq.lt
 have i0 : w5.cell? ⟨ib, 0, none⟩ = some (.slice B1 z.length d1) := HIB.out.cell 0
 have i1 : w5.cell? ⟨ib, 1, none⟩ = some (.slice B2 f.length d2) := HIB.out.cell 1
 have hil : ib < w5.heap.size := HIB.out.lt
 have w0 : w5.cell? ⟨wb, 0, none⟩ = some (.slice A1 z.length c1) := HR4.out.cell 0
 have w1 : w5.cell? ⟨wb, 1, none⟩ = some (.slice A2 f.length c2) := HR4.out.cell 1
 have hwl : wb < w5.heap.size := HR4.out.lt
 have u0 : w5.cell? ⟨ub, 0, none⟩ = some (.slice A3 z2.length c3) := HR5.out.cell 0
 have u1 : w5.cell? ⟨ub, 1, none⟩ = some (.slice A4 f2.length c4) := HR5.out.cell 1
 have hul : ub < w5.heap.size := HR5.out.lt
 refine wp_region_flow3 40 (by kernel_rfl) (by kernel_rfl) ?_ (fun iz _ v => (ZM5 p q b g (.agg #[.slice B1 z.length d1, .slice B2 f.length d2]) (.agg #[.slice A1 z.length c1, .slice A2 f.length c2]) (.agg #[.slice A3 z2.length c3, .slice A4 f2.length c4]) ans sm) iz v) (fun w' => Below w5.heap.size w5 w') (Below.drew (Below.refl _ w5)) ?_ ?_
 · intro i o' d hi ho hd
   have : i = 0 ∨ i = 1 ∨ i = 2 ∨ i = 3 ∨ i = 4 ∨ i = 5 ∨ i = 6 ∨ i = 7 ∨ i = 8 ∨ i = 9 ∨ i = 10 ∨ i = 11 ∨ i = 12 ∨ i = 13 ∨ i = 14 ∨ i = 15 ∨ i = 16 ∨ i = 17 ∨ i = 18 ∨ i = 19 ∨ i = 20 ∨ i = 21 ∨ i = 22 ∨ i = 23 ∨ i = 24 ∨ i = 25 ∨ i = 26 ∨ i = 27 ∨ i = 28 ∨ i = 29 ∨ i = 30 ∨ i = 31 ∨ i = 32 ∨ i = 33 ∨ i = 34 ∨ i = 35 ∨ i = 36 ∨ i = 37 ∨ i = 38 ∨ i = 39 := by omega
   rcases this with rfl | rfl | rfl | rfl | rfl | rfl | rfl | rfl | rfl | rfl | rfl | rfl | rfl | rfl | rfl | rfl | rfl | rfl | rfl | rfl | rfl | rfl | rfl | rfl | rfl | rfl | rfl | rfl | rfl | rfl | rfl | rfl | rfl | rfl | rfl | rfl | rfl | rfl | rfl | rfl <;> (simp at ho; subst ho; simp at hd; subst hd; simp)
 · intro i o' hi ho
   have : i = 0 ∨ i = 1 ∨ i = 2 ∨ i = 3 ∨ i = 4 ∨ i = 5 ∨ i = 6 ∨ i = 7 ∨ i = 8 ∨ i = 9 ∨ i = 10 ∨ i = 11 ∨ i = 12 ∨ i = 13 ∨ i = 14 ∨ i = 15 ∨ i = 16 ∨ i = 17 ∨ i = 18 ∨ i = 19 ∨ i = 20 ∨ i = 21 ∨ i = 22 ∨ i = 23 ∨ i = 24 ∨ i = 25 ∨ i = 26 ∨ i = 27 ∨ i = 28 ∨ i = 29 ∨ i = 30 ∨ i = 31 ∨ i = 32 ∨ i = 33 ∨ i = 34 ∨ i = 35 ∨ i = 36 ∨ i = 37 ∨ i = 38 ∨ i = 39 := by omega
   rcases this with rfl | rfl | rfl | rfl | rfl | rfl | rfl | rfl | rfl | rfl | rfl | rfl | rfl | rfl | rfl | rfl | rfl | rfl | rfl | rfl | rfl | rfl | rfl | rfl | rfl | rfl | rfl | rfl | rfl | rfl | rfl | rfl | rfl | rfl | rfl | rfl | rfl | rfl | rfl | rfl <;> (simp at ho; subst ho; intro a w' hC hd hr)
   · rw [if_pos (by rfl)]; have e7 : a.tmps[7]?.getD undef = .pointer (some ⟨p, 0, none⟩) := gd (hr 7 (free_of (by rfl))); exact flow_val (by go_simp; try rfl) ⟨rfl, hC, fun _ _ _ h => h⟩
   · rw [if_pos (by rfl)]; have e27 : a.tmps[27]?.getD undef = .pointer (some ⟨p, 0, none⟩) := gd (hd ⟨0, .data⟩ (by simp) rfl _ _ rfl rfl); exact flow_val (by go_simp; try rfl) ⟨rfl, hC, fun _ _ _ h => h⟩
   · rw [if_pos (by rfl)]; have e28 : a.tmps[28]?.getD undef = .pointer (some ⟨p, 0, none⟩) := gd (hd ⟨1, .data⟩ (by simp) rfl _ _ rfl rfl); exact flow_val (by go_simp; try rfl) ⟨rfl, hC, fun _ _ _ h => h⟩
   · rw [if_pos (by rfl)]; have e29 : a.tmps[29]?.getD undef = .pointer (some ⟨p, 0, none⟩) := gd (hd ⟨2, .data⟩ (by simp) rfl _ _ rfl rfl); have g0 := bget hC p0 hpl; exact flow_val (by go_simp; try rfl) ⟨rfl, hC, fun _ _ _ h => h⟩
   · rw [if_pos (by rfl)]; have e9 : a.tmps[9]?.getD undef = .pointer (some ⟨ib, 0, none⟩) := gd (hr 9 (free_of (by rfl))); have g0 := bget hC i0 hil; have g1 := bget hC i1 hil; exact flow_val (by go_simp; try rfl) ⟨rfl, hC, fun _ _ _ h => h⟩
   · rw [if_pos (by rfl)]; have e30 : a.tmps[30]?.getD undef = .pointer (some ⟨b, 0, none⟩) := gd (hd ⟨3, .data⟩ (by simp) rfl _ _ rfl rfl); have e31 : a.tmps[31]?.getD undef = .agg #[.slice B1 z.length d1, .slice B2 f.length d2] := gd (hd ⟨4, .data⟩ (by simp) rfl _ _ rfl rfl); exact flow_call (by go_simp) ((HM1.out w' hC).mono fun e w'' ⟨he, hb⟩ => ⟨_, he, rfl, hC.trans (hb.mono hC.size), fun _ _ _ h => h⟩)
   · rw [if_pos (by rfl)]; have e8 : a.tmps[8]?.getD undef = .pointer (some ⟨q, 0, none⟩) := gd (hr 8 (free_of (by rfl))); exact flow_val (by go_simp; try rfl) ⟨rfl, hC, fun _ _ _ h => h⟩
   · rw [if_pos (by rfl)]; have e33 : a.tmps[33]?.getD undef = .pointer (some ⟨q, 0, none⟩) := gd (hd ⟨6, .data⟩ (by simp) rfl _ _ rfl rfl); exact flow_val (by go_simp; try rfl) ⟨rfl, hC, fun _ _ _ h => h⟩
   · rw [if_pos (by rfl)]; have e34 : a.tmps[34]?.getD undef = .pointer (some ⟨q, 0, none⟩) := gd (hd ⟨7, .data⟩ (by simp) rfl _ _ rfl rfl); exact flow_val (by go_simp; try rfl) ⟨rfl, hC, fun _ _ _ h => h⟩
   · rw [if_pos (by rfl)]; have e35 : a.tmps[35]?.getD undef = .pointer (some ⟨q, 0, none⟩) := gd (hd ⟨8, .data⟩ (by simp) rfl _ _ rfl rfl); have g0 := bget hC q0 hql; exact flow_val (by go_simp; try rfl) ⟨rfl, hC, fun _ _ _ h => h⟩
   · rw [if_pos (by rfl)]; have e4 : a.tmps[4]?.getD undef = .pointer (some ⟨wb, 0, none⟩) := gd (hr 4 (free_of (by rfl))); have g0 := bget hC w0 hwl; have g1 := bget hC w1 hwl; exact flow_val (by go_simp; try rfl) ⟨rfl, hC, fun _ _ _ h => h⟩
   · rw [if_pos (by rfl)]; have e36 : a.tmps[36]?.getD undef = .pointer (some ⟨g, 0, none⟩) := gd (hd ⟨9, .data⟩ (by simp) rfl _ _ rfl rfl); have e37 : a.tmps[37]?.getD undef = .agg #[.slice A1 z.length c1, .slice A2 f.length c2] := gd (hd ⟨10, .data⟩ (by simp) rfl _ _ rfl rfl); exact flow_call (by go_simp) ((HM2.out w' hC).mono fun e w'' ⟨he, hb⟩ => ⟨_, he, rfl, hC.trans (hb.mono hC.size), fun _ _ _ h => h⟩)
   · rw [if_pos (by rfl)]; have e32 : a.tmps[32]?.getD undef = .bool ans := gd (hd ⟨5, .data⟩ (by simp) rfl _ _ rfl rfl); have e38 : a.tmps[38]?.getD undef = .bool ans := gd (hd ⟨11, .data⟩ (by simp) rfl _ _ rfl rfl); exact flow_val (by first | (go_simp; done) | (go_simp; rfl) | (go_simp; simp; done)) ⟨rfl, hC, fun _ _ _ h => h⟩
   · rw [if_pos (by rfl)]; have e39 : a.tmps[39]?.getD undef = .bool true := gd (hd ⟨12, .data⟩ (by simp) rfl _ _ rfl rfl); exact flow_val (by go_simp; try rfl) ⟨rfl, hC, fun _ _ _ h => h⟩
   · have eg := tmp_bool (hd ⟨13, .guard⟩ (by simp) rfl _ _ rfl rfl : a.tmps.getD 40 undef = .bool true); rw [if_pos (by simp [Region.wanted, yielded, eg])]; clear eg; have e9 : a.tmps[9]?.getD undef = .pointer (some ⟨ib, 0, none⟩) := gd (hr 9 (free_of (by rfl))); have g0 := bget hC i0 hil; have g1 := bget hC i1 hil; exact flow_val (by go_simp; try rfl) ⟨rfl, hC, fun _ _ _ h => h⟩
   · have eg := tmp_bool (hd ⟨13, .guard⟩ (by simp) rfl _ _ rfl rfl : a.tmps.getD 40 undef = .bool true); rw [if_pos (by simp [Region.wanted, yielded, eg])]; clear eg; have e5 : a.tmps[5]?.getD undef = .pointer (some ⟨ub, 0, none⟩) := gd (hr 5 (free_of (by rfl))); have g0 := bget hC u0 hul; have g1 := bget hC u1 hul; exact flow_val (by go_simp; try rfl) ⟨rfl, hC, fun _ _ _ h => h⟩
   · have eg := tmp_bool (hd ⟨13, .guard⟩ (by simp) rfl _ _ rfl rfl : a.tmps.getD 40 undef = .bool true); rw [if_pos (by simp [Region.wanted, yielded, eg])]; clear eg; have e41 : a.tmps[41]?.getD undef = .agg #[.slice B1 z.length d1, .slice B2 f.length d2] := gd (hd ⟨14, .data⟩ (by simp) rfl _ _ rfl rfl); have e42 : a.tmps[42]?.getD undef = .agg #[.slice A3 z2.length c3, .slice A4 f2.length c4] := gd (hd ⟨15, .data⟩ (by simp) rfl _ _ rfl rfl); exact flow_call (by go_simp) ((HS1.out w' hC).mono fun e w'' ⟨he, hb⟩ => ⟨_, he, rfl, hC.trans (hb.mono hC.size), fun _ _ _ h => h⟩)
   · have eg := tmp_bool (hd ⟨13, .guard⟩ (by simp) rfl _ _ rfl rfl : a.tmps.getD 40 undef = .bool true); rw [if_pos (by simp [Region.wanted, yielded, eg])]; clear eg; have e4 : a.tmps[4]?.getD undef = .pointer (some ⟨wb, 0, none⟩) := gd (hr 4 (free_of (by rfl))); have g0 := bget hC w0 hwl; have g1 := bget hC w1 hwl; exact flow_val (by go_simp; try rfl) ⟨rfl, hC, fun _ _ _ h => h⟩
   · have eg := tmp_bool (hd ⟨13, .guard⟩ (by simp) rfl _ _ rfl rfl : a.tmps.getD 40 undef = .bool true); rw [if_pos (by simp [Region.wanted, yielded, eg])]; clear eg; have e5 : a.tmps[5]?.getD undef = .pointer (some ⟨ub, 0, none⟩) := gd (hr 5 (free_of (by rfl))); have g0 := bget hC u0 hul; have g1 := bget hC u1 hul; exact flow_val (by go_simp; try rfl) ⟨rfl, hC, fun _ _ _ h => h⟩
   · have eg := tmp_bool (hd ⟨13, .guard⟩ (by simp) rfl _ _ rfl rfl : a.tmps.getD 40 undef = .bool true); rw [if_pos (by simp [Region.wanted, yielded, eg])]; clear eg; have e44 : a.tmps[44]?.getD undef = .agg #[.slice A1 z.length c1, .slice A2 f.length c2] := gd (hd ⟨17, .data⟩ (by simp) rfl _ _ rfl rfl); have e45 : a.tmps[45]?.getD undef = .agg #[.slice A3 z2.length c3, .slice A4 f2.length c4] := gd (hd ⟨18, .data⟩ (by simp) rfl _ _ rfl rfl); exact flow_call (by go_simp) ((HS2.out w' hC).mono fun e w'' ⟨he, hb⟩ => ⟨_, he, rfl, hC.trans (hb.mono hC.size), fun _ _ _ h => h⟩)
   · have eg := tmp_bool (hd ⟨13, .guard⟩ (by simp) rfl _ _ rfl rfl : a.tmps.getD 40 undef = .bool true); rw [if_pos (by simp [Region.wanted, yielded, eg])]; clear eg; have e43 : a.tmps[43]?.getD undef = .bool sm := gd (hd ⟨16, .data⟩ (by simp) rfl _ _ rfl rfl); have e46 : a.tmps[46]?.getD undef = .bool sm := gd (hd ⟨19, .data⟩ (by simp) rfl _ _ rfl rfl); exact flow_val (by first | (go_simp; done) | (go_simp; rfl) | (go_simp; simp; done)) ⟨rfl, hC, fun _ _ _ h => h⟩
   · rw [if_pos (by rfl)]; have e40 : a.tmps[40]?.getD undef = .bool true := gd (hd ⟨13, .data⟩ (by simp) rfl _ _ rfl rfl); have e47 : a.tmps[47]?.getD undef = .bool true := gd (hd ⟨20, .data⟩ (by simp) rfl _ _ rfl rfl); exact flow_val (by first | (go_simp; done) | (go_simp; rfl) | (go_simp; simp; done)) ⟨rfl, hC, fun _ _ _ h => h⟩
   · rw [if_pos (by rfl)]; have e48 : a.tmps[48]?.getD undef = .bool true := gd (hd ⟨21, .data⟩ (by simp) rfl _ _ rfl rfl); exact flow_val (by go_simp; try rfl) ⟨rfl, hC, fun _ _ _ h => h⟩
   · have eg := tmp_bool (hd ⟨22, .guard⟩ (by simp) rfl _ _ rfl rfl : a.tmps.getD 49 undef = .bool true); rw [if_pos (by simp [Region.wanted, yielded, eg])]; clear eg; have e9 : a.tmps[9]?.getD undef = .pointer (some ⟨ib, 0, none⟩) := gd (hr 9 (free_of (by rfl))); have g0 := bget hC i0 hil; have g1 := bget hC i1 hil; exact flow_val (by go_simp; try rfl) ⟨rfl, hC, fun _ _ _ h => h⟩
   · have eg := tmp_bool (hd ⟨22, .guard⟩ (by simp) rfl _ _ rfl rfl : a.tmps.getD 49 undef = .bool true); rw [if_pos (by simp [Region.wanted, yielded, eg])]; clear eg; have e4 : a.tmps[4]?.getD undef = .pointer (some ⟨wb, 0, none⟩) := gd (hr 4 (free_of (by rfl))); have g0 := bget hC w0 hwl; have g1 := bget hC w1 hwl; exact flow_val (by go_simp; try rfl) ⟨rfl, hC, fun _ _ _ h => h⟩
   · have eg := tmp_bool (hd ⟨22, .guard⟩ (by simp) rfl _ _ rfl rfl : a.tmps.getD 49 undef = .bool true); rw [if_pos (by simp [Region.wanted, yielded, eg])]; clear eg; have e50 : a.tmps[50]?.getD undef = .agg #[.slice B1 z.length d1, .slice B2 f.length d2] := gd (hd ⟨23, .data⟩ (by simp) rfl _ _ rfl rfl); have e51 : a.tmps[51]?.getD undef = .agg #[.slice A1 z.length c1, .slice A2 f.length c2] := gd (hd ⟨24, .data⟩ (by simp) rfl _ _ rfl rfl); exact flow_call (by go_simp) ((HS3.out w' hC).mono fun e w'' ⟨he, hb⟩ => ⟨_, he, rfl, hC.trans (hb.mono hC.size), fun _ _ _ h => h⟩)
   · rw [if_pos (by rfl)]; have e49 : a.tmps[49]?.getD undef = .bool true := gd (hd ⟨22, .data⟩ (by simp) rfl _ _ rfl rfl); have e52 : a.tmps[52]?.getD undef = .bool true := gd (hd ⟨25, .data⟩ (by simp) rfl _ _ rfl rfl); exact flow_val (by first | (go_simp; done) | (go_simp; rfl) | (go_simp; simp; done)) ⟨rfl, hC, fun _ _ _ h => h⟩
   · rw [if_pos (by rfl)]; have e53 : a.tmps[53]?.getD undef = .bool true := gd (hd ⟨26, .data⟩ (by simp) rfl _ _ rfl rfl); exact flow_val (by go_simp; try rfl) ⟨rfl, hC, fun _ _ _ h => h⟩
   · have eg := tmp_bool (hd ⟨27, .guard⟩ (by simp) rfl _ _ rfl rfl : a.tmps.getD 54 undef = .bool true); rw [if_pos (by simp [Region.wanted, yielded, eg])]; clear eg; have e9 : a.tmps[9]?.getD undef = .pointer (some ⟨ib, 0, none⟩) := gd (hr 9 (free_of (by rfl))); have g0 := bget hC i0 hil; have g1 := bget hC i1 hil; exact flow_val (by go_simp; try rfl) ⟨rfl, hC, fun _ _ _ h => h⟩
   · have eg := tmp_bool (hd ⟨27, .guard⟩ (by simp) rfl _ _ rfl rfl : a.tmps.getD 54 undef = .bool true); rw [if_pos (by simp [Region.wanted, yielded, eg])]; clear eg; have e4 : a.tmps[4]?.getD undef = .pointer (some ⟨wb, 0, none⟩) := gd (hr 4 (free_of (by rfl))); have g0 := bget hC w0 hwl; have g1 := bget hC w1 hwl; exact flow_val (by go_simp; try rfl) ⟨rfl, hC, fun _ _ _ h => h⟩
   · have eg := tmp_bool (hd ⟨27, .guard⟩ (by simp) rfl _ _ rfl rfl : a.tmps.getD 54 undef = .bool true); rw [if_pos (by simp [Region.wanted, yielded, eg])]; clear eg; have e55 : a.tmps[55]?.getD undef = .agg #[.slice B1 z.length d1, .slice B2 f.length d2] := gd (hd ⟨28, .data⟩ (by simp) rfl _ _ rfl rfl); have e56 : a.tmps[56]?.getD undef = .agg #[.slice A1 z.length c1, .slice A2 f.length c2] := gd (hd ⟨29, .data⟩ (by simp) rfl _ _ rfl rfl); exact flow_call (by go_simp) ((HS4.out w' hC).mono fun e w'' ⟨he, hb⟩ => ⟨_, he, rfl, hC.trans (hb.mono hC.size), fun _ _ _ h => h⟩)
   · rw [if_pos (by rfl)]; have e54 : a.tmps[54]?.getD undef = .bool true := gd (hd ⟨27, .data⟩ (by simp) rfl _ _ rfl rfl); have e57 : a.tmps[57]?.getD undef = .bool true := gd (hd ⟨30, .data⟩ (by simp) rfl _ _ rfl rfl); exact flow_val (by first | (go_simp; done) | (go_simp; rfl) | (go_simp; simp; done)) ⟨rfl, hC, fun _ _ _ h => h⟩
   · rw [if_pos (by rfl)]; have e58 : a.tmps[58]?.getD undef = .bool true := gd (hd ⟨31, .data⟩ (by simp) rfl _ _ rfl rfl); exact flow_val (by go_simp; try rfl) ⟨rfl, hC, fun _ _ _ h => h⟩
   · have eg := tmp_bool (hd ⟨32, .guard⟩ (by simp) rfl _ _ rfl rfl : a.tmps.getD 59 undef = .bool true); rw [if_pos (by simp [Region.wanted, yielded, eg])]; clear eg; have e4 : a.tmps[4]?.getD undef = .pointer (some ⟨wb, 0, none⟩) := gd (hr 4 (free_of (by rfl))); have g0 := bget hC w0 hwl; have g1 := bget hC w1 hwl; exact flow_val (by go_simp; try rfl) ⟨rfl, hC, fun _ _ _ h => h⟩
   · have eg := tmp_bool (hd ⟨32, .guard⟩ (by simp) rfl _ _ rfl rfl : a.tmps.getD 59 undef = .bool true); rw [if_pos (by simp [Region.wanted, yielded, eg])]; clear eg; have e60 : a.tmps[60]?.getD undef = .agg #[.slice A1 z.length c1, .slice A2 f.length c2] := gd (hd ⟨33, .data⟩ (by simp) rfl _ _ rfl rfl); exact flow_call (by go_simp) ((HM0.out w' hC).mono fun e w'' ⟨he, hb⟩ => ⟨_, he, rfl, hC.trans (hb.mono hC.size), fun _ _ _ h => h⟩)
   · have eg := tmp_bool (hd ⟨32, .guard⟩ (by simp) rfl _ _ rfl rfl : a.tmps.getD 59 undef = .bool true); rw [if_pos (by simp [Region.wanted, yielded, eg])]; clear eg; have e61 : a.tmps[61]?.getD undef = .bool false := gd (hd ⟨34, .data⟩ (by simp) rfl _ _ rfl rfl); exact flow_val (by first | (go_simp; done) | (go_simp; rfl) | (go_simp; simp; done)) ⟨rfl, hC, fun _ _ _ h => h⟩
   · rw [if_pos (by rfl)]; have e59 : a.tmps[59]?.getD undef = .bool true := gd (hd ⟨32, .data⟩ (by simp) rfl _ _ rfl rfl); have e62 : a.tmps[62]?.getD undef = .bool true := gd (hd ⟨35, .data⟩ (by simp) rfl _ _ rfl rfl); exact flow_val (by first | (go_simp; done) | (go_simp; rfl) | (go_simp; simp; done)) ⟨rfl, hC, fun _ _ _ h => h⟩
   · rw [if_pos (by rfl)]; have e63 : a.tmps[63]?.getD undef = .bool true := gd (hd ⟨36, .data⟩ (by simp) rfl _ _ rfl rfl); exact flow_val (by go_simp; try rfl) ⟨rfl, hC, fun _ _ _ h => h⟩
   · have eg := tmp_bool (hd ⟨37, .guard⟩ (by simp) rfl _ _ rfl rfl : a.tmps.getD 64 undef = .bool true); rw [if_pos (by simp [Region.wanted, yielded, eg])]; clear eg; exact flow_call (by go_simp) ((known_calls w').mono fun e w'' ⟨he, hb⟩ => ⟨_, he, rfl, hC.trans (hb.mono hC.size), fun _ _ _ h => h⟩)
   · rw [if_pos (by rfl)]; have e64 : a.tmps[64]?.getD undef = .bool true := gd (hd ⟨37, .data⟩ (by simp) rfl _ _ rfl rfl); have e65 : a.tmps[65]?.getD undef = .bool true := gd (hd ⟨38, .data⟩ (by simp) rfl _ _ rfl rfl); exact flow_val (by first | (go_simp; done) | (go_simp; rfl) | (go_simp; simp; done)) ⟨rfl, hC, fun _ _ _ h => h⟩
 intro vs' w4 hb4 hZ
 have v39 : vs' 39 = .bool true := hZ 39 _ _ (by omega) rfl rfl
 clear hZ p0 q0 i0 i1 w0 w1 u0 u1
 simp only [List.drop_succ_cons, List.drop_zero, List.take_succ_cons, List.take_zero, putAll, v39]
 have HB6 := Lib.hid (HB5.out.trans (hb4.mono HB5.out.size))
 clear hb4
 go_wp2_with fail
 go_ret
 exact ⟨rfl, HB6.out⟩
end Go.Proofs.YtendekbckfpmgaaGreat
