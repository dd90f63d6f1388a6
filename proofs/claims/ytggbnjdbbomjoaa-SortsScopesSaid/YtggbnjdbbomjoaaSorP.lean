/- Which numbers stand in a names record: plain laws. -/
import Derived.Test.YtggbnjdbbomjoaaSorL
namespace Go.Proofs.Ytggbnjdbbomjoaa
open Go.RowKit
theorem kS_inj {s t : ByteArray} (h : kS s = kS t) : s = t := by
  unfold kS at h
  simp only [Lit.string.injEq] at h
  exact ByteArray.ext (Array.ext' h)
theorem kS_ne {s t : ByteArray} (h : s ≠ t) : kS s ≠ kS t := fun e => h (kS_inj e)
/-- the number of a name -/
def look (D : DataW Unit) (s : ByteArray) : Option Int := if Maps.has D (kS s) then some (numOf D s) else none
theorem look_put_same {D : DataW Unit} (h : Maps.IsMap D) (s : ByteArray) (c : Int) : look (D.put (kS s) (.lit (.int .i64 c))) s = some c := by
  unfold look
  rw [Maps.has_put_same h (isKeyS s), numOf_put h]
  rfl
theorem look_put_other {D : DataW Unit} {s t : ByteArray} (h : t ≠ s) (c : Int) : look (D.put (kS s) (.lit (.int .i64 c))) t = look D t := by
  unfold look numOf
  rw [Maps.has_put_other (kS_ne h), Maps.atKey_put_other (kS_ne h)]
theorem look_del_same {D : DataW Unit} (s : ByteArray) : look (D.del (kS s)) s = none := by
  unfold look
  rw [Maps.has_del_same]
  rfl
theorem look_del_other {D : DataW Unit} {s t : ByteArray} (h : t ≠ s) : look (D.del (kS s)) t = look D t := by
  unfold look numOf
  rw [Maps.has_del_other (kS_ne h), Maps.atKey_del_other (kS_ne h)]
/-- each name that stands is its number's -/
def Nums (fs : List Fd) (D : DataW Unit) : Prop := ∀ s c, look D s = some c → ∃ (i : Nat) (f : Fd), c = i ∧ fs[i]? = some f ∧ f.nm = s
theorem Nums.del {fs : List Fd} {D : DataW Unit} (h : Nums fs D) (s : ByteArray) : Nums fs (D.del (kS s)) := by
  intro t c ht
  by_cases e : t = s
  · subst e; rw [look_del_same] at ht; cases ht
  · rw [look_del_other e] at ht; exact h t c ht
theorem Nums.put {fs : List Fd} {D : DataW Unit} (h : Nums fs D) (hm : Maps.IsMap D) (f : Fd) : Nums (fs ++ [f]) (D.put (kS f.nm) (.lit (.int .i64 fs.length))) := by
  intro t c ht
  by_cases e : t = f.nm
  · subst e
    rw [look_put_same hm] at ht
    exact ⟨fs.length, f, by simpa using ht.symm, by simp, rfl⟩
  · rw [look_put_other e] at ht
    obtain ⟨i, g, h1, h2, h3⟩ := h t c ht
    exact ⟨i, g, h1, by rw [List.getElem?_append_left (List.getElem?_eq_some_iff.1 h2).1]; exact h2, h3⟩
theorem Nums.put_look {fs : List Fd} {D : DataW Unit} (hm : Maps.IsMap D) (f : Fd) (hh : Maps.has D (kS f.nm) = false) (t : ByteArray) (v : Int) (hv : v < fs.length) :
    look (D.put (kS f.nm) (.lit (.int .i64 fs.length))) t = some v ↔ look D t = some v := by
  by_cases e : t = f.nm
  · subst e
    rw [look_put_same hm]
    have : look D f.nm = none := by unfold look; rw [hh]; rfl
    rw [this]
    simp
    omega
  · rw [look_put_other e]
/-- the map of a popped record is one, and tells what stood below -/
theorem pop_look {fs : List Fd} : ∀ (c i : Nat) (D : DataW Unit), Nums fs D → Nums fs (popD fs c i D) ∧ ∀ s v, look (popD fs c i D) s = some v ↔ look D s = some v ∧ ¬ ((i : Int) ≤ v ∧ v < i + c)
  | 0, i, D, h => ⟨h, fun s v => by
    show look D s = some v ↔ _
    exact ⟨fun e => ⟨e, by omega⟩, fun e => e.1⟩⟩
  | c + 1, i, D, h => by
    unfold popD
    cases hf : fs[i]? with
    | none =>
      dsimp only
      obtain ⟨h1, h2⟩ := pop_look c (i + 1) D h
      refine ⟨h1, fun s v => ?_⟩
      rw [h2]
      refine ⟨fun ⟨e1, e2⟩ => ⟨e1, fun e3 => ?_⟩, fun ⟨e1, e2⟩ => ⟨e1, by omega⟩⟩
      obtain ⟨j, g, rfl, hj, _⟩ := h s v e1
      have : j ≠ i := fun e => by rw [e, hf] at hj; cases hj
      omega
    | some f =>
      dsimp only
      by_cases hn : numOf D f.nm = i
      · rw [if_pos hn]
        obtain ⟨h1, h2⟩ := pop_look c (i + 1) _ (h.del f.nm)
        refine ⟨h1, fun s v => ?_⟩
        rw [h2]
        by_cases e : s = f.nm
        · subst e
          rw [look_del_same]
          refine ⟨fun ⟨e1, _⟩ => (by cases e1), fun ⟨e1, e2⟩ => ?_⟩
          exfalso
          have : v = i := by
            unfold look at e1
            split at e1
            · rw [hn] at e1; simpa using e1.symm
            · cases e1
          omega
        · rw [look_del_other e]
          refine ⟨fun ⟨e1, e2⟩ => ⟨e1, fun e3 => ?_⟩, fun ⟨e1, e2⟩ => ⟨e1, by omega⟩⟩
          obtain ⟨j, g, rfl, hj, hg⟩ := h s v e1
          have : j ≠ i := fun q => by
            rw [q, hf] at hj
            have : f = g := by simpa using hj
            exact e (by rw [← hg, this])
          omega
      · rw [if_neg hn]
        obtain ⟨h1, h2⟩ := pop_look c (i + 1) D h
        refine ⟨h1, fun s v => ?_⟩
        rw [h2]
        refine ⟨fun ⟨e1, e2⟩ => ⟨e1, fun e3 => ?_⟩, fun ⟨e1, e2⟩ => ⟨e1, by omega⟩⟩
        obtain ⟨j, g, rfl, hj, hg⟩ := h s v e1
        have : j ≠ i := fun q => by
          subst q
          rw [hf] at hj
          have hfg : f = g := by simpa using hj
          apply hn
          rw [hfg, hg]
          unfold look at e1
          split at e1
          · simpa using e1
          · cases e1
        omega
theorem pop_to {x : Nm} {q fr : Nat} {M' : Value} (h : Nums x.fs x.D) : Nums (x.popTo q fr M').fs (x.popTo q fr M').D ∧ ∀ s v, look (x.popTo q fr M').D s = some v ↔ look x.D s = some v ∧ v < fr := by
  obtain ⟨h1, h2⟩ := pop_look (x.fs.length - fr) fr x.D h
  refine ⟨h1, fun s v => ?_⟩
  show look (popD x.fs (x.fs.length - fr) fr x.D) s = some v ↔ _
  rw [h2]
  refine ⟨fun ⟨e1, e2⟩ => ⟨e1, ?_⟩, fun ⟨e1, e2⟩ => ⟨e1, by omega⟩⟩
  obtain ⟨j, g, rfl, hj, hg⟩ := h s v e1
  have := (List.getElem?_eq_some_iff.1 hj).1
  omega
/-- what a record may have become, with a mark of its own above all that stood -/
structure Since (x0 x : Nm) : Prop where
  nums : Nums x.fs x.D
  fs : ∃ r, x.fs = x0.fs ++ r
  ms : ∃ r : List Int, x.ms = x0.ms ++ (x0.fs.length : Int) :: r ∧ ∀ z ∈ r, (x0.fs.length : Int) ≤ z
  lk : ∀ s v, v < (x0.fs.length : Int) → (look x.D s = some v ↔ look x0.D s = some v)
theorem Since.start {x0 : Nm} {M' : Value} (h : Nums x0.fs x0.D) : Since x0 (x0.push M') :=
  ⟨h, ⟨[], by simp [Nm.push]⟩, ⟨[], rfl, fun _ h => by cases h⟩, fun _ _ _ => Iff.rfl⟩
theorem Since.le {x0 x : Nm} (h : Since x0 x) : x0.fs.length ≤ x.fs.length := by
  obtain ⟨r, hr⟩ := h.fs
  rw [hr]; simp
theorem Since.add {x0 x : Nm} (h : Since x0 x) (hm : Maps.IsMap x.D) {f : Fd} {A' : Value} (hh : Maps.has x.D (kS f.nm) = false) : Since x0 (x.add f A') := by
  refine ⟨h.nums.put hm f, ?_, h.ms, fun s v hv => ?_⟩
  · obtain ⟨r, hr⟩ := h.fs
    exact ⟨r ++ [f], by simp [Nm.add, hr]⟩
  · rw [← h.lk s v hv]
    exact Nums.put_look hm f hh s v (by have := h.le; omega)
theorem Since.push {x0 x : Nm} (h : Since x0 x) {M' : Value} : Since x0 (x.push M') := by
  refine ⟨h.nums, h.fs, ?_, h.lk⟩
  obtain ⟨r, hr, hz⟩ := h.ms
  refine ⟨r ++ [(x.fs.length : Int)], by simp [Nm.push, hr], fun z hz' => ?_⟩
  rcases List.mem_append.1 hz' with h1 | h1
  · exact hz z h1
  · rw [List.mem_singleton.1 h1]; have := h.le; omega
theorem Since.popTo {x0 x : Nm} (h : Since x0 x) {q fr : Nat} {M' : Value} (hq : x0.ms.length < q) (hf : x.ms[q]? = some (fr : Int)) : Since x0 (x.popTo q fr M') := by
  obtain ⟨p1, p2⟩ := pop_to (q := q) (fr := fr) (M' := M') h.nums
  obtain ⟨r, hr, hz⟩ := h.ms
  have hge : (x0.fs.length : Int) ≤ fr := by
    rw [hr, List.getElem?_append_right (by omega)] at hf
    obtain ⟨d, hd⟩ : ∃ d, q - x0.ms.length = d + 1 := ⟨q - x0.ms.length - 1, by omega⟩
    rw [hd, List.getElem?_cons_succ] at hf
    exact hz _ (List.mem_of_getElem? hf)
  refine ⟨p1, h.fs, ?_, fun s v hv => ?_⟩
  · obtain ⟨d, hd⟩ : ∃ d, q - x0.ms.length = d + 1 := ⟨q - x0.ms.length - 1, by omega⟩
    refine ⟨r.take d, ?_, fun z hz' => hz z (List.mem_of_mem_take hz')⟩
    show x.ms.take q = _
    rw [hr, List.take_append, hd, List.take_succ_cons, List.take_of_length_le (by omega)]
  · rw [p2, h.lk s v hv]
    exact ⟨fun e => e.1, fun e => ⟨e, by omega⟩⟩
theorem Since.done {x0 x : Nm} (h : Since x0 x) (h0 : Nums x0.fs x0.D) {fr : Nat} {M' : Value} (hf : x.ms[x0.ms.length]? = some (fr : Int)) :
    Nums (x.popTo x0.ms.length fr M').fs (x.popTo x0.ms.length fr M').D ∧ (∀ s v, look (x.popTo x0.ms.length fr M').D s = some v ↔ look x0.D s = some v) ∧ (x.popTo x0.ms.length fr M').ms = x0.ms := by
  obtain ⟨r, hr, hz⟩ := h.ms
  have hfr : fr = x0.fs.length := by
    rw [hr, List.getElem?_append_right (Nat.le_refl _)] at hf
    simp at hf
    omega
  subst hfr
  obtain ⟨p1, p2⟩ := pop_to (q := x0.ms.length) (fr := x0.fs.length) (M' := M') h.nums
  refine ⟨p1, fun s v => ?_, ?_⟩
  · rw [p2]
    constructor
    · rintro ⟨e1, e2⟩; exact (h.lk s v e2).1 e1
    · intro e
      have : v < (x0.fs.length : Int) := by
        obtain ⟨j, g, rfl, hj, _⟩ := h0 s v e
        have := (List.getElem?_eq_some_iff.1 hj).1
        omega
      exact ⟨(h.lk s v this).2 e, this⟩
  · show x.ms.take x0.ms.length = _
    rw [hr]; simp
/-- the numbers that stand, as a list, rising -/
structure Rises (D : DataW Unit) (vs : List Int) : Prop where
  up : vs.Pairwise (· < ·)
  mem : ∀ v, v ∈ vs ↔ ∃ s, look D s = some v
theorem rises_eq {D E : DataW Unit} {vs us : List Int} (h : Rises D vs) (k : Rises E us) (e : ∀ s v, look D s = some v ↔ look E s = some v) : vs = us := by
  have hm : ∀ v, v ∈ vs ↔ v ∈ us := fun v => by
    rw [h.mem, k.mem]
    exact ⟨fun ⟨s, q⟩ => ⟨s, (e s v).1 q⟩, fun ⟨s, q⟩ => ⟨s, (e s v).2 q⟩⟩
  have hn : vs.Nodup := h.up.imp (fun q e => by omega)
  have hk : us.Nodup := k.up.imp (fun q e => by omega)
  exact ((List.perm_ext_iff_of_nodup hn hk).2 hm).eq_of_pairwise (le := (· < ·)) (fun a b _ _ h1 h2 => by omega) h.up k.up
end Go.Proofs.Ytggbnjdbbomjoaa
