/- The abstract heap beside the machine's; what a step leaves; the types' facts; reading and writing cells. -/
import Derived.Test.YtmlkfgoiakcnhaaGreatDoorEvB
namespace Go.Proofs.YtmlkfgoiakcnhaaGreatDoor
open Go Go.RowKit

def ER (σ : Sg) : List (EV × EV × Nat) → List MapEntry → Prop
  | [], m => m = []
  | (k, v, b) :: l, m => ∃ x r, m = x :: r ∧ VR σ k x.key ∧ VR σ v x.val ∧ x.born = b ∧ ER σ l r
theorem ER.mono {σ τ : Sg} (h : Le σ τ) : ∀ {l : List (EV × EV × Nat)} {m : List MapEntry}, ER σ l m → ER τ l m
  | [], _, H => H
  | (_, _, _) :: _, _, ⟨x, r, e, h1, h2, h3, h4⟩ => ⟨x, r, e, h1.mono h, h2.mono h, h3, ER.mono h h4⟩
theorem ER.len {σ : Sg} : ∀ {l : List (EV × EV × Nat)} {m : List MapEntry}, ER σ l m → l.length = m.length
  | [], _, H => by simp only [ER] at H; subst H; rfl
  | (_, _, _) :: _, _, ⟨x, r, e, _, _, _, h4⟩ => by subst e; simp [ER.len h4]

/-- cells that stand for cells -/
def CR (σ : Sg) (c : Tr EV) (arr : Array Value) : Prop := ∀ i e, c.get i = some e → ∃ v, arr[i]? = some v ∧ VR σ e v
theorem CR.mono {σ τ : Sg} (h : Le σ τ) {c : Tr EV} {arr : Array Value} (H : CR σ c arr) : CR τ c arr := fun i e he => let ⟨v, a, b⟩ := H i e he; ⟨v, a, b.mono h⟩

def stN : LoopState → Nat
  | .ready => 0
  | .busy => 1
  | .done => 2
  | .exhausted => 3
/-- slots that stand for slots -/
def SR (σ : Sg) (T : Tr EV) (tmps : Array Value) : Prop := ∀ i, VR σ ((T.get i).getD undefE) (tmps.getD i undef)
theorem SR.mono {σ τ : Sg} (h : Le σ τ) {T : Tr EV} {tmps : Array Value} (H : SR σ T tmps) : SR τ T tmps := fun i => (H i).mono h
def OR (σ : Sg) (l : Loc) : EO → Obj → Prop
  | .cells c n z, ob => ∃ arr t, ob = .cells arr t (0, 0) ∧ arr.size = l.tot ∧ n ≤ l.tot ∧ (z = 0 → n = l.tot) ∧ (0 < z → l.esz = z) ∧ CR σ c arr
  | .ro c z, ob => ∃ arr t fr, ob = .cells arr t fr ∧ arr.size = l.tot ∧ (0 < z → l.esz = z) ∧ CR σ c arr
  | .map es clock, ob => ∃ ms, ob = .map ms clock ∧ ER σ es ms.toList
  | .loop st pend nt T ps as body, ob => ∃ r : Loop, ob = .loop r ∧ stN r.state = st ∧ r.pending = pend ∧ r.tmps.size = nt ∧ r.params.toList = ps ∧ r.assign = as ∧ r.body = body ∧ SR σ T r.tmps
  | .dfr, ob => ob = .deferred (some [])
  | .mit m since seen last, ob => ∃ m', ob = .mapIter m' since seen.toArray last ∧ ((m = none ∧ m' = none) ∨ ∃ b lb, m = some b ∧ σ b = some lb ∧ m' = some lb.blk)
theorem OR.mono {σ τ : Sg} (h : Le σ τ) {l : Loc} {o : EO} {ob : Obj} (H : OR σ l o ob) : OR τ l o ob := by
  cases o with
  | cells c n z => obtain ⟨arr, t, e, a, b, c', d, f⟩ := H; exact ⟨arr, t, e, a, b, c', d, f.mono h⟩
  | ro c z => obtain ⟨arr, t, fr, e, a, b, d⟩ := H; exact ⟨arr, t, fr, e, a, b, d.mono h⟩
  | map es clock => obtain ⟨ms, e, a⟩ := H; exact ⟨ms, e, a.mono h⟩
  | loop st pend nt T ps as body => obtain ⟨r, a1, a2, a3, a4, a5, a6, a7, a8⟩ := H; exact ⟨r, a1, a2, a3, a4, a5, a6, a7, a8.mono h⟩
  | dfr => exact H
  | mit m since seen last =>
    obtain ⟨m', a1, a2⟩ := H
    refine ⟨m', a1, a2.imp (fun h => h) fun ⟨b, lb, b1, b2, b3⟩ => ⟨b, lb, b1, h _ _ b2, b3⟩⟩

structure Holds (σ : Sg) (h : Tr EO) (w : World) : Prop where
  there : ∀ id o, h.get id = some o → ∃ l ob, σ id = some l ∧ w.heap[l.blk]? = some ob ∧ OR σ l o ob
  inj : ∀ i j li lj, (h.get i).isSome → (h.get j).isSome → σ i = some li → σ j = some lj → li.blk = lj.blk → i = j

/-- what a step leaves behind it -/
structure Post (fl : Nat) (σ : Sg) (h : Tr EO) (nx : Nat) (w : World) (σ' : Sg) (h' : Tr EO) (nx' : Nat) (w' : World) : Prop where
  le : Le σ σ'
  new : ∀ id, id < nx → σ' id = σ id
  nxle : nx ≤ nx'
  fresh : ∀ id, nx' ≤ id → σ' id = none
  dom : ∀ id, (h'.get id).isSome → (h.get id).isSome ∨ (nx ≤ id ∧ id < nx')
  holds : Holds σ' h' w'
  floor : ∀ id, id < fl → h'.get id = h.get id
  size : w.heap.size ≤ w'.heap.size
  frame : ∀ b, b < w.heap.size → (∀ id l, (h.get id).isSome → σ id = some l → l.blk ≠ b) → w'.heap[b]? = w.heap[b]?
  own : ∀ id l, (h'.get id).isSome → σ' id = some l → w.heap.size ≤ l.blk ∨ ∃ j lj, (h.get j).isSome ∧ σ j = some lj ∧ lj.blk = l.blk
  os : w'.os = w.os
  tape : w'.tape = w.tape
  output : w'.output = w.output
def Fresh (σ : Sg) (nx : Nat) : Prop := ∀ id, nx ≤ id → σ id = none
theorem Post.refl {fl : Nat} {σ : Sg} {h : Tr EO} {nx : Nat} {w : World} (H : Holds σ h w) (F : Fresh σ nx) : Post fl σ h nx w σ h nx w where
  le := Le.refl _
  new := fun _ _ => rfl
  nxle := Nat.le_refl _
  fresh := F
  dom := fun _ h => .inl h
  holds := H
  floor := fun _ _ => rfl
  size := Nat.le_refl _
  frame := fun _ _ _ => rfl
  own := fun id l h e => .inr ⟨id, l, h, e, rfl⟩
  os := rfl
  tape := rfl
  output := rfl
theorem Post.trans {fl : Nat} {σ σ1 σ2 : Sg} {h h1 h2 : Tr EO} {nx n1 n2 : Nat} {w w1 w2 : World} (a : Post fl σ h nx w σ1 h1 n1 w1) (b : Post fl σ1 h1 n1 w1 σ2 h2 n2 w2) : Post fl σ h nx w σ2 h2 n2 w2 where
  le := a.le.trans b.le
  new := fun id hi => (b.new id (Nat.lt_of_lt_of_le hi a.nxle)).trans (a.new id hi)
  nxle := Nat.le_trans a.nxle b.nxle
  fresh := b.fresh
  dom := fun id hi => by
    rcases b.dom id hi with h' | ⟨h1, h2⟩
    · rcases a.dom id h' with h'' | ⟨h3, h4⟩
      · exact .inl h''
      · exact .inr ⟨h3, Nat.lt_of_lt_of_le h4 b.nxle⟩
    · exact .inr ⟨Nat.le_trans a.nxle h1, h2⟩
  holds := b.holds
  floor := fun id hi => (b.floor id hi).trans (a.floor id hi)
  size := Nat.le_trans a.size b.size
  frame := fun bk hb hne => by
    rw [b.frame bk (Nat.lt_of_lt_of_le hb a.size) (fun id l hs he hq => ?_), a.frame bk hb hne]
    rcases a.own id l hs he with h' | ⟨j, lj, hj, hje, hq'⟩
    · omega
    · exact hne j lj hj hje (hq'.trans hq)
  own := fun id l hs he => by
    rcases b.own id l hs he with h' | ⟨j, lj, hj, hje, hq⟩
    · exact .inl (Nat.le_trans a.size h')
    · rcases a.own j lj hj hje with h' | ⟨j', lj', h1, h2, h3⟩
      · exact .inl (hq ▸ h')
      · exact .inr ⟨j', lj', h1, h2, h3.trans hq⟩
  os := b.os.trans a.os
  tape := b.tape.trans a.tape
  output := b.output.trans a.output

def upd (σ : Sg) (n : Nat) (l : Loc) : Sg := fun i => if i = n then some l else σ i
theorem upd_same (σ : Sg) (n : Nat) (l : Loc) : upd σ n l n = some l := by simp [upd]
theorem upd_other (σ : Sg) {n i : Nat} (l : Loc) (h : i ≠ n) : upd σ n l i = σ i := by simp [upd, h]
theorem Le.upd {σ : Sg} {n : Nat} (h : σ n = none) (l : Loc) : Le σ (upd σ n l) := fun i li e => by
  by_cases hi : i = n
  · subst hi; rw [h] at e; cases e
  · rw [upd_other σ l hi]; exact e
theorem Holds.lt {σ : Sg} {h : Tr EO} {w : World} (H : Holds σ h w) {id : Nat} {l : Loc} (hs : (h.get id).isSome) (e : σ id = some l) : l.blk < w.heap.size := by
  obtain ⟨o, ho⟩ := Option.isSome_iff_exists.1 hs
  obtain ⟨l', ob, e', hb, _⟩ := H.there id o ho
  rw [e] at e'; cases e'
  exact (Array.getElem?_eq_some_iff.1 hb).1
theorem Holds.none {σ : Sg} {h : Tr EO} {w : World} (H : Holds σ h w) {nx : Nat} (F : Fresh σ nx) : h.get nx = none := by
  cases hg : h.get nx with
  | none => rfl
  | some o =>
    obtain ⟨l, ob, e, _⟩ := H.there nx o hg
    rw [F nx (Nat.le_refl _)] at e; cases e

/-- a new block (with or without a draw ahead of it) -/
theorem Post.mk_new {fl : Nat} {σ : Sg} {h h' : Tr EO} {nx : Nat} {w w' : World} {o : EO} {ob : Obj} {tot esz : Nat} (H : Holds σ h w) (F : Fresh σ nx) (hfl : fl ≤ nx)
    (hp : ∀ j, h'.get j = if j = nx then some o else h.get j) (hheap : w'.heap = w.heap.push ob) (hos : w'.os = w.os) (htape : w'.tape = w.tape) (hout : w'.output = w.output)
    (hob : OR (upd σ nx ⟨w.heap.size, tot, esz⟩) ⟨w.heap.size, tot, esz⟩ o ob) : Post fl σ h nx w (upd σ nx ⟨w.heap.size, tot, esz⟩) h' (Nat.succ nx) w' := by
  have hno := H.none F
  have hle : Le σ (upd σ nx ⟨w.heap.size, tot, esz⟩) := Le.upd (F nx (Nat.le_refl _)) _
  refine ⟨hle, fun id hi => upd_other _ _ (by omega), Nat.le_succ _, fun id hi => ?_, fun id hs => ?_, ⟨fun id o' ho' => ?_, fun i j li lj hi hj ei ej hb => ?_⟩, fun id hi => ?_, ?_, fun b hb _ => ?_, fun id l hs he => ?_, hos, htape, hout⟩
  · rw [upd_other _ _ (by omega)]; exact F id (by omega)
  · rw [hp] at hs
    by_cases e : id = nx
    · exact .inr (by omega)
    · rw [if_neg e] at hs; exact .inl hs
  · rw [hp] at ho'
    by_cases e : id = nx
    · rw [if_pos e] at ho'; cases ho'; subst e
      exact ⟨_, ob, upd_same _ _ _, by rw [hheap]; simp, hob⟩
    · rw [if_neg e] at ho'
      obtain ⟨l, ob', e1, e2, e3⟩ := H.there id o' ho'
      have hlt := (Array.getElem?_eq_some_iff.1 e2).1
      exact ⟨l, ob', hle _ _ e1, by rw [hheap, Array.getElem?_push, if_neg (by omega)]; exact e2, e3.mono hle⟩
  · rw [hp] at hi hj
    by_cases e : i = nx <;> by_cases e' : j = nx
    · rw [e, e']
    · rw [if_neg e'] at hj
      rw [e, upd_same] at ei; cases ei
      rw [upd_other _ _ e'] at ej
      have := H.lt hj ej
      simp only at hb; omega
    · rw [if_neg e] at hi
      rw [e', upd_same] at ej; cases ej
      rw [upd_other _ _ e] at ei
      have := H.lt hi ei
      simp only at hb; omega
    · rw [if_neg e] at hi; rw [if_neg e'] at hj
      rw [upd_other _ _ e] at ei; rw [upd_other _ _ e'] at ej
      exact H.inj i j li lj hi hj ei ej hb
  · rw [hp, if_neg (by omega)]
  · rw [hheap]; simp
  · rw [hheap, Array.getElem?_push, if_neg (by omega)]
  · rw [hp] at hs
    by_cases e : id = nx
    · rw [e, upd_same] at he; cases he; exact .inl (Nat.le_refl _)
    · rw [if_neg e] at hs; rw [upd_other _ _ e] at he
      exact .inr ⟨id, l, hs, he, rfl⟩

/-- a block written -/
theorem Post.mk_set {fl : Nat} {σ : Sg} {h h' : Tr EO} {nx : Nat} {w w' : World} {o : EO} {ob : Obj} {b : Nat} {l : Loc} (H : Holds σ h w) (F : Fresh σ nx) (hfl : fl ≤ b) (hb : (h.get b).isSome) (hl : σ b = some l)
    (hp : ∀ j, h'.get j = if j = b then some o else h.get j) (hget : w'.heap[l.blk]? = some ob) (hoth : ∀ k, k ≠ l.blk → w'.heap[k]? = w.heap[k]?) (hsize : w'.heap.size = w.heap.size) (hos : w'.os = w.os) (htape : w'.tape = w.tape) (hout : w'.output = w.output)
    (hob : OR σ l o ob) : Post fl σ h nx w σ h' nx w' := by
  have hs : ∀ id, (h'.get id).isSome → (h.get id).isSome := fun id hs => by
    rw [hp] at hs
    by_cases e : id = b
    · rw [e]; exact hb
    · rw [if_neg e] at hs; exact hs
  refine ⟨Le.refl _, fun _ _ => rfl, Nat.le_refl _, F, fun id hi => .inl (hs id hi), ⟨fun id o' ho' => ?_, fun i j li lj hi hj ei ej hq => H.inj i j li lj (hs i hi) (hs j hj) ei ej hq⟩, fun id hi => ?_, ?_, fun k hk hne => ?_, fun id l' hi he => .inr ⟨id, l', hs id hi, he, rfl⟩, hos, htape, hout⟩
  · rw [hp] at ho'
    by_cases e : id = b
    · rw [if_pos e] at ho'; cases ho'; subst e
      exact ⟨l, ob, hl, hget, hob⟩
    · rw [if_neg e] at ho'
      obtain ⟨l', ob', e1, e2, e3⟩ := H.there id o' ho'
      refine ⟨l', ob', e1, ?_, e3⟩
      rw [hoth _ (fun hq => e (H.inj id b l' l (by rw [ho']; rfl) hb e1 hl hq))]
      exact e2
  · rw [hp, if_neg (by omega)]
  · rw [hsize]; exact Nat.le_refl _
  · exact hoth _ (fun e => hne b l hb hl e.symm)

structure TyOk (P : Program) (t : TypeId) (e : TyE) : Prop where
  info : ∃ i z, P.info? t = some i ∧ i.size = e.size ∧ i.bytes = e.bytes ∧ i.zero = some z ∧ z.cells.size = e.size ∧ (∀ σ, VR σ e.zv z) ∧ ∀ σ, VRs σ e.zero z.cells.toList
  und : P.underlying t = some e.desc
  agg : e.agg = (match e.desc with | .struct _ | .array _ _ => true | _ => false)
  eqg : e.eqg = false → P.eqGuardType P.depth t = false
  held : e.held = false → P.stoodInHeld t = false ∧ ∀ fs, e.desc = .struct fs → ∀ f ∈ fs.toList, f.name ≠ "_"
  flds : ∀ fs, e.desc = .struct fs → ∀ f ∈ fs.toList, (P.info? f.type).isSome

/-- what the model answers for a function without a body -/
def ExtOk (P : Program) (f n : Nat) : Prop := ∀ (x y c : Nat) (w : World), c ≤ 1 →
  (n = 0 → (callFunc f #[.int .u64 (Int.ofNat x), .int .u64 (Int.ofNat y), .int .u64 (Int.ofNat c)]).run P w = .ok (.value (.tuple #[.int .u64 (Int.ofNat ((x + y + c) % 18446744073709551616)), .int .u64 (Int.ofNat ((x + y + c) / 18446744073709551616))])) w) ∧
  (n = 1 → (callFunc f #[.int .u64 (Int.ofNat x), .int .u64 (Int.ofNat y), .int .u64 (Int.ofNat c)]).run P w = .ok (.value (.tuple #[.int .u64 (Int.ofNat ((x + 18446744073709551616 - y - c) % 18446744073709551616)), .int .u64 (if x < y + c then 1 else 0)])) w)
structure TabOk (P : Program) (tab : Tab) : Prop where
  ty : ∀ t e, tab.ty.get t = some e → TyOk P t e
  fn : ∀ f fn, tab.fn.get f = some fn → P.funcs[f]? = some fn ∧ ∀ args w, (callFunc f args).run P w = .ok (.enter f args) w
  mixed : P.follows .mixedOrders = true
  ex : ∀ f n, tab.ex.get f = some n → ExtOk P f n
def GlOk (tab : Tab) (σ : Sg) : Prop := ∀ g id, tab.gl.get g = some id → ∃ l, σ id = some l ∧ l.blk = g
theorem GlOk.mono {tab : Tab} {σ τ : Sg} (h : Le σ τ) (H : GlOk tab σ) : GlOk tab τ := fun g id e => let ⟨l, a, b⟩ := H g id e; ⟨l, h id l a, b⟩

section
variable {P : Program} {t : TypeId} {e : TyE}
theorem TyOk.run_und (h : TyOk P t e) (w : World) : (underlying t).run P w = .ok e.desc w := run_underlying h.und w
theorem TyOk.run_size (h : TyOk P t e) (w : World) : (sizeOf t).run P w = .ok e.size w := by
  obtain ⟨i, z, h1, h2, _⟩ := h.info
  simp [sizeOf, typeInfo, h1, h2]
theorem TyOk.run_zero (h : TyOk P t e) (w : World) : ∃ z, (zeroValue t).run P w = .ok z w ∧ z.cells.size = e.size ∧ (∀ σ, VR σ e.zv z) ∧ ∀ σ, VRs σ e.zero z.cells.toList := by
  obtain ⟨i, z, h1, _, _, h2, h3, h4, h5⟩ := h.info
  exact ⟨z, by simp [zeroValue, typeInfo, h1, h2], h3, h4, h5⟩
theorem TyOk.run_agg (h : TyOk P t e) (w : World) : (isAgg t).run P w = .ok e.agg w := by
  unfold isAgg
  rw [Sem.run_bind, h.run_und, h.agg]
  cases e.desc <;> rfl
end

theorem addr_add' (b off j : Nat) : (⟨b, off, none⟩ : Addr).add j = ⟨b, off + j, none⟩ := by unfold Addr.add; split <;> simp_all

section
variable {P : Program} {tab : Tab} {β : Type} {fail : β} {G : β → Prop} (hf : ¬ G fail)
include hf
theorem rdB_spec {h : Tr EO} {b : Nat} {k : Tr EV → β} {σ : Sg} {w : World} (hg : G (rdB fail h b k)) (H : Holds σ h w) :
    ∃ c l arr t fr, σ b = some l ∧ w.heap[l.blk]? = some (.cells arr t fr) ∧ CR σ c arr ∧ G (k c) := by
  unfold rdB at hg
  cases ho : h.get b with
  | none => rw [ho] at hg; exact absurd hg hf
  | some o =>
    rw [ho] at hg
    obtain ⟨l, ob, h1, h2, h3⟩ := H.there b o ho
    cases o with
    | cells c n z => obtain ⟨arr, t, rfl, _, _, _, _, h4⟩ := h3; exact ⟨c, l, arr, t, _, h1, h2, h4, hg⟩
    | ro c z => obtain ⟨arr, t, fr, rfl, _, _, h4⟩ := h3; exact ⟨c, l, arr, t, fr, h1, h2, h4, hg⟩
    | map es clock => exact absurd hg hf
    | loop _ _ _ _ _ _ _ => exact absurd hg hf
    | dfr => exact absurd hg hf
    | mit _ _ _ _ => exact absurd hg hf
omit hf in
/-- a run of cells, read -/
theorem cells_read {σ : Sg} {c : Tr EV} {arr : Array Value} {l : Loc} {w : World} {t : TypeId} {fr : Nat × Nat} (hb : w.heap[l.blk]? = some (.cells arr t fr)) (hc : CR σ c arr) {off : Nat} {es : EVs}
    (h : ∀ i, i < es.toL.length → c.get (off + i) = es.toL[i]?) : ∃ vs : List Value, VRs σ es vs ∧ vs.length = es.toL.length ∧ (∀ j v, vs[j]? = some v → w.cell? ((⟨l.blk, off, none⟩ : Addr).add j) = some v) := by
  have hex : ∀ i, i < es.toL.length → ∃ v, arr[off + i]? = some v := fun i hi => by
    obtain ⟨v, hv, _⟩ := hc (off + i) es.toL[i] (by rw [h i hi]; simp [hi])
    exact ⟨v, hv⟩
  refine ⟨(arr.toList.drop off).take es.toL.length, VRs.iff.2 ⟨?_, fun i e v he hv => ?_⟩, ?_, fun j v hv => ?_⟩
  · rcases Nat.eq_zero_or_pos es.toL.length with h0 | h0
    · simp [h0]
    · obtain ⟨v, hv⟩ := hex (es.toL.length - 1) (by omega)
      have := (Array.getElem?_eq_some_iff.1 hv).1
      simp only [List.length_take, List.length_drop, Array.length_toList]; omega
  · have hi : i < es.toL.length := (List.getElem?_eq_some_iff.1 he).1
    rw [List.getElem?_take_of_lt hi, List.getElem?_drop] at hv
    obtain ⟨v', hv', hr⟩ := hc (off + i) e (by rw [h i hi, he])
    rw [Array.getElem?_toList, hv'] at hv
    cases hv; exact hr
  · rcases Nat.eq_zero_or_pos es.toL.length with h0 | h0
    · simp [h0]
    · obtain ⟨v, hv⟩ := hex (es.toL.length - 1) (by omega)
      have := (Array.getElem?_eq_some_iff.1 hv).1
      simp only [List.length_take, List.length_drop, Array.length_toList]; omega
  · rw [addr_add']
    rw [List.getElem?_take] at hv
    split at hv
    · rw [List.getElem?_drop, Array.getElem?_toList] at hv
      simp [World.cell?, hb, hv]
    · cases hv
theorem loadE_spec (hT : TabOk P tab) {t : TypeId} {v : EV} {h : Tr EO} {k : EV → β} {σ : Sg} {w : World} {v' : Value} (hg : G (loadE tab fail t v h k)) (hv : VR σ v v') (H : Holds σ h w) :
    ∃ e a e', v' = .pointer (some a) ∧ (loadVar t a).run P w = .ok e' w ∧ VR σ e e' ∧ G (k e) := by
  unfold loadE at hg
  cases v with
  | ptr b off =>
    obtain ⟨c, l, arr, t', fr, h1, h2, h3, hg⟩ := rdB_spec hf hg H
    simp only [VR] at hv
    obtain ⟨l', e1, rfl⟩ := hv
    rw [h1] at e1; cases e1
    cases hi : tab.ty.get t with
    | none => simp only [hi] at hg; exact absurd hg hf
    | some i =>
      simp only [hi] at hg
      have hty := hT.ty t i hi
      cases ha : i.agg with
      | true =>
        rw [ha] at hg
        simp only [cond_true] at hg
        obtain ⟨es, a1, a2, hg⟩ := readCells_spec hf _ _ _ hg
        obtain ⟨vs, b1, b2, b3⟩ := cells_read h2 h3 (off := off) (es := es) (fun i hi => a2 i (by omega))
        refine ⟨_, _, .agg vs.toArray, rfl, ?_, ?_, hg⟩
        · have hr := run_loadCells_list (P := P) w ⟨l.blk, off, none⟩ vs b3
          rw [b2, a1] at hr
          unfold loadVar
          simp only [Sem.run_bind, hty.run_agg, ha, Result.andThen_ok, if_true, hty.run_size, hr, Sem.run_pure]
        · simp only [VR]; exact ⟨_, rfl, by simpa using b1⟩
      | false =>
        rw [ha] at hg
        simp only [cond_false] at hg
        cases hc : c.get off with
        | none => rw [hc] at hg; exact absurd hg hf
        | some e =>
          rw [hc] at hg
          obtain ⟨v, hv, hr⟩ := h3 off e hc
          refine ⟨e, _, v, rfl, ?_, hr, hg⟩
          unfold loadVar
          have hcell : w.cell? ⟨l.blk, off, none⟩ = some v := by simp [World.cell?, h2, hv]
          simp only [Sem.run_bind, hty.run_agg, ha, Result.andThen_ok, Bool.false_eq_true, if_false]
          simp [load, Sem.run, hcell]
  | _ => exact absurd hg hf
end
end Go.Proofs.YtmlkfgoiakcnhaaGreatDoor
