/- What is asked of a seat's tables, so that the kernel can look at it. -/
import Derived.Test.YtmlkfgoiakcnhaaGreatDoorEvT
import Derived.Laws.Externs
namespace Go.Proofs.YtmlkfgoiakcnhaaGreatDoor
open Go Go.RowKit

mutual
/-- a value of which all is known, and which leads nowhere -/
def backV : EV → Option Value
  | .bool b => some (.bool b)
  | .int k n => some (.int k n)
  | .str s => some (.string ⟨s.toArray⟩)
  | .ptr0 => some (.pointer none)
  | .slice0 => some (.slice none 0 0)
  | .map0 => some (.map none)
  | .func0 => some .nilFunc
  | .iface0 => some .nilIface
  | .agg l => match backVs l with
    | some x => some (.agg x.toArray)
    | none => none
  | _ => none
def backVs : EVs → Option (List Value)
  | .nil => some []
  | .cons v l => match backV v with
    | some x => match backVs l with
      | some y => some (x :: y)
      | none => none
    | none => none
end
mutual
theorem backV_spec (σ : Sg) : ∀ (e : EV) (v : Value), backV e = some v → VR σ e v
  | .bool _, v, h => by simp only [backV, Option.some.injEq] at h; simp only [VR]; exact h.symm
  | .int _ _, v, h => by simp only [backV, Option.some.injEq] at h; simp only [VR]; exact h.symm
  | .str _, v, h => by simp only [backV, Option.some.injEq] at h; simp only [VR]; exact h.symm
  | .ptr0, v, h => by simp only [backV, Option.some.injEq] at h; simp only [VR]; exact h.symm
  | .slice0, v, h => by simp only [backV, Option.some.injEq] at h; simp only [VR]; exact h.symm
  | .map0, v, h => by simp only [backV, Option.some.injEq] at h; simp only [VR]; exact h.symm
  | .func0, v, h => by simp only [backV, Option.some.injEq] at h; simp only [VR]; exact h.symm
  | .iface0, v, h => by simp only [backV, Option.some.injEq] at h; simp only [VR]; exact h.symm
  | .agg l, v, h => by
    simp only [backV] at h
    cases hl : backVs l with
    | none => rw [hl] at h; cases h
    | some x =>
      rw [hl] at h
      simp only [Option.some.injEq] at h
      simp only [VR]
      exact ⟨x.toArray, h.symm, by simpa using backVs_spec σ l x hl⟩
  | .ptr _ _, v, h | .slice _ _ _ _, v, h | .map _, v, h | .func _ _ _, v, h | .iface _ _, v, h | .tup _, v, h | .unkB, v, h | .unkI _, v, h | .unkS, v, h | .unkL, v, h | .unkV, v, h | .rng _ _ _, v, h | .yld _, v, h => by simp only [backV] at h; cases h
theorem backVs_spec (σ : Sg) : ∀ (l : EVs) (m : List Value), backVs l = some m → VRs σ l m
  | .nil, m, h => by simp only [backVs, Option.some.injEq] at h; simp only [VRs]; exact h.symm
  | .cons e l, m, h => by
    simp only [backVs] at h
    cases h1 : backV e with
    | none => rw [h1] at h; cases h
    | some x =>
      cases h2 : backVs l with
      | none => rw [h1, h2] at h; cases h
      | some y =>
        rw [h1, h2] at h
        simp only [Option.some.injEq] at h
        simp only [VRs]
        exact ⟨x, y, h.symm, backV_spec σ e x h1, backVs_spec σ l y h2⟩
end

/-- all numbers of a table are below a bound -/
def Tr.low {α : Type} (N : Nat) : Tr α → (Nat → Nat) → Bool
  | .nil, _ => true
  | .node l x r, f => (match x with | some _ => Nat.blt (f 0) N | none => true) && Tr.low N l (fun j => f (2 * j + 1)) && Tr.low N r (fun j => f (2 * j + 2))
theorem Tr.low_spec {α : Type} {N : Nat} : ∀ {t : Tr α} {f : Nat → Nat}, Tr.low N t f = true → ∀ n v, t.get n = some v → f n < N
  | .nil, f, _, n, v, h => by rw [Tr.get_nil] at h; cases h
  | .node l x r, f, hl, n, v, h => by
    simp only [Tr.low, Bool.and_eq_true] at hl
    rw [Tr.get_node] at h
    by_cases h0 : n = 0
    · rw [if_pos h0] at h
      subst h
      subst h0
      simpa [Nat.blt, Nat.succ_le_iff] using hl.1.1
    · rw [if_neg h0] at h
      by_cases h1 : n % 2 = 1
      · rw [if_pos h1] at h
        have := Tr.low_spec hl.1.2 _ v h
        rwa [show 2 * (n / 2) + 1 = n by omega] at this
      · rw [if_neg h1] at h
        have := Tr.low_spec hl.2 _ v h
        rwa [show 2 * (n / 2 - 1) + 2 = n by omega] at this

theorem callFunc_run {P : Program} {f : FuncId} {fn : Func} (h : P.funcs[f]? = some fn) (hb : fn.body.isNone = false) (hn : (fn.name == "runtime.NumGoroutine") = false) (args : Array Value) (w : World) : (callFunc f args).run P w = .ok (.enter f args) w := by
  unfold callFunc
  simp only [Sem.run_bind, program, Sem.run, Result.andThen_ok, h, hn, hb, Bool.false_eq_true, if_false]
  rfl

def ext0 : Array Value → Sem Value := (Extern.MathBitsCarry.rows.getD 0 ("", fun _ => pure .nilIface)).2
def ext1 : Array Value → Sem Value := (Extern.MathBitsCarry.rows.getD 1 ("", fun _ => pure .nilIface)).2
theorem extOk0 {P : Program} {f : FuncId} {fn : Func} (hf : P.funcs[f]? = some fn) (hname : (fn.name == "runtime.NumGoroutine") = false) (hb : fn.body.isNone = true) (hn : Extern.findNext fn = none) (he : Extern.find fn = some ext0) : ExtOk P f 0 := by
  intro x y c w hc
  refine ⟨fun _ => ?_, fun h => absurd h (by decide)⟩
  rw [run_callFunc_extern hf hname hb hn he]
  have : (ext0 #[.int .u64 (Int.ofNat x), .int .u64 (Int.ofNat y), .int .u64 (Int.ofNat c)]).run P w = .ok (.tuple #[.int .u64 (Int.ofNat ((x + y + c) % 18446744073709551616)), .int .u64 (Int.ofNat ((x + y + c) / 18446744073709551616))]) w := by
    obtain rfl | rfl : c = 0 ∨ c = 1 := by omega
    · rfl
    · rfl
  rw [this]
  rfl
theorem extOk1 {P : Program} {f : FuncId} {fn : Func} (hf : P.funcs[f]? = some fn) (hname : (fn.name == "runtime.NumGoroutine") = false) (hb : fn.body.isNone = true) (hn : Extern.findNext fn = none) (he : Extern.find fn = some ext1) : ExtOk P f 1 := by
  intro x y c w hc
  refine ⟨fun h => absurd h (by decide), fun _ => ?_⟩
  rw [run_callFunc_extern hf hname hb hn he]
  have : (ext1 #[.int .u64 (Int.ofNat x), .int .u64 (Int.ofNat y), .int .u64 (Int.ofNat c)]).run P w = .ok (.tuple #[.int .u64 (Int.ofNat ((x + 18446744073709551616 - y - c) % 18446744073709551616)), .int .u64 (Int.ofNat (if x < y + c then 1 else 0))]) w := by
    obtain rfl | rfl : c = 0 ∨ c = 1 := by omega
    · rfl
    · rfl
  rw [this]
  split <;> rfl
def funB (tab : Tab) (n : Nat) : Bool := match tab.fn.get n with
  | some fn => not fn.body.isNone && not (fn.name == "runtime.NumGoroutine")
  | none => true
def fieldsB (P : Program) : List Field → Bool
  | [] => true
  | f :: r => (P.info? f.type).isSome && fieldsB P r
def blankB : List Field → Bool
  | [] => true
  | f :: r => not (f.name == "_") && blankB r
def aggB : TypeDesc → Bool
  | .struct _ => true
  | .array _ _ => true
  | _ => false
def fsOf : TypeDesc → List Field
  | .struct fs => fs.toList
  | _ => []
def tyB (P : Program) (tab : Tab) (t : Nat) : Bool := match tab.ty.get t with
  | none => true
  | some e => match P.info? t with
    | none => false
    | some i => Nat.beq i.size e.size && Nat.beq i.bytes e.bytes && (match i.zero with | some z => Nat.beq z.cells.size e.size | none => false) && (match e.agg, aggB e.desc with | true, true => true | false, false => true | _, _ => false) &&
        (e.eqg || not (P.eqGuardType P.depth t)) && (e.held || (not (P.stoodInHeld t) && blankB (fsOf e.desc))) && fieldsB P (fsOf e.desc)
structure TabChk (P : Program) (tab : Tab) (nT nF : Nat) (exs : List (Nat × Nat)) : Prop where
  tlow : Tr.low nT tab.ty id = true
  flow : Tr.low nF tab.fn id = true
  tys : (List.range nT).all (tyB P tab) = true
  fns : (List.range nF).all (funB tab) = true
  und : (List.range nT).map (fun t => (tab.ty.get t).map (·.desc)) = (List.range nT).map (fun t => bif (tab.ty.get t).isSome then P.underlying t else none)
  zer : (List.range nT).map (fun t => (tab.ty.get t).bind fun e => backV e.zv) = (List.range nT).map (fun t => bif (tab.ty.get t).isSome then (P.info? t).bind (·.zero) else none)
  zcs : (List.range nT).map (fun t => (tab.ty.get t).bind fun e => backVs e.zero) = (List.range nT).map (fun t => bif (tab.ty.get t).isSome then ((P.info? t).bind (·.zero)).map (·.cells.toList) else none)
  fnd : (List.range nF).map (fun f => tab.fn.get f) = (List.range nF).map (fun f => bif (tab.fn.get f).isSome then P.funcs[f]? else none)
  mixed : P.follows .mixedOrders = true
  exl : Tr.low nF tab.ex id = true
  exa : (List.range nF).all (fun f => match tab.ex.get f with | none => true | some n => exs.any fun p => Nat.beq p.1 f && Nat.beq p.2 n) = true
  exo : ∀ p ∈ exs, ExtOk P p.1 p.2
theorem map_at {α β : Type} {f g : α → β} : ∀ {l : List α}, l.map f = l.map g → ∀ x ∈ l, f x = g x
  | [], _, x, hx => by cases hx
  | y :: l, h, x, hx => by
    simp only [List.map_cons, List.cons.injEq] at h
    cases hx with
    | head => exact h.1
    | tail _ hx => exact map_at h.2 x hx
theorem blankB_spec : ∀ {l : List Field}, blankB l = true → ∀ f ∈ l, f.name ≠ "_"
  | [], _, f, h => by cases h
  | g :: l, hb, f, h => by
    simp only [blankB, Bool.and_eq_true] at hb
    cases h with
    | head => intro e; rw [e] at hb; simp at hb
    | tail _ h => exact blankB_spec hb.2 f h
theorem fieldsB_spec {P : Program} : ∀ {l : List Field}, fieldsB P l = true → ∀ f ∈ l, (P.info? f.type).isSome
  | [], _, f, h => by cases h
  | g :: l, hb, f, h => by
    simp only [fieldsB, Bool.and_eq_true] at hb
    cases h with
    | head => exact hb.1
    | tail _ h => exact fieldsB_spec hb.2 f h
theorem TabChk.ok {P : Program} {tab : Tab} {nT nF : Nat} {exs : List (Nat × Nat)} (c : TabChk P tab nT nF exs) : TabOk P tab where
  mixed := c.mixed
  ex := fun f n h => by
    have hlt : f < nF := Tr.low_spec c.exl f n h
    have h1 := List.all_eq_true.1 c.exa f (List.mem_range.2 hlt)
    simp only [h] at h1
    obtain ⟨p, hp, hq⟩ := List.any_eq_true.1 h1
    rw [Bool.and_eq_true] at hq
    have := c.exo p hp
    rw [Nat.eq_of_beq_eq_true hq.1, Nat.eq_of_beq_eq_true hq.2] at this
    exact this
  fn := fun f fn h => by
    have hlt : f < nF := Tr.low_spec c.flow f fn h
    have h1 := map_at c.fnd f (List.mem_range.2 hlt)
    simp only [h, Option.isSome_some, cond_true] at h1
    have h2 := List.all_eq_true.1 c.fns f (List.mem_range.2 hlt)
    unfold funB at h2
    simp only [h, Bool.and_eq_true, Bool.not_eq_true'] at h2
    exact ⟨h1.symm, fun args w => callFunc_run h1.symm h2.1 h2.2 args w⟩
  ty := fun t e h => by
    have hlt : t < nT := Tr.low_spec c.tlow t e h
    have hm := List.mem_range.2 hlt
    have h1 := map_at c.und t hm
    have h2 := map_at c.zer t hm
    have h3 := map_at c.zcs t hm
    have h4 := List.all_eq_true.1 c.tys t hm
    simp only [h, Option.isSome_some, cond_true, Option.map_some, Option.bind_some] at h1 h2 h3
    unfold tyB at h4
    simp only [h] at h4
    cases hi : P.info? t with
    | none => rw [hi] at h4; cases h4
    | some i =>
      rw [hi] at h2 h3 h4
      simp only [Bool.and_eq_true, Option.bind_some] at h4 h2 h3
      obtain ⟨⟨⟨⟨⟨⟨a1, a2⟩, a3⟩, a4⟩, a5⟩, a6⟩, a7⟩ := h4
      cases hz : i.zero with
      | none => rw [hz] at a3; cases a3
      | some z =>
        rw [hz] at a3 h2 h3
        have hfs : ∀ fs, e.desc = .struct fs → fsOf e.desc = fs.toList := fun fs hd => by rw [hd]; rfl
        exact {
          info := ⟨i, z, hi, Nat.eq_of_beq_eq_true a1, Nat.eq_of_beq_eq_true a2, hz, Nat.eq_of_beq_eq_true a3, fun σ => backV_spec σ _ _ h2, fun σ => backVs_spec σ _ _ h3⟩
          und := h1.symm
          agg := by
            have : (match e.desc with | .struct _ | .array _ _ => true | _ => false) = aggB e.desc := by cases e.desc <;> rfl
            refine Eq.trans ?_ this.symm
            cases hx : e.agg <;> cases hy : aggB e.desc <;> rw [hx, hy] at a4 <;> first | rfl | cases a4
          eqg := fun hq => by rw [hq] at a5; simpa using a5
          held := fun hq => by
            rw [hq] at a6
            simp only [Bool.false_or, Bool.and_eq_true, Bool.not_eq_true'] at a6
            exact ⟨a6.1, fun fs hd f hf => blankB_spec a6.2 f (by rw [hfs fs hd]; exact hf)⟩
          flds := fun fs hd f hf => fieldsB_spec a7 f (by rw [hfs fs hd]; exact hf) }
end Go.Proofs.YtmlkfgoiakcnhaaGreatDoor
