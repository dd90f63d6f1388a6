/- A region that draws its order, in the abstract run: the operations that write come in one order; those that look are the same wherever they may come; those that make blocks float. -/
import Derived.Test.YtggbnjdbbomjoaaEvO
namespace Go.Proofs.Ytggbnjdbbomjoaa
open Go Go.RowKit

def optNEq : Option Nat → Option Nat → Bool
  | none, none => true
  | some a, some b => Nat.beq a b
  | _, _ => false
mutual
/-- one and the same -/
def sameE : EV → EV → Bool
  | .bool a, .bool b => a == b
  | .int k a, .int j b => ikEq k j && eqInt a b
  | .str a, .str b => eqBytes a b
  | .ptr0, .ptr0 => true
  | .ptr a x, .ptr b y => Nat.beq a b && Nat.beq x y
  | .slice0, .slice0 => true
  | .slice a x n c, .slice b y m d => Nat.beq a b && Nat.beq x y && Nat.beq n m && optNEq c d
  | .map0, .map0 => true
  | .map a, .map b => Nat.beq a b
  | .func0, .func0 => true
  | .func f a b, .func g c d => Nat.beq f g && sameEs a c && sameEs b d
  | .iface0, .iface0 => true
  | .iface t a, .iface u b => Nat.beq t u && sameE a b
  | .agg a, .agg b => sameEs a b
  | .tup a, .tup b => sameEs a b
  | .unkB, .unkB => true
  | .unkI k, .unkI j => ikEq k j
  | .unkS, .unkS => true
  | .unkL, .unkL => true
  | .unkV, .unkV => true
  | _, _ => false
def sameEs : EVs → EVs → Bool
  | .nil, .nil => true
  | .cons a l, .cons b m => sameE a b && sameEs l m
  | _, _ => false
end
theorem optNEq_eq {a b : Option Nat} (h : optNEq a b = true) : a = b := by
  cases a <;> cases b <;> simp only [optNEq] at h
  · rfl
  · cases h
  · cases h
  · rw [Nat.eq_of_beq_eq_true h]
mutual
theorem sameE_eq : ∀ a b : EV, sameE a b = true → a = b
  | .func f a b, .func g c d, h => by
    simp only [sameE, Bool.and_eq_true] at h
    rw [Nat.eq_of_beq_eq_true h.1.1, sameEs_eq a c h.1.2, sameEs_eq b d h.2]
  | .iface t a, .iface u b, h => by
    simp only [sameE, Bool.and_eq_true] at h
    rw [Nat.eq_of_beq_eq_true h.1, sameE_eq a b h.2]
  | .agg a, .agg b, h => by simp only [sameE] at h; rw [sameEs_eq a b h]
  | .tup a, .tup b, h => by simp only [sameE] at h; rw [sameEs_eq a b h]
  | a, b, h => by
    cases a <;> cases b <;> first
      | rfl
      | (simp only [sameE] at h; cases h; done)
      | (simp only [sameE, beq_iff_eq] at h; rw [h]; done)
      | (simp only [sameE, Bool.and_eq_true] at h; rw [ikEq_eq h.1]; have := h.2; rw [eqInt_eq, beq_iff_eq] at this; rw [this]; done)
      | (simp only [sameE, eqBytes_eq, beq_iff_eq] at h; rw [h]; done)
      | (simp only [sameE] at h; rw [Nat.eq_of_beq_eq_true h]; done)
      | (simp only [sameE] at h; rw [ikEq_eq h]; done)
      | (simp only [sameE, Bool.and_eq_true] at h; rw [Nat.eq_of_beq_eq_true h.1, Nat.eq_of_beq_eq_true h.2]; done)
      | (simp only [sameE, Bool.and_eq_true] at h; rw [Nat.eq_of_beq_eq_true h.1.1.1, Nat.eq_of_beq_eq_true h.1.1.2, Nat.eq_of_beq_eq_true h.1.2, optNEq_eq h.2]; done)
      | (simp only [sameE] at h; rw [sameEs_eq _ _ h]; done)
      | (simp only [sameE, Bool.and_eq_true] at h; rw [Nat.eq_of_beq_eq_true h.1, sameE_eq _ _ h.2]; done)
      | (simp only [sameE, Bool.and_eq_true] at h; rw [Nat.eq_of_beq_eq_true h.1.1, sameEs_eq _ _ h.1.2, sameEs_eq _ _ h.2]; done)
theorem sameEs_eq : ∀ a b : EVs, sameEs a b = true → a = b
  | .nil, .nil, _ => rfl
  | .cons a l, .cons b m, h => by
    simp only [sameEs, Bool.and_eq_true] at h
    rw [sameE_eq a b h.1, sameEs_eq l m h.2]
  | .nil, .cons _ _, h => by simp only [sameEs] at h; cases h
  | .cons _ _, .nil, h => by simp only [sameEs] at h; cases h
end
def optE : Option EV → Option EV → Bool
  | none, none => true
  | some a, some b => sameE a b
  | _, _ => false
theorem optE_eq {a b : Option EV} (h : optE a b = true) : a = b := by
  cases a <;> cases b <;> simp only [optE] at h
  · rfl
  · cases h
  · cases h
  · rw [sameE_eq _ _ h]
def sameTr : Tr EV → Tr EV → Bool
  | .nil, .nil => true
  | .node l x r, .node l' x' r' => sameTr l l' && optE x x' && sameTr r r'
  | _, _ => false
theorem sameTr_eq : ∀ a b : Tr EV, sameTr a b = true → a = b
  | .nil, .nil, _ => rfl
  | .node l x r, .node l' x' r', h => by
    simp only [sameTr, Bool.and_eq_true] at h
    rw [sameTr_eq l l' h.1.1, optE_eq h.1.2, sameTr_eq r r' h.2]
  | .nil, .node .., h => by simp only [sameTr] at h; cases h
  | .node .., .nil, h => by simp only [sameTr] at h; cases h
def sameO : EO → EO → Bool
  | .cells c n z, .cells d m y => sameTr c d && Nat.beq n m && Nat.beq z y
  | .map [] a, .map [] b => Nat.beq a b
  | _, _ => false
theorem sameO_eq {a b : EO} (h : sameO a b = true) : a = b := by
  unfold sameO at h
  split at h
  · simp only [Bool.and_eq_true] at h
    rw [sameTr_eq _ _ h.1.1, Nat.eq_of_beq_eq_true h.1.2, Nat.eq_of_beq_eq_true h.2]
  · rw [Nat.eq_of_beq_eq_true h]
  · cases h

abbrev Item := Nat × Oper × Nat
/-- the operations that must be done ahead of one, as bits -/
def hasBit (m i : Nat) : Bool := Nat.testBit m i
def maskL (acc : List Nat) : List Edge → Nat
  | [] => 0
  | e :: l => bif Region.binds .any e then Nat.lor (Nat.lor (Nat.pow 2 e.on) (acc.getD e.on 0)) (maskL acc l) else maskL acc l
def mkItems : List Oper → Nat → List Nat → List Item
  | [], _, _ => []
  | o :: l, i, acc => (i, o, maskL acc o.after.toList) :: mkItems l (Nat.succ i) (acc ++ [maskL acc o.after.toList])

def dstIsN : Option Nat → Nat → Bool
  | some d, x => Nat.beq d x
  | none, _ => false
def dstApart : Option Nat → Option Nat → Bool
  | some d, some e => not (Nat.beq d e)
  | _, _ => true
def dstLt (nt : Nat) : Option Nat → Bool
  | some d => Nat.blt d nt
  | none => true
/-- what is looked at comes out of the region's operations that are ahead, or out of none; no two write one slot -/
def statOk (ops : Array Oper) (nt : Nat) (items : List Item) : Bool :=
  items.all fun x => (x.2.1.looksAt ops).all (fun t => items.all fun y => not (dstIsN y.2.1.dst t) || hasBit x.2.2 y.1) &&
    items.all (fun y => Nat.beq y.1 x.1 || dstApart x.2.1.dst y.2.1.dst) && x.2.1.after.toList.all (fun e => not (Region.binds .any e) || Nat.blt e.on x.1) && dstLt nt x.2.1.dst

def isCh (o : Op) : Bool := not (rdOp o || mkOp o)
def freeB (rem : List Item) (m : Nat) : Bool := rem.all fun r => not (hasBit m r.1)
def aOf (A : List (Nat × Nat × EO)) (i : Nat) : List (Nat × Nat × EO) := A.filter fun q => Nat.beq q.1 i

section
variable (tab : Tab) (self : CodeFn)
def rdV (o : Oper) (T : Tr EV) (h : Tr EO) : Option EV := evOp tab self none (fun _ _ => none) 0 o T h 0 fun v _ _ => some v
def mkV (o : Oper) (T : Tr EV) (X : Nat) : Option (EV × EO) := evOp tab self none (fun _ _ => none) 0 o T .nil X fun v h _ => match h.get X with
  | some b => some (v, b)
  | none => none

section
variable {β : Type} (fail : β) (join : β → β → β) (nt fl : Nat) (ops : Array Oper) (items : List Item)
/-- what can be known at this place: operations that look, and that make -/
def prepE (rem : List Item) (dW : Nat) (h : Tr EO) : List Item → Tr EV → List (Nat × Nat × EO) → Nat → Nat → (Tr EV → List (Nat × Nat × EO) → Nat → Nat → β) → β
  | [], T, A, nx, E, k => k T A nx E
  | x :: l, T, A, nx, E, k =>
    bif isCh x.2.1.op || hasBit E x.1 || not (freeB rem x.2.2) then prepE rem dW h l T A nx E k else
    match wantedE ops T x.2.1 with
    | none => fail
    | some false => putD fail nt x.2.1.dst undefE T fun T => prepE rem dW h l T A nx (Nat.lor E (Nat.pow 2 x.1)) k
    | some true => bif mkOp x.2.1.op then match mkV tab self x.2.1 T nx with
        | some p => putD fail nt x.2.1.dst p.1 T fun T => prepE rem dW h l T ((x.1, nx, p.2) :: A) (Nat.succ nx) (Nat.lor E (Nat.pow 2 x.1)) k
        | none => fail
      else match rdV tab self x.2.1 T h with
        | some v => putD fail nt x.2.1.dst v T fun T => prepE rem dW h l T A nx (Nat.lor E (Nat.pow 2 x.1)) k
        | none => fail

def dstIs (T : Tr EV) (d : Option Nat) (v : EV) : Bool :=
  match d with
  | some d => match T.get d with
    | some u => sameE u v
    | none => false
  | none => true
/-- one of these is as it is said here -/
def okAt (rem : List Item) (dW : Nat) (T : Tr EV) (h : Tr EO) (A : List (Nat × Nat × EO)) (E : Nat) (x : Item) : Bool :=
  isCh x.2.1.op || not (freeB rem x.2.2) || hasBit dW x.1 || (hasBit E x.1 && match wantedE ops T x.2.1 with
    | none => false
    | some false => dstIs T x.2.1.dst undefE && (match aOf A x.1 with | [] => true | _ => false)
    | some true => bif mkOp x.2.1.op then (match aOf A x.1 with
        | [q] => match mkV tab self x.2.1 T q.2.1 with
          | some p => dstIs T x.2.1.dst p.1 && sameO p.2 q.2.2
          | none => false
        | _ => false)
      else match rdV tab self x.2.1 T h with
        | some v => dstIs T x.2.1.dst v && (match aOf A x.1 with | [] => true | _ => false)
        | none => false)

def mergeE (p : Nat → Bool) : List (Nat × Nat × EO) → Tr EO → (Tr EO → β) → β
  | [], h, k => k h
  | q :: A, h, k => bif p q.1 then Tr.put fail (some q.2.2) 64 h q.2.1 fun h => mergeE p A h k else mergeE p A h k

def stopE (rem : List Item) (dW : Nat) (T : Tr EV) (h : Tr EO) (A : List (Nat × Nat × EO)) (nx E : Nat) (k : Tr EV → List (Nat × Nat × EO) → Nat → Nat → β) : β :=
  prepE tab self fail nt ops rem dW h items T A nx E fun T A nx E => bif items.all (okAt tab self ops rem dW T h A E) then k T A nx E else fail

/-- the operations that write, one behind the other -/
def goE : List Item → Nat → Tr EV → Tr EO → List (Nat × Nat × EO) → Nat → Nat → (Tr EV → Tr EO → Nat → β) → β
  | [], _, T, h, A, nx, _, k => mergeE fail (fun _ => true) A h fun h => k T h nx
  | r :: rest, _, T, h, A, nx, E, k => bif rest.all (fun q => hasBit q.2.2 r.1) then
      mergeE fail (hasBit r.2.2) A h fun h => match wantedE ops T r.2.1 with
        | none => fail
        | some false => putD fail nt r.2.1.dst undefE T fun T => stopE tab self fail nt ops items rest (Nat.lor r.2.2 (Nat.pow 2 r.1)) T h (A.filter fun q => not (hasBit r.2.2 q.1)) nx E fun T A nx E =>
            goE rest (Nat.lor r.2.2 (Nat.pow 2 r.1)) T h A nx E k
        | some true => evOp tab self fail join fl r.2.1 T h nx fun v h nx => putD fail nt r.2.1.dst v T fun T => stopE tab self fail nt ops items rest (Nat.lor r.2.2 (Nat.pow 2 r.1)) T h (A.filter fun q => not (hasBit r.2.2 q.1)) nx E fun T A nx E =>
            goE rest (Nat.lor r.2.2 (Nat.pow 2 r.1)) T h A nx E k
      else fail
end
/-- the region -/
def evDraw {β : Type} (fail : β) (join : β → β → β) (nt fl : Nat) (ops : Array Oper) (T : Tr EV) (h : Tr EO) (nx : Nat) (k : Tr EV → Tr EO → Nat → β) : β :=
  bif statOk ops nt (mkItems ops.toList 0 []) then
    stopE tab self fail nt ops (mkItems ops.toList 0 []) ((mkItems ops.toList 0 []).filter fun x => isCh x.2.1.op) 0 T h [] nx 0 fun T A nx E =>
      goE tab self fail join nt fl ops (mkItems ops.toList 0 []) ((mkItems ops.toList 0 []).filter fun x => isCh x.2.1.op) 0 T h A nx E k
  else fail
end
end Go.Proofs.Ytggbnjdbbomjoaa
