/- A region that draws its order, in the abstract run: the operations that write come in one order; those that look are the same wherever they may come; those that make blocks float. -/
import Derived.Test.YtmlkfgoiakcnhaaGreatDoorEvO
namespace Go.Proofs.YtmlkfgoiakcnhaaGreatDoor
open Go Go.RowKit

abbrev Item := Nat × Oper × Nat
/-- the operations that must be done ahead of one, as bits -/
def hasBit (m i : Nat) : Bool := Nat.testBit m i
def maskL (acc : List Nat) : List Edge → Nat
  | [] => 0
  | e :: l => bif Region.binds .any e then Nat.lor (Nat.lor (Nat.pow 2 e.on) (acc.getD e.on 0)) (maskL acc l) else maskL acc l
def mkItems : List Oper → Nat → List Nat → List Item
  | [], _, _ => []
  | o :: l, i, acc => (i, o, maskL acc o.after.toList) :: mkItems l (Nat.succ i) (acc ++ [maskL acc o.after.toList])

def dstIsN : Option Nat → Nat → Bool
  | some d, x => Nat.beq d x
  | none, _ => false
def dstApart : Option Nat → Option Nat → Bool
  | some d, some e => not (Nat.beq d e)
  | _, _ => true
def dstLt (nt : Nat) : Option Nat → Bool
  | some d => Nat.blt d nt
  | none => true
/-- what is looked at comes out of the region's operations that are ahead, or out of none; no two write one slot -/
def statOk (ops : Array Oper) (nt : Nat) (items : List Item) : Bool :=
  items.all fun x => (x.2.1.looksAt ops).all (fun t => items.all fun y => not (dstIsN y.2.1.dst t) || hasBit x.2.2 y.1) &&
    items.all (fun y => Nat.beq y.1 x.1 || dstApart x.2.1.dst y.2.1.dst) && x.2.1.after.toList.all (fun e => not (Region.binds .any e) || Nat.blt e.on x.1) && dstLt nt x.2.1.dst

def isCh (tab : Tab) (o : Op) : Bool := cvB tab o || not (rdOp o || mkOp o)
def freeB (rem : List Item) (m : Nat) : Bool := rem.all fun r => not (hasBit m r.1)
def aOf (A : List (Nat × Nat × EO)) (i : Nat) : List (Nat × Nat × EO) := A.filter fun q => Nat.beq q.1 i

section
variable (tab : Tab) (self : CodeFn)
def rdV (o : Oper) (T : Fr) (h : Tr EO) : Option EV := evOp tab self none (fun _ _ => none) 0 o T h 0 fun v _ _ => some v
def mkV (o : Oper) (T : Fr) (X : Nat) : Option (EV × EO) := evOp tab self none (fun _ _ => none) 0 o T .nil X fun v h _ => match h.get X with
  | some b => some (v, b)
  | none => none

section
variable {β : Type} (fail : β) (join : β → β → β) (nt fl : Nat) (ops : Array Oper) (items : List Item)
/-- what can be known at this place: operations that look, and that make -/
def prepE (rem : List Item) (dW : Nat) (h : Tr EO) : List Item → Fr → List (Nat × Nat × EO) → Nat → Nat → (Fr → List (Nat × Nat × EO) → Nat → Nat → β) → β
  | [], T, A, nx, E, k => k T A nx E
  | x :: l, T, A, nx, E, k =>
    bif isCh tab x.2.1.op || hasBit E x.1 || not (freeB rem x.2.2) then prepE rem dW h l T A nx E k else
    match wantedE ops T x.2.1 with
    | none => fail
    | some false => putD fail nt x.2.1.dst undefE T fun T => prepE rem dW h l T A nx (Nat.lor E (Nat.pow 2 x.1)) k
    | some true => bif mkOp x.2.1.op then match mkV tab self x.2.1 T nx with
        | some p => putD fail nt x.2.1.dst p.1 T fun T => prepE rem dW h l T ((x.1, nx, p.2) :: A) (Nat.succ nx) (Nat.lor E (Nat.pow 2 x.1)) k
        | none => fail
      else match rdV tab self x.2.1 T h with
        | some v => putD fail nt x.2.1.dst v T fun T => prepE rem dW h l T A nx (Nat.lor E (Nat.pow 2 x.1)) k
        | none => fail

def dstIs (T : Fr) (d : Option Nat) (v : EV) : Bool :=
  match d with
  | some d => match T.get d with
    | some u => sameE u v
    | none => false
  | none => true
/-- one of these is as it is said here -/
def okAt (rem : List Item) (dW : Nat) (T : Fr) (h : Tr EO) (A : List (Nat × Nat × EO)) (E : Nat) (x : Item) : Bool :=
  isCh tab x.2.1.op || not (freeB rem x.2.2) || hasBit dW x.1 || (hasBit E x.1 && match wantedE ops T x.2.1 with
    | none => false
    | some false => dstIs T x.2.1.dst undefE && (match aOf A x.1 with | [] => true | _ => false)
    | some true => bif mkOp x.2.1.op then (match aOf A x.1 with
        | [q] => match mkV tab self x.2.1 T q.2.1 with
          | some p => dstIs T x.2.1.dst p.1 && sameO p.2 q.2.2
          | none => false
        | _ => false)
      else match rdV tab self x.2.1 T h with
        | some v => dstIs T x.2.1.dst v && (match aOf A x.1 with | [] => true | _ => false)
        | none => false)

def mergeE (p : Nat → Bool) : List (Nat × Nat × EO) → Tr EO → (Tr EO → β) → β
  | [], h, k => k h
  | q :: A, h, k => bif p q.1 then Tr.put fail (some q.2.2) 64 h q.2.1 fun h => mergeE p A h k else mergeE p A h k

def stopE (rem : List Item) (dW : Nat) (T : Fr) (h : Tr EO) (A : List (Nat × Nat × EO)) (nx E : Nat) (k : Fr → List (Nat × Nat × EO) → Nat → Nat → β) : β :=
  prepE tab self fail nt ops rem dW h items T A nx E fun T A nx E => bif items.all (okAt tab self ops rem dW T h A E) then k T A nx E else fail

/-- the operations that write, one behind the other -/
def goE : List Item → Nat → Fr → Tr EO → List (Nat × Nat × EO) → Nat → Nat → (Fr → Tr EO → Nat → β) → β
  | [], _, T, h, A, nx, _, k => mergeE fail (fun _ => true) A h fun h => k T h nx
  | r :: rest, _, T, h, A, nx, E, k => bif rest.all (fun q => hasBit q.2.2 r.1) then
      mergeE fail (hasBit r.2.2) A h fun h => match wantedE ops T r.2.1 with
        | none => fail
        | some false => putD fail nt r.2.1.dst undefE T fun T => stopE tab self fail nt ops items rest (Nat.lor r.2.2 (Nat.pow 2 r.1)) T h (A.filter fun q => not (hasBit r.2.2 q.1)) nx E fun T A nx E =>
            goE rest (Nat.lor r.2.2 (Nat.pow 2 r.1)) T h A nx E k
        | some true => evOp tab self fail join fl r.2.1 T h nx fun v h nx => putD fail nt r.2.1.dst v T fun T => stopE tab self fail nt ops items rest (Nat.lor r.2.2 (Nat.pow 2 r.1)) T h (A.filter fun q => not (hasBit r.2.2 q.1)) nx E fun T A nx E =>
            goE rest (Nat.lor r.2.2 (Nat.pow 2 r.1)) T h A nx E k
      else fail
end
/-- the region -/
def evDraw {β : Type} (fail : β) (join : β → β → β) (nt fl : Nat) (ops : Array Oper) (T : Fr) (h : Tr EO) (nx : Nat) (k : Fr → Tr EO → Nat → β) : β :=
  bif statOk ops nt (mkItems ops.toList 0 []) then
    stopE tab self fail nt ops (mkItems ops.toList 0 []) ((mkItems ops.toList 0 []).filter fun x => isCh tab x.2.1.op) 0 T h [] nx 0 fun T A nx E =>
      goE tab self fail join nt fl ops (mkItems ops.toList 0 []) ((mkItems ops.toList 0 []).filter fun x => isCh tab x.2.1.op) 0 T h A nx E k
  else fail
end
end Go.Proofs.YtmlkfgoiakcnhaaGreatDoor
