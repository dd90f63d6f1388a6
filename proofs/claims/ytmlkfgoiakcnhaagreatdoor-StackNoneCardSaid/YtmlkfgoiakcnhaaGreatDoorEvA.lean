/- An abstract run of the program's code, for the kernel to carry out: values whose blocks bear numbers of the run's own, unknown scalars, a heap of what is known. Definitions alone. -/
import Derived.WalkKit
namespace Go.Proofs.YtmlkfgoiakcnhaaGreatDoor
open Go

/-- a table by number -/
inductive Tr (α : Type) where
  | nil
  | node (l : Tr α) (x : Option α) (r : Tr α)

def Tr.get {α : Type} : Tr α → Nat → Option α
  | .nil, _ => none
  | .node l x r, n => bif Nat.beq n 0 then x else bif Nat.beq (Nat.mod n 2) 1 then l.get (Nat.div n 2) else r.get (Nat.sub (Nat.div n 2) 1)

def Tr.put {α β : Type} (fail : β) (v : Option α) : Nat → Tr α → Nat → (Tr α → β) → β
  | 0, _, _, _ => fail
  | f + 1, .nil, n, k => bif Nat.beq n 0 then k (.node .nil v .nil) else
      bif Nat.beq (Nat.mod n 2) 1 then Tr.put fail v f .nil (Nat.div n 2) (fun l => k (.node l none .nil)) else Tr.put fail v f .nil (Nat.sub (Nat.div n 2) 1) (fun r => k (.node .nil none r))
  | f + 1, .node l x r, n, k => bif Nat.beq n 0 then k (.node l v r) else
      bif Nat.beq (Nat.mod n 2) 1 then Tr.put fail v f l (Nat.div n 2) (fun l => k (.node l x r)) else Tr.put fail v f r (Nat.sub (Nat.div n 2) 1) (fun r => k (.node l x r))

mutual
/-- a value: known, or unknown of a kind; 'cap' none: to the end of the block -/
inductive EV where
  | bool (b : Bool)
  | int (k : IntKind) (n : Int)
  | str (s : List UInt8)
  | ptr0
  | ptr (b off : Nat)
  | slice0
  | slice (b off len : Nat) (cap : Option Nat)
  | map0
  | map (b : Nat)
  | func0
  | func (f : Nat) (first captured : EVs)
  | iface0
  | iface (t : Nat) (v : EV)
  | agg (l : EVs)
  | tup (l : EVs)
  | unkB
  | unkI (k : IntKind)
  | unkS
  | unkL
  | unkV
  | rng (k : IntKind) (lo hi : Int)
  | yld (b : Nat)
inductive EVs where
  | nil
  | cons (v : EV) (l : EVs)
end
instance : Inhabited EV := ⟨.unkV⟩

def undefE : EV := .tup .nil

def EVs.toL : EVs → List EV
  | .nil => []
  | .cons v l => v :: l.toL
def EVs.app : EVs → EVs → EVs
  | .nil, m => m
  | .cons v l, m => .cons v (l.app m)
def EVs.get : EVs → Nat → Option EV
  | .nil, _ => none
  | .cons v l, n => bif Nat.beq n 0 then some v else l.get (Nat.sub n 1)
def EVs.len : EVs → Nat
  | .nil => 0
  | .cons _ l => Nat.succ l.len
def EVs.take : EVs → Nat → EVs
  | .nil, _ => .nil
  | .cons v l, n => bif Nat.beq n 0 then .nil else .cons v (l.take (Nat.sub n 1))
def EVs.drop : EVs → Nat → EVs
  | .nil, _ => .nil
  | .cons v l, n => bif Nat.beq n 0 then .cons v l else l.drop (Nat.sub n 1)
def EVs.ofList : List EV → EVs
  | [] => .nil
  | v :: l => .cons v (.ofList l)
def EV.cells : EV → EVs
  | .agg l => l
  | v => .cons v .nil
/-- the value of one cell -/
def EV.flat : EV → Bool
  | .agg _ => false
  | .tup _ => false
  | _ => true
def EVs.flat : EVs → Bool
  | .nil => true
  | .cons v l => bif v.flat then l.flat else false

/-- a block: 'n' of its cells are known to be there; z is 0 if there are no more, else the cells of an element -/
inductive EO where
  | cells (c : Tr EV) (n z : Nat)
  | ro (c : Tr EV) (z : Nat)
  | map (l : List (EV × EV × Nat)) (clock : Nat)
  | loop (st : Nat) (pend : Option Code) (nt : Nat) (T : Tr EV) (ps : List Nat) (as body : Code)
  | dfr
  | mit (m : Option Nat) (since : Nat) (seen : List Nat) (last : Nat)

/-- a frame: its slots, the blocks whose deferred calls it takes over, the loop whose round it is -/
structure Fr where
  T : Tr EV
  D : List Nat
  ro : Option Nat
def Fr.get (F : Fr) (i : Nat) : Option EV := F.T.get i

/-- a type: what it is, its cells, its bytes, its zero -/
structure TyE where
  desc : TypeDesc
  size : Nat
  bytes : Nat
  agg : Bool
  eqg : Bool
  held : Bool
  zero : EVs

structure Tab where
  ty : Tr TyE
  fn : Tr Func
  gl : Tr Nat
  ex : Tr Nat
  mg : Tr Nat

def TyE.zv (i : TyE) : EV := bif i.agg then .agg i.zero else match i.zero with
  | .cons v _ => v
  | .nil => undefE

def ikN : IntKind → Nat
  | .i8 => 0
  | .i16 => 1
  | .i32 => 2
  | .i64 => 3
  | .u8 => 4
  | .u16 => 5
  | .u32 => 6
  | .u64 => 7
def ikEq (a b : IntKind) : Bool := Nat.beq (ikN a) (ikN b)

def ofVal : Value → Option EV
  | .bool b => some (.bool b)
  | .int k n => some (.int k n)
  | .string s => some (.str s.data.toList)
  | .pointer none => some .ptr0
  | .slice none n c => bif Nat.beq n 0 && Nat.beq c 0 then some .slice0 else none
  | .map none => some .map0
  | .nilFunc => some .func0
  | .nilIface => some .iface0
  | .tuple l => match l.toList with
    | [] => some undefE
    | _ => none
  | _ => none

def eqBytes : List UInt8 → List UInt8 → Bool
  | [], [] => true
  | a :: l, b :: m => bif Nat.beq a.toNat b.toNat then eqBytes l m else false
  | _, _ => false
def ltBytes : List UInt8 → List UInt8 → Bool
  | _, [] => false
  | [], _ :: _ => true
  | a :: l, b :: m => bif Nat.blt a.toNat b.toNat then true else bif Nat.beq a.toNat b.toNat then ltBytes l m else false
def eqInt : Int → Int → Bool
  | .ofNat a, .ofNat b => Nat.beq a b
  | .negSucc a, .negSucc b => Nat.beq a b
  | _, _ => false
def ltInt : Int → Int → Bool
  | .ofNat a, .ofNat b => Nat.blt a b
  | .negSucc a, .negSucc b => Nat.blt b a
  | .negSucc _, .ofNat _ => true
  | .ofNat _, .negSucc _ => false

def fields? : TypeDesc → Option (Array Field)
  | .struct fs => some fs
  | _ => none
def elem? : TypeDesc → Option TypeId
  | .slice e => some e
  | _ => none

def natOf : EV → Option Nat
  | .int _ (.ofNat n) => some n
  | _ => none

def optNEq : Option Nat → Option Nat → Bool
  | none, none => true
  | some a, some b => Nat.beq a b
  | _, _ => false
mutual
/-- one and the same -/
def sameE : EV → EV → Bool
  | .bool a, .bool b => a == b
  | .int k a, .int j b => ikEq k j && eqInt a b
  | .str a, .str b => eqBytes a b
  | .ptr0, .ptr0 => true
  | .ptr a x, .ptr b y => Nat.beq a b && Nat.beq x y
  | .slice0, .slice0 => true
  | .slice a x n c, .slice b y m d => Nat.beq a b && Nat.beq x y && Nat.beq n m && optNEq c d
  | .map0, .map0 => true
  | .map a, .map b => Nat.beq a b
  | .func0, .func0 => true
  | .func f a b, .func g c d => Nat.beq f g && sameEs a c && sameEs b d
  | .iface0, .iface0 => true
  | .iface t a, .iface u b => Nat.beq t u && sameE a b
  | .agg a, .agg b => sameEs a b
  | .tup a, .tup b => sameEs a b
  | .unkB, .unkB => true
  | .unkI k, .unkI j => ikEq k j
  | .unkS, .unkS => true
  | .unkL, .unkL => true
  | .unkV, .unkV => true
  | .rng k a b, .rng j c d => ikEq k j && eqInt a c && eqInt b d
  | .yld a, .yld b => Nat.beq a b
  | _, _ => false
def sameEs : EVs → EVs → Bool
  | .nil, .nil => true
  | .cons a l, .cons b m => sameE a b && sameEs l m
  | _, _ => false
end
def optE : Option EV → Option EV → Bool
  | none, none => true
  | some a, some b => sameE a b
  | _, _ => false
def sameTr : Tr EV → Tr EV → Bool
  | .nil, .nil => true
  | .node l x r, .node l' x' r' => sameTr l l' && optE x x' && sameTr r r'
  | _, _ => false
def sameEnts : List (EV × EV × Nat) → List (EV × EV × Nat) → Bool
  | [], [] => true
  | a :: l, b :: m => sameE a.1 b.1 && sameE a.2.1 b.2.1 && Nat.beq a.2.2 b.2.2 && sameEnts l m
  | _, _ => false
def sameO : EO → EO → Bool
  | .cells c n z, .cells d m y => sameTr c d && Nat.beq n m && Nat.beq z y
  | .ro c z, .ro d y => sameTr c d && Nat.beq z y
  | .map l a, .map m b => sameEnts l m && Nat.beq a b
  | .dfr, .dfr => true
  | _, _ => false
/-- what two heaps have in common -/
def meetTr : Tr EO → Tr EO → Tr EO
  | .node l x r, .node l' x' r' => .node (meetTr l l') (match x with
    | some a => match x' with
      | some b => bif sameO a b then some a else none
      | none => none
    | none => none) (meetTr r r')
  | _, _ => .nil
section
variable (tab : Tab)

/-- a part of the cells of a struct -/
def partE (t : TypeId) (l : EVs) (off : Nat) : Option EV :=
  match tab.ty.get t with
  | some i => bif i.agg then some (.agg ((l.drop off).take i.size)) else l.get off
  | none => none

/-- a struct's fields, one by one -/
def eqFs (eq : TypeId → EV → EV → Option Bool) (a b : EVs) : List Field → Option Bool
  | [] => some true
  | f :: r => match partE tab f.type a f.offset with
    | some u => match partE tab f.type b f.offset with
      | some v => match eq f.type u v with
        | some true => eqFs eq a b r
        | some false => some false
        | none => none
      | none => none
    | none => none
/-- are two of a type alike? -/
def eqT : Nat → TypeId → EV → EV → Option Bool
  | 0, _, _, _ => none
  | d + 1, t, x, y => match tab.ty.get t with
    | none => none
    | some i => match i.desc with
      | .bool => match x, y with
        | .bool a, .bool b => some (a == b)
        | _, _ => none
      | .int _ => match x, y with
        | .int k a, .int k' b => bif ikEq k k' then some (eqInt a b) else none
        | _, _ => none
      | .string => match x, y with
        | .str a, .str b => some (eqBytes a b)
        | _, _ => none
      | .pointer _ => match x, y with
        | .ptr0, .ptr0 => some true
        | .ptr0, .ptr _ _ => some false
        | .ptr _ _, .ptr0 => some false
        | _, _ => none
      | .slice _ => match x, y with
        | .slice0, .slice0 => some true
        | .slice0, .slice .. => some false
        | .slice .., .slice0 => some false
        | _, _ => none
      | .map _ _ => match x, y with
        | .map0, .map0 => some true
        | .map0, .map _ => some false
        | .map _, .map0 => some false
        | _, _ => none
      | .func _ _ _ => match x, y with
        | .func0, .func0 => some true
        | .func0, .func .. => some false
        | .func .., .func0 => some false
        | _, _ => none
      | .interface _ => match x, y with
        | .iface _ _, .iface0 => some false
        | _, _ => none
      | .struct fs => match x, y with
        | .agg a, .agg b => bif i.held then none else eqFs tab (eqT d) a b fs.toList
        | _, _ => none
      | _ => none

section
variable {β : Type} (fail : β)

def evx (T : Fr) (x : Operand) (k : EV → β) : β :=
  match x with
  | .tmp i => match T.get i with
    | some v => k v
    | none => k undefE
  | .const v => match ofVal v with
    | some e => k e
    | none => fail
  | .global g => match tab.gl.get g with
    | some id => k (.ptr id 0)
    | none => fail
  | .func f => k (.func f .nil .nil)

def evxs (T : Fr) : List Operand → (EVs → β) → β
  | [], k => k .nil
  | x :: l, k => evx tab fail T x fun v => evxs T l fun vs => k (.cons v vs)

def forceI (n : Int) (k : Int → β) : β :=
  match n with
  | .ofNat m => bif Nat.beq m m then k (.ofNat m) else fail
  | .negSucc m => bif Nat.beq m m then k (.negSucc m) else fail

/-- cells of a block from an offset -/
def readCells (c : Tr EV) : Nat → Nat → (EVs → β) → β
  | 0, _, k => k .nil
  | n + 1, off, k => match c.get off with
    | some v => readCells c n (Nat.succ off) fun vs => k (.cons v vs)
    | none => fail

def writeCells : EVs → Tr EV → Nat → (Tr EV → β) → β
  | .nil, c, _, k => k c
  | .cons v l, c, off, k => Tr.put fail (some v) 64 c off fun c => writeCells l c (Nat.succ off) k

def repCells (z : EVs) : Nat → EVs
  | 0 => .nil
  | n + 1 => z.app (repCells z n)

def binI (op : BinOp) (ki : IntKind) (a : Int) (b : Int) (k : EV → β) : β :=
  match op with
  | .add => forceI fail (ki.wrap (a + b)) fun n => k (.int ki n)
  | .sub => forceI fail (ki.wrap (a - b)) fun n => k (.int ki n)
  | .mul => forceI fail (ki.wrap (a * b)) fun n => k (.int ki n)
  | .eql => k (.bool (eqInt a b))
  | .neq => k (.bool (not (eqInt a b)))
  | .lss => k (.bool (ltInt a b))
  | .leq => k (.bool (not (ltInt b a)))
  | .gtr => k (.bool (ltInt b a))
  | .geq => k (.bool (not (ltInt a b)))
  | .quo => bif eqInt b 0 then fail else forceI fail (ki.wrap (a.tdiv b)) fun n => k (.int ki n)
  | .rem => bif eqInt b 0 then fail else forceI fail (a.tmod b) fun n => k (.int ki n)
  | .and => forceI fail (ki.wrap ((BitVec.ofInt ki.bits a &&& BitVec.ofInt ki.bits b).toNat : Nat)) fun n => k (.int ki n)
  | .or => forceI fail (ki.wrap ((BitVec.ofInt ki.bits a ||| BitVec.ofInt ki.bits b).toNat : Nat)) fun n => k (.int ki n)
  | .xor => forceI fail (ki.wrap ((BitVec.ofInt ki.bits a ^^^ BitVec.ofInt ki.bits b).toNat : Nat)) fun n => k (.int ki n)
  | _ => fail
def binShift (op : BinOp) (ki : IntKind) (a : Int) (b : Int) (k : EV → β) : β :=
  bif ltInt b 0 then fail else
  match op with
  | .shl => forceI fail (ki.wrap (a * 2 ^ (min b.toNat ki.bits))) fun n => k (.int ki n)
  | .shr => forceI fail (a.fdiv (2 ^ (min b.toNat ki.bits))) fun n => k (.int ki n)
  | _ => fail
def isShift : BinOp → Bool
  | .shl => true
  | .shr => true
  | _ => false
def isCmp : BinOp → Bool
  | .eql => true
  | .neq => true
  | .lss => true
  | .leq => true
  | .gtr => true
  | .geq => true
  | _ => false
def binS (op : BinOp) (a b : List UInt8) (k : EV → β) : β :=
  match op with
  | .add => bif Nat.ble (Nat.add a.length b.length) 9223372036854775807 then k (.str (a ++ b)) else fail
  | .eql => k (.bool (eqBytes a b))
  | .neq => k (.bool (not (eqBytes a b)))
  | .lss => k (.bool (ltBytes a b))
  | .leq => k (.bool (ltBytes a b || eqBytes a b))
  | .gtr => k (.bool (not (ltBytes a b || eqBytes a b)))
  | .geq => k (.bool (not (ltBytes a b)))
  | _ => fail
def unkOr (c : Bool) (k : EV → β) : β := bif c then k .unkB else fail
def ltO : Option Int → Option Int → Bool
  | some a, some b => ltInt a b
  | _, _ => false
def leO : Option Int → Option Int → Bool
  | some a, some b => not (ltInt b a)
  | _, _ => false
/-- of two whole numbers of which the bounds are known -/
def cmpR (op : BinOp) (ki kj : IntKind) (a b c d : Option Int) (k : EV → β) : β :=
  bif ikEq ki kj then match op with
    | .lss => bif ltO b c then k (.bool true) else bif leO d a then k (.bool false) else k .unkB
    | .leq => bif leO b c then k (.bool true) else bif ltO d a then k (.bool false) else k .unkB
    | .gtr => bif ltO d a then k (.bool true) else bif leO b c then k (.bool false) else k .unkB
    | .geq => bif leO d a then k (.bool true) else bif ltO b c then k (.bool false) else k .unkB
    | .eql => bif ltO b c || ltO d a then k (.bool false) else k .unkB
    | .neq => bif ltO b c || ltO d a then k (.bool true) else k .unkB
    | .add => k (.unkI ki)
    | .sub => k (.unkI ki)
    | .mul => k (.unkI ki)
    | _ => fail
  else fail
def isAggE : EV → Bool
  | .agg _ => true
  | _ => false
def eqgOf (t : TypeId) : Bool := match tab.ty.get t with
  | some i => i.eqg
  | none => true
def binG (op : BinOp) (t : TypeId) (x y : EV) (k : EV → β) : β :=
  bif isAggE x && eqgOf tab t then fail else match op with
    | .eql => match eqT tab 20 t x y with
      | some b => k (.bool b)
      | none => fail
    | .neq => match eqT tab 20 t x y with
      | some b => k (.bool (not b))
      | none => fail
    | _ => fail
def binE (op : BinOp) (t : TypeId) (x y : EV) (k : EV → β) : β :=
  match x with
  | .int ki a => match y with
    | .int kj b => bif isShift op then binShift fail op ki a b k else bif ikEq ki kj then binI fail op ki a b k else fail
    | .unkI kj => cmpR fail op ki kj (some a) (some a) none none k
    | .rng kj c d => cmpR fail op ki kj (some a) (some a) (some c) (some d) k
    | _ => fail
  | .unkI ki => match y with
    | .int kj b => cmpR fail op ki kj none none (some b) (some b) k
    | .unkI kj => cmpR fail op ki kj none none none none k
    | .rng kj c d => cmpR fail op ki kj none none (some c) (some d) k
    | _ => fail
  | .rng ki a b => match y with
    | .int kj c => cmpR fail op ki kj (some a) (some b) (some c) (some c) k
    | .unkI kj => cmpR fail op ki kj (some a) (some b) none none k
    | .rng kj c d => cmpR fail op ki kj (some a) (some b) (some c) (some d) k
    | _ => fail
  | .str a => match y with
    | .str b => binS fail op a b k
    | .unkS => unkOr fail (isCmp op) k
    | _ => fail
  | .unkS => match y with
    | .str _ => unkOr fail (isCmp op) k
    | .unkS => unkOr fail (isCmp op) k
    | _ => fail
  | .iface0 => fail
  | .unkV => fail
  | x => binG tab fail op t x y k

def isCst : Operand → Bool
  | .const _ => true
  | _ => false
/-- two values at '==': two nil interfaces, one of them the literal nil, are one -/
def binO (op : BinOp) (t : TypeId) (xo yo : Operand) (x y : EV) (k : EV → β) : β :=
  match x, y with
  | .iface0, .iface0 => match tab.ty.get t with
    | some i => match i.desc with
      | .interface _ => bif isCst xo || isCst yo then (match op with
        | .eql => k (.bool true)
        | .neq => k (.bool false)
        | _ => fail) else fail
      | _ => fail
    | none => fail
  | x, y => binE tab fail op t x y k

def overE : EVs → EVs → EVs
  | .cons v l, .cons _ m => .cons v (overE l m)
  | _, m => m
/-- parts laid over the zero cells; 'place' tells a part's first cell and how many it has -/
def fillE (place : Nat → Option (Nat × Nat)) (c : EVs) : List (Nat × EV) → (EVs → β) → β
  | [], k => k c
  | (i, v) :: r, k => match place i with
    | some (off, size) => bif Nat.beq v.cells.len size && Nat.ble (Nat.add off size) c.len then fillE place ((c.take off).app (overE v.cells (c.drop off))) r k else fail
    | none => fail

def evParts (T : Fr) : List (Nat × Operand) → (List (Nat × EV) → β) → β
  | [], k => k []
  | (i, x) :: l, k => evx tab fail T x fun v => evParts T l fun vs => k ((i, v) :: vs)

/-- a new block -/
def newB (h : Tr EO) (nx : Nat) (o : EO) (k : Tr EO → Nat → β) : β := Tr.put fail (some o) 64 h nx fun h => k h (Nat.succ nx)
def setB (fl : Nat) (h : Tr EO) (b : Nat) (o : Option EO) (k : Tr EO → β) : β := bif Nat.ble fl b then Tr.put fail o 64 h b k else fail
def newCells (h : Tr EO) (nx : Nat) (l : EVs) (z : Nat) (k : Tr EO → Nat → β) : β :=
  writeCells fail l .nil 0 fun c => newB fail h nx (.cells c l.len z) k

/-- the entry of a key -/
def findE (kt : TypeId) (key : EV) : List (EV × EV × Nat) → Option (Option EV)
  | [] => some none
  | (a, v, _) :: l => match eqT tab 20 kt key a with
    | some true => some (some v)
    | some false => findE kt key l
    | none => none
mutual
/-- one and the same, and known -/
def sameEV : EV → EV → Bool
  | .bool a, .bool b => a == b
  | .int k a, .int j b => ikEq k j && eqInt a b
  | .str a, .str b => eqBytes a b
  | .agg a, .agg b => sameEVs a b
  | _, _ => false
def sameEVs : EVs → EVs → Bool
  | .nil, .nil => true
  | .cons a l, .cons b m => sameEV a b && sameEVs l m
  | _, _ => false
end
def updE (kt : TypeId) (key v : EV) (clock : Nat) : List (EV × EV × Nat) → Option (List (EV × EV × Nat) × Nat)
  | [] => some ([(key, v, clock)], Nat.succ clock)
  | (a, u, b) :: l => match eqT tab 20 kt key a with
    | some true => bif sameEV key a then some ((key, v, b) :: l, clock) else none
    | some false => match updE kt key v clock l with
      | some (m, c) => some ((a, u, b) :: m, c)
      | none => none
    | none => none
def delE (kt : TypeId) (key : EV) : List (EV × EV × Nat) → Option (List (EV × EV × Nat))
  | [] => some []
  | (a, u, b) :: l => match eqT tab 20 kt key a with
    | some true => some l
    | some false => match delE kt key l with
      | some m => some ((a, u, b) :: m)
      | none => none
    | none => none
def keyFs (key : TypeId → EV → Bool) (a : EVs) : List Field → Bool
  | [] => true
  | f :: r => match partE tab f.type a f.offset with
    | some u => bif key f.type u then keyFs key a r else false
    | none => false
/-- a key's type that the lookups know -/
def keyT : Nat → TypeId → EV → Bool
  | 0, _, _ => false
  | d + 1, t, x => match tab.ty.get t with
    | none => false
    | some i => match i.desc with
      | .bool => true
      | .int _ => true
      | .string => true
      | .struct fs => match x with
        | .agg a => bif i.held then false else keyFs tab (keyT d) a fs.toList
        | _ => false
      | _ => false

/-- the cells of a block, to read -/
def rdB (h : Tr EO) (b : Nat) (k : Tr EV → β) : β :=
  match h.get b with
  | some o => match o with
    | .cells c _ _ => k c
    | .ro c _ => k c
    | _ => fail
  | none => fail
def loadE (t : TypeId) (v : EV) (h : Tr EO) (k : EV → β) : β :=
  match v with
  | .ptr b off => rdB fail h b fun c => match tab.ty.get t with
    | some i => bif i.agg then readCells fail c i.size off fun l => k (.agg l) else match c.get off with
      | some v => k v
      | none => fail
    | none => fail
  | _ => fail
def storeE (fl : Nat) (t : TypeId) (v y : EV) (h : Tr EO) (k : Tr EO → β) : β :=
  match v with
  | .ptr b off => match h.get b with
    | some (.cells c m ex) => match tab.ty.get t with
      | some i => bif Nat.beq i.size y.cells.len && Nat.ble (Nat.add off i.size) m && y.cells.flat then writeCells fail y.cells c off fun c => setB fail fl h b (some (.cells c m ex)) k else fail
      | none => fail
    | _ => fail
  | _ => fail
def allocE (e : TypeId) (h : Tr EO) (nx : Nat) (k : EV → Tr EO → Nat → β) : β :=
  match tab.ty.get e with
  | some i => newCells fail h nx i.zero 0 fun h nx' => k (.ptr nx 0) h nx'
  | none => fail
def boxE (v : EV) (h : Tr EO) (nx : Nat) (k : EV → Tr EO → Nat → β) : β :=
  newCells fail h nx v.cells 0 fun h nx' => k (.ptr nx 0) h nx'
def buildE (t : TypeId) (ps : List (Nat × EV)) (k : EV → β) : β :=
  match tab.ty.get t with
  | some i => match i.desc with
    | .struct fs => fillE fail (fun j => match fs[j]? with
        | some f => match tab.ty.get f.type with
          | some fi => some (f.offset, fi.size)
          | none => none
        | none => none) i.zero ps fun c => k (.agg c)
    | .array _ e => match tab.ty.get e with
      | some ei => fillE fail (fun j => some (Nat.mul j ei.size, ei.size)) i.zero ps fun c => k (.agg c)
      | none => fail
    | _ => fail
  | none => fail
/-- the element type of a slice type -/
def elemE (t : TypeId) (k : TypeId → TyE → β) : β :=
  match tab.ty.get t with
  | some i => match i.desc with
    | .slice e => match tab.ty.get e with
      | some ei => k e ei
      | none => fail
    | _ => fail
  | none => fail
def buildSliceE (t : TypeId) (len : Nat) (ps : List (Nat × EV)) (h : Tr EO) (nx : Nat) (k : EV → Tr EO → Nat → β) : β :=
  elemE tab fail t fun _ ei => bif Nat.ble (Nat.mul len ei.size) 16777216 then
    fillE fail (fun j => some (Nat.mul j ei.size, ei.size)) (repCells ei.zero len) ps fun c => newCells fail h nx c 0 fun h nx' => k (.slice nx 0 len (some len)) h nx' else fail
def makeSliceE (t : TypeId) (l c : EV) (h : Tr EO) (nx : Nat) (k : EV → Tr EO → Nat → β) : β :=
  match l, c with
  | .int _ (.ofNat l), .int _ (.ofNat c) => elemE tab fail t fun _ ei => bif Nat.ble l c && Nat.ble (Nat.mul ei.bytes c) 281474976710656 && Nat.ble c 4611686018427387904 then
      newCells fail h nx (repCells ei.zero c) 0 fun h nx' => k (.slice nx 0 l (some c)) h nx' else fail
  | _, _ => fail
def optN (o : Option EV) (d : Nat) (k : Nat → β) : β :=
  match o with
  | none => k d
  | some v => match v with
    | .int _ (.ofNat n) => k n
    | _ => fail
/-- the cells of an element of a block that may be longer than is known -/
def zB (h : Tr EO) (b : Nat) : Nat :=
  match h.get b with
  | some o => match o with
    | .cells _ _ z => z
    | .ro _ z => z
    | _ => 0
  | none => 0
def sliceE (t : TypeId) (v : EV) (lo hi mx : Option EV) (h : Tr EO) (k : EV → β) : β :=
  match v with
  | .str s => match mx, (match tab.ty.get t with | some i => (match i.desc with | .string => true | _ => false) | none => false) with
    | none, true => optN fail lo 0 fun l => optN fail hi s.length fun r => bif Nat.ble l r && Nat.ble r s.length then k (.str ((s.take r).drop l)) else fail
    | _, _ => fail
  | .slice0 => elemE tab fail t fun _ _ => match mx with
    | none => optN fail lo 0 fun l => optN fail hi 0 fun r => bif Nat.beq l 0 && Nat.beq r 0 then k .slice0 else fail
    | _ => fail
  | .slice b off n cap => elemE tab fail t fun _ ei => match mx with
    | some m => match cap, hi with
      | some q, some hi => optN fail (some m) 0 fun m => optN fail lo 0 fun l => optN fail (some hi) n fun r =>
        bif Nat.ble l r && Nat.ble r m && Nat.ble m q then k (.slice b (bif Nat.beq l m then off else Nat.add off (Nat.mul l ei.size)) (Nat.sub r l) (some (Nat.sub m l))) else fail
      | none, some hi => optN fail (some m) 0 fun m => optN fail lo 0 fun l => optN fail (some hi) n fun r =>
        bif Nat.ble l r && Nat.ble r m && Nat.ble m n then k (.slice b (bif Nat.beq l m then off else Nat.add off (Nat.mul l ei.size)) (Nat.sub r l) (some (Nat.sub m l))) else fail
      | _, none => fail
    | none => optN fail lo 0 fun l => optN fail hi n fun r => match cap with
      | some q => bif Nat.ble l r && Nat.ble r q then k (.slice b (bif Nat.beq l q then off else Nat.add off (Nat.mul l ei.size)) (Nat.sub r l) (some (Nat.sub q l))) else fail
      | none => bif Nat.ble l r && Nat.ble r n && ((Nat.ble (Nat.succ l) n && Nat.beq (zB h b) ei.size && Nat.ble 1 ei.size) || Nat.beq l 0) then k (.slice b (Nat.add off (Nat.mul l ei.size)) (Nat.sub r l) none) else fail
  | _ => fail
def fieldAddrE (s : TypeId) (v : EV) (f : Nat) (k : EV → β) : β :=
  match v with
  | .ptr b off => match tab.ty.get s with
    | some i => match i.desc with
      | .struct fs => match fs[f]? with
        | some fd => match tab.ty.get fd.type with
          | some fi => bif Nat.beq fi.size 0 then fail else k (.ptr b (Nat.add off fd.offset))
          | none => fail
        | none => fail
      | _ => fail
    | none => fail
  | _ => fail
def fieldE (s : TypeId) (v : EV) (f : Nat) (k : EV → β) : β :=
  match v with
  | .agg l => match tab.ty.get s with
    | some i => match i.desc with
      | .struct fs => match fs[f]? with
        | some fd => match partE tab fd.type l fd.offset with
          | some v => k v
          | none => fail
        | none => fail
      | _ => fail
    | none => fail
  | _ => fail
def indexAddrE (t : TypeId) (v i : EV) (k : EV → β) : β :=
  match i with
  | .int _ (.ofNat i) => match v with
    | .slice b off n _ => elemE tab fail t fun _ ei => bif Nat.ble (Nat.succ i) n then k (.ptr b (Nat.add off (Nat.mul i ei.size))) else fail
    | .ptr b off => match tab.ty.get t with
      | some ti => match ti.desc with
        | .array n e => match tab.ty.get e with
          | some ei => bif Nat.ble (Nat.succ i) n then k (.ptr b (Nat.add off (Nat.mul i ei.size))) else fail
          | none => fail
        | _ => fail
      | none => fail
    | _ => fail
  | _ => fail
def indexE (t : TypeId) (v i : EV) (k : EV → β) : β :=
  match i with
  | .int _ (.ofNat i) => match v with
    | .str s => match (match tab.ty.get t with | some i => (match i.desc with | .string => true | _ => false) | none => false), s[i]? with
      | true, some c => k (.int .u8 (.ofNat c.toNat))
      | _, _ => fail
    | .agg l => match tab.ty.get t with
      | some ti => match ti.desc with
        | .array n e => match tab.ty.get e with
          | some ei => bif Nat.ble (Nat.succ i) n then match partE tab e l (Nat.mul i ei.size) with
              | some v => k v
              | none => fail
            else fail
          | none => fail
        | _ => fail
      | none => fail
    | _ => fail
  | _ => fail
/-- the key's and the element's type of a map's -/
def mapT (t : TypeId) (k : TypeId → TypeId → TyE → β) : β :=
  match tab.ty.get t with
  | some i => match i.desc with
    | .map kt e => match tab.ty.get e with
      | some ei => k kt e ei
      | none => fail
    | _ => fail
  | none => fail
def entriesE (v : EV) (h : Tr EO) (k : List (EV × EV × Nat) → β) : β :=
  match v with
  | .map0 => k []
  | .map b => match h.get b with
    | some (.map l _) => k l
    | _ => fail
  | _ => fail
def lookupE (t : TypeId) (v key : EV) (ok : Bool) (h : Tr EO) (k : EV → β) : β :=
  mapT tab fail t fun kt _ ei => bif keyT tab 20 kt key then entriesE fail v h fun l => match findE tab kt key l with
    | some (some v) => bif ok then k (.tup (.cons v (.cons (.bool true) .nil))) else k v
    | some none => bif ok then k (.tup (.cons ei.zv (.cons (.bool false) .nil))) else k ei.zv
    | none => fail
  else fail
def mapUpdateE (fl : Nat) (t : TypeId) (m key y : EV) (h : Tr EO) (k : Tr EO → β) : β :=
  match m with
  | .map b => mapT tab fail t fun kt _ _ => bif keyT tab 20 kt key then match h.get b with
    | some (.map l clock) => match updE tab kt key y clock l with
      | some (l, clock) => setB fail fl h b (some (.map l clock)) k
      | none => fail
    | _ => fail
    else fail
  | _ => fail
def unE (op : UnOp) (a : EV) (k : EV → β) : β :=
  match op with
  | .not => match a with
    | .bool b => k (.bool (not b))
    | .unkB => k .unkB
    | _ => fail
  | .neg => match a with
    | .int ki n => forceI fail (ki.wrap (0 - n)) fun n => k (.int ki n)
    | _ => fail
  | _ => fail
def convE (src dst : TypeId) (a : EV) (k : EV → β) : β :=
  match tab.ty.get src with
  | none => fail
  | some si => match tab.ty.get dst with
    | none => fail
    | some i => match i.desc with
      | .int ki => match a with
        | .int _ n => forceI fail (ki.wrap n) fun n => k (.int ki n)
        | .unkI _ => k (.unkI ki)
        | .rng _ lo hi => bif eqInt (ki.wrap lo) lo && eqInt (ki.wrap hi) hi then k (.rng ki lo hi) else k (.unkI ki)
        | _ => fail
      | .string => match si.desc with
        | .string => match a with
          | .str s => k (.str s)
          | .unkS => k .unkS
          | _ => fail
        | _ => fail
      | _ => fail
def nilCheckE (v : EV) (k : EV → β) : β :=
  match v with
  | .ptr b off => k (.ptr b off)
  | .func f a b => k (.func f a b)
  | _ => fail
def extractE (v : EV) (i : Nat) (k : EV → β) : β :=
  match v with
  | .tup l => match l.get i with
    | some v => k v
    | none => fail
  | _ => fail

def lenE (v : EV) (h : Tr EO) (d : TypeDesc) (k : EV → β) : β :=
  match d with
  | .string => match v with
    | .str s => k (.int .i64 (.ofNat s.length))
    | .unkS => k (.unkI .i64)
    | _ => fail
  | .slice _ => match v with
    | .slice0 => k (.int .i64 (.ofNat 0))
    | .slice _ _ n _ => k (.int .i64 (.ofNat n))
    | .unkL => k (.unkI .i64)
    | _ => fail
  | .map _ _ => match v with
    | .map0 => k (.int .i64 (.ofNat 0))
    | .map b => match h.get b with
      | some (.map l _) => k (.int .i64 (.ofNat l.length))
      | _ => fail
    | _ => fail
  | _ => fail
def capE (v : EV) (d : TypeDesc) (k : EV → β) : β :=
  match d with
  | .slice _ => match v with
    | .slice0 => k (.int .i64 (.ofNat 0))
    | .slice _ _ _ (some c) => k (.int .i64 (.ofNat c))
    | _ => fail
  | _ => fail
/-- the cells of the slice that is appended, and how many elements -/
def srcE (sz : Nat) (x : EV) (h : Tr EO) (k : Nat → EVs → β) : β :=
  match x with
  | .slice0 => k 0 .nil
  | .slice b off n _ => rdB fail h b fun c => readCells fail c (Nat.mul n sz) off fun l => k n l
  | _ => fail
def appendE (fl : Nat) (t : TypeId) (s x : EV) (h : Tr EO) (nx : Nat) (k : EV → Tr EO → Nat → β) : β :=
  elemE tab fail t fun _ ei => srcE fail ei.size x h fun m new => bif new.flat && Nat.ble 1 ei.size then
    match s with
    | .slice0 => match m with
      | 0 => k .slice0 h nx
      | m => bif Nat.ble (Nat.mul m ei.bytes) 140737488355328 && Nat.ble m 4611686018427387904 then newCells fail h nx new ei.size fun h nx' => k (.slice nx 0 m none) h nx' else fail
    | .slice b off n cap => match h.get b with
      | some (.cells c tot ex) =>
        bif (match cap with | some q => Nat.ble (Nat.add n m) q && Nat.ble (Nat.add off (Nat.mul (Nat.add n m) ei.size)) tot | none => Nat.beq ex ei.size && Nat.ble (Nat.add off (Nat.mul (Nat.add n m) ei.size)) tot) then
          writeCells fail new c (Nat.add off (Nat.mul n ei.size)) fun c => setB fail fl h b (some (.cells c tot ex)) fun h => k (.slice b off (Nat.add n m) cap) h nx
        else bif Nat.ble (Nat.mul (Nat.add n m) ei.bytes) 140737488355328 && Nat.ble (Nat.add n m) 4611686018427387904 then match cap with
          | some q => bif Nat.ble (Nat.succ q) (Nat.add n m) then readCells fail c (Nat.mul n ei.size) off fun old => newCells fail h nx (old.app new) ei.size fun h nx' => k (.slice nx 0 (Nat.add n m) none) h nx' else fail
          | none => bif Nat.beq (Nat.add off (Nat.mul n ei.size)) tot && Nat.beq off 0 && Nat.beq ex ei.size then
              readCells fail c (Nat.mul n ei.size) off fun old => setB fail fl h b none fun h => newCells fail h nx (old.app new) ei.size fun h nx' => k (.slice nx 0 (Nat.add n m) none) h nx'
            else fail
        else fail
      | _ => fail
    | _ => fail
    else fail
def deleteE (fl : Nat) (t : TypeId) (m key : EV) (h : Tr EO) (k : Tr EO → β) : β :=
  match m with
  | .map b => mapT tab fail t fun kt _ _ => bif keyT tab 20 kt key then match h.get b with
    | some (.map l clock) => match delE tab kt key l with
      | some l => setB fail fl h b (some (.map l clock)) k
      | none => fail
    | _ => fail
    else fail
  | _ => fail

/-- a conversion to a slice makes a block -/
def cvB (o : Op) : Bool :=
  match o with
  | .convert _ dst _ => match tab.ty.get dst with
    | some i => (match i.desc with
      | .slice _ => true
      | _ => false)
    | none => false
  | _ => false
def bytesE : List UInt8 → EVs
  | [] => .nil
  | b :: l => .cons (.int .u8 (.ofNat b.toNat)) (bytesE l)
def ofBytesE : EVs → Option (List UInt8)
  | .nil => some []
  | .cons (.int .u8 (.ofNat m)) l => bif Nat.blt m 256 then match ofBytesE l with
      | some s => some (UInt8.ofNat m :: s)
      | none => none
    else none
  | _ => none
def isU8 : TypeDesc → Bool
  | .int .u8 => true
  | _ => false
def isStr : TypeDesc → Bool
  | .string => true
  | _ => false
def descIs (p : TypeDesc → Bool) (t : TypeId) : Bool :=
  match tab.ty.get t with
  | some i => p i.desc
  | none => false
def toBytesE (src dst : TypeId) (s : List UInt8) (h : Tr EO) (nx : Nat) (k : EV → Tr EO → Nat → β) : β :=
  elemE tab fail dst fun e _ => bif descIs tab isU8 e && descIs tab isStr src then
    writeCells fail (bytesE s) .nil 0 fun c => newB fail h nx (.ro c 1) fun h nx' => k (.slice nx 0 s.length none) h nx'
  else fail
def markE (fl : Nat) (src dst : TypeId) (v : EV) (h : Tr EO) (k : Tr EO → β) : β :=
  elemE tab fail dst fun e _ => bif Nat.beq src dst && descIs tab isU8 e then match v with
    | .slice b _ _ _ => (match h.get b with
      | some (.cells c _ z) => setB fail fl h b (some (.ro c z)) k
      | _ => fail)
    | _ => fail
  else fail
def toStrE (src dst : TypeId) (v : EV) (h : Tr EO) (k : EV → β) : β :=
  elemE tab fail src fun e _ => bif descIs tab isU8 e && descIs tab isStr dst then match v with
    | .slice0 => k (.str [])
    | .slice b off n _ => rdB fail h b fun c => readCells fail c n off fun l => match ofBytesE l with
      | some s => k (.str s)
      | none => fail
    | _ => fail
  else fail
def clearE (fl : Nat) (t : TypeId) (v : EV) (h : Tr EO) (k : Tr EO → β) : β :=
  elemE tab fail t fun _ ei => match v with
    | .slice0 => k h
    | .slice b off n _ => bif Nat.beq n 0 then k h else match h.get b with
      | some (.cells c tot ex) => bif Nat.ble (Nat.add off (Nat.mul n ei.size)) tot && ei.zero.flat then writeCells fail (repCells ei.zero n) c off fun c => setB fail fl h b (some (.cells c tot ex)) k else fail
      | _ => fail
    | _ => fail
def lenS : EV → Option Nat
  | .slice0 => some 0
  | .slice _ _ n _ => some n
  | _ => none
def minN (a b : Nat) : Nat := bif Nat.ble a b then a else b
def copyE (fl : Nat) (t : TypeId) (v x : EV) (h : Tr EO) (k : Nat → Tr EO → β) : β :=
  elemE tab fail t fun _ ei => match lenS v, lenS x with
    | some n, some m => bif Nat.beq (minN m n) 0 then k 0 h else match v, x with
      | .slice b off _ _, .slice b2 off2 _ _ => rdB fail h b2 fun c2 => readCells fail c2 (Nat.mul (minN m n) ei.size) off2 fun l => match h.get b with
        | some (.cells c tot ex) => bif Nat.ble (Nat.add off (Nat.mul (minN m n) ei.size)) tot && l.flat then writeCells fail l c off fun c => setB fail fl h b (some (.cells c tot ex)) (k (minN m n)) else fail
        | _ => fail
      | _, _ => fail
    | _, _ => fail

end
end

/-- how a piece of code ends -/
inductive Ex where
  | normal
  | exit (id : Nat)
  | ret

abbrev CodeFn := ∀ (β : Type) (_fail : β) (_join : β → β → β), Nat → Nat → Code → Fr → Tr EO → Nat → (Ex → Fr → Tr EO → Nat → β) → β

section
variable (tab : Tab) (self : CodeFn) {β : Type} (fail : β) (join : β → β → β)

def resE (T : Fr) (h : Tr EO) : List ResultVar → (EVs → β) → β
  | [], k => k .nil
  | .tmp i :: l, k => evx tab fail T (.tmp i) fun v => resE T h l fun vs => k (.cons v vs)
  | .cell a t :: l, k => evx tab fail T (.tmp a) fun v => loadE tab fail t v h fun v => resE T h l fun vs => k (.cons v vs)

/-- the blocks of deferred calls, taken over: there are none -/
def leaveE (fl : Nat) : List Nat → Tr EO → (Tr EO → β) → β
  | [], h, k => k h
  | b :: D, h, k => match h.get b with
    | some .dfr => setB fail fl h b none fun h => leaveE fl D h k
    | _ => fail

/-- functions that the model answers for -/
def extE (n : Nat) (args : EVs) (k : EV → β) : β :=
  match args with
  | .cons (.int .u64 (.ofNat x)) (.cons (.int .u64 (.ofNat y)) (.cons (.int .u64 (.ofNat c)) .nil)) =>
    bif Nat.ble c 1 then match n with
      | 0 => forceI fail (.ofNat (Nat.mod (Nat.add (Nat.add x y) c) 18446744073709551616)) fun a => forceI fail (.ofNat (Nat.div (Nat.add (Nat.add x y) c) 18446744073709551616)) fun b => k (.tup (.cons (.int .u64 a) (.cons (.int .u64 b) .nil)))
      | 1 => forceI fail (.ofNat (Nat.mod (Nat.sub (Nat.sub (Nat.add x 18446744073709551616) y) c) 18446744073709551616)) fun a => k (.tup (.cons (.int .u64 a) (.cons (.int .u64 (bif Nat.ble (Nat.succ x) (Nat.add y c) then 1 else 0)) .nil)))
      | _ => fail
    else fail
  | _ => fail

/-- a function, called -/
def callE (fl : Nat) (f : Nat) (args : EVs) (h : Tr EO) (nx : Nat) (k : EV → Tr EO → Nat → β) : β :=
  match tab.fn.get f with
  | some fn => match fn.body with
    | some c => bif Nat.ble args.len fn.ntmps then writeCells fail args .nil 0 fun T => self β fail join fn.ntmps fl c ⟨T, [], none⟩ h nx fun e T h nx =>
        match e with
        | .exit _ => fail
        | _ => leaveE fail fl T.D h fun h => resE tab fail T h fn.results.toList fun vs => match vs with
          | .cons v .nil => k v h nx
          | vs => k (.tup vs) h nx
      else fail
    | none => fail
  | none => match tab.ex.get f with
    | some n => extE fail n args fun v => k v h nx
    | none => fail

abbrev Outs := Option (List (EV × Tr EO × Nat))
def joinL (a b : Outs) : Outs := match a with
  | some l => match b with
    | some m => some (l ++ m)
    | none => none
  | none => none
def maxN (a b : Nat) : Nat := bif Nat.ble a b then b else a
def mergeOuts (v : EV) (h : Tr EO) (nx : Nat) : List (EV × Tr EO × Nat) → Option (EV × Tr EO × Nat)
  | [] => some (v, h, nx)
  | o :: l => bif sameE v o.1 then mergeOuts v (meetTr h o.2.1) (maxN nx o.2.2) l else none
/-- a function, called; of some all ways are gone ahead, and what they have in common is taken -/
def callM (fl : Nat) (f : Nat) (args : EVs) (h : Tr EO) (nx : Nat) (k : EV → Tr EO → Nat → β) : β :=
  match tab.mg.get f with
  | none => callE tab self fail join fl f args h nx k
  | some _ => bif Nat.beq fl 0 then match callE tab self (none : Outs) joinL fl f args h nx (fun v h nx => some [(v, h, nx)]) with
      | some (o :: l) => match mergeOuts o.1 o.2.1 o.2.2 l with
        | some r => k r.1 r.2.1 r.2.2
        | none => fail
      | _ => fail
    else fail

/-- the ways of a step over a map -/
def nextE (one : (EV × EV × Nat) → β) : List (EV × EV × Nat) → β
  | [] => fail
  | [e] => one e
  | e :: l => join (one e) (nextE one l)
def inL (n : Nat) : List Nat → Bool
  | [] => false
  | m :: l => bif Nat.beq m n then true else inL n l
def findBorn (n : Nat) : List (EV × EV × Nat) → Option (EV × EV)
  | [] => none
  | e :: l => bif Nat.beq e.2.2 n then some (e.1, e.2.1) else findBorn n l

/-- the loop's words for how its round was left -/
def jumpOf : Ex → Option Code
  | .normal => none
  | .exit i => some (.exit i)
  | .ret => some .ret
def jumpEx : Option Code → Option Ex
  | none => some .normal
  | some (.exit i) => some (.exit i)
  | some .ret => some .ret
  | _ => none
/-- slots filled with arguments -/
def fillT (nt : Nat) : List Nat → EVs → Tr EV → (Tr EV → β) → β
  | [], .nil, T, k => k T
  | p :: ps, .cons v vs, T, k => bif Nat.ble (Nat.succ p) nt then Tr.put fail (some v) 64 T p fun T => fillT nt ps vs T k else fail
  | _, _, _, _ => fail
/-- yield, called: a round of the loop -/
def yieldE (fl : Nat) (b : Nat) (args : EVs) (h : Tr EO) (nx : Nat) (k : EV → Tr EO → Nat → β) : β :=
  match h.get b with
  | some (.loop 0 _ nt T ps as body) => fillT fail nt ps args T fun T =>
    self β fail join nt fl as ⟨T, [], some b⟩ h nx fun e F h nx => match e with
      | .normal => (match h.get b with
        | some (.loop 0 pend nt' T' ps as body') => setB fail fl h b (some (.loop 1 pend nt' T' ps as body')) fun h =>
          self β fail join nt fl body F h nx fun e F h nx => match F.D with
            | [] => (match h.get b with
              | some (.loop _ _ nt T ps as body) => setB fail fl h b (some (.loop (match jumpOf e with | none => 0 | some _ => 2) (jumpOf e) nt T ps as body)) fun h =>
                k (.bool (match jumpOf e with | none => true | some _ => false)) h nx
              | _ => fail)
            | _ => fail
        | _ => fail)
      | _ => fail
  | _ => fail

/-- a range over a function: what is behind its call -/
def endLoopE (fl b : Nat) (h : Tr EO) (k : Ex → Tr EO → β) : β :=
  match h.get b with
  | some (.loop st pend nt T ps as body) => bif Nat.beq st 1 then fail else match jumpEx pend with
    | some e => setB fail fl h b (some (.loop 3 pend nt T ps as body)) fun h => k e h
    | none => fail
  | _ => fail
def rangeE (nt fl : Nat) (g : Operand) (ps : Array Nat) (as body : Code) (T : Fr) (h : Tr EO) (nx : Nat) (k : Ex → Fr → Tr EO → Nat → β) : β :=
  match T.ro with
  | some _ => fail
  | none => evx tab fail T g fun v => match v with
    | .func f first cap => match tab.fn.get f with
      | none => fail
      | some _ => newB fail h nx .dfr fun h nx1 => newB fail h nx1 (.loop 0 none nt T.T ps.toList as body) fun h nx2 =>
      callE tab self fail join fl f ((first.app (.cons (.yld nx1) .nil)).app cap) h nx2 fun _ h nx3 => endLoopE fail fl nx1 h fun e h => k e ⟨T.T, nx :: T.D, none⟩ h nx3
    | _ => fail

def builtinE (fl : Nat) (b : Builtin) (ts : List TypeId) (args : EVs) (h : Tr EO) (nx : Nat) (k : EV → Tr EO → Nat → β) : β :=
  match ts with
  | [] => fail
  | t :: _ => match b with
    | .len => match args with
      | .cons v .nil => match tab.ty.get t with
        | some i => lenE fail v h i.desc fun v => k v h nx
        | none => fail
      | _ => fail
    | .cap => match args with
      | .cons v .nil => match tab.ty.get t with
        | some i => capE fail v i.desc fun v => k v h nx
        | none => fail
      | _ => fail
    | .append => match args, ts with
      | .cons s (.cons x .nil), [_, u] => bif Nat.beq t u then appendE tab fail fl t s x h nx k else fail
      | _, _ => fail
    | .delete => match args with
      | .cons m (.cons key .nil) => deleteE tab fail fl t m key h fun h => k undefE h nx
      | _ => fail
    | .clear => match args with
      | .cons v .nil => clearE tab fail fl t v h fun h => k undefE h nx
      | _ => fail
    | .copy => match args with
      | .cons v (.cons x .nil) => copyE tab fail fl t v x h fun n h => k (.int .i64 (.ofNat n)) h nx
      | _ => fail
    | .max => match args with
      | .cons (.int ki a) (.cons (.int kj b) .nil) => bif ikEq ki kj then k (.int ki (bif ltInt a b then b else a)) h nx else fail
      | _ => fail
    | .min => match args with
      | .cons (.int ki a) (.cons (.int kj b) .nil) => bif ikEq ki kj then k (.int ki (bif ltInt b a then b else a)) h nx else fail
      | _ => fail
    | _ => fail

def evOpt (T : Fr) (o : Option Operand) (k : Option EV → β) : β :=
  match o with
  | none => k none
  | some x => evx tab fail T x fun v => k (some v)

/-- an operation -/
def evOp (fl : Nat) (o : Oper) (T : Fr) (h : Tr EO) (nx : Nat) (k : EV → Tr EO → Nat → β) : β :=
  match o.op with
  | .move a => evx tab fail T a fun v => k v h nx
  | .assign a => evx tab fail T a fun v => k v h nx
  | .pick c a b => evx tab fail T c fun c => match c with
    | .bool c => evx tab fail T a fun a => evx tab fail T b fun b => k (bif c then a else b) h nx
    | _ => fail
  | .alloc e => allocE tab fail e h nx k
  | .box _ a => evx tab fail T a fun v => boxE fail v h nx k
  | .build t ps => evParts tab fail T ps.toList fun ps => buildE tab fail t ps fun v => k v h nx
  | .buildSlice t len ps => evParts tab fail T ps.toList fun ps => buildSliceE tab fail t len ps h nx k
  | .load t a => evx tab fail T a fun v => loadE tab fail t v h fun v => k v h nx
  | .store t a y => evx tab fail T a fun v => evx tab fail T y fun y => storeE tab fail fl t v y h fun h => k undefE h nx
  | .nilCheck a => evx tab fail T a fun v => nilCheckE fail v fun v => k v h nx
  | .binOp op t a b _ => evx tab fail T a fun x => evx tab fail T b fun y => binO tab fail op t a b x y fun v => k v h nx
  | .unOp op _ a => evx tab fail T a fun a => unE fail op a fun v => k v h nx
  | .convert src dst a => evx tab fail T a fun v => bif cvB tab (.convert src dst a) then (match v with
      | .str s => toBytesE tab fail src dst s h nx k
      | v => markE tab fail fl src dst v h fun h => k v h nx)
    else (match v with
      | .slice0 => toStrE tab fail src dst v h fun v => k v h nx
      | .slice .. => toStrE tab fail src dst v h fun v => k v h nx
      | _ => convE tab fail src dst v fun v => k v h nx)
  | .makeFunc fn first cap => match fn with
    | .func f => evxs tab fail T first.toList fun a => evxs tab fail T cap.toList fun b => k (.func f a b) h nx
    | _ => fail
  | .makeMap _ r => match r with
    | none => newB fail h nx (.map [] 0) fun h nx' => k (.map nx) h nx'
    | some _ => fail
  | .makeSlice t l c => evx tab fail T l fun l => evx tab fail T c fun c => makeSliceE tab fail t l c h nx k
  | .slice t a lo hi mx => evx tab fail T a fun v => evOpt tab fail T lo fun lo => evOpt tab fail T hi fun hi => evOpt tab fail T mx fun mx => sliceE tab fail t v lo hi mx h fun v => k v h nx
  | .fieldAddr s a f => evx tab fail T a fun v => fieldAddrE tab fail s v f fun v => k v h nx
  | .field s a f => evx tab fail T a fun v => fieldE tab fail s v f fun v => k v h nx
  | .indexAddr t a i => evx tab fail T a fun v => evx tab fail T i fun i => indexAddrE tab fail t v i fun v => k v h nx
  | .index t a i => evx tab fail T a fun v => evx tab fail T i fun i => indexE tab fail t v i fun v => k v h nx
  | .lookup t a i ok => evx tab fail T a fun v => evx tab fail T i fun i => lookupE tab fail t v i ok h fun v => k v h nx
  | .mapUpdate t m i y => evx tab fail T m fun m => evx tab fail T i fun i => evx tab fail T y fun y => mapUpdateE tab fail fl t m i y h fun h => k undefE h nx
  | .insert t m i y => evx tab fail T m fun m => evx tab fail T i fun i => evx tab fail T y fun y => mapUpdateE tab fail fl t m i y h fun h => k undefE h nx
  | .extract a i => evx tab fail T a fun v => extractE fail v i fun v => k v h nx
  | .range t a => evx tab fail T a fun v => mapT tab fail t fun _ _ _ => match v with
    | .map0 => newB fail h nx (.mit none 0 [] 0) fun h nx' => k (.ptr nx 0) h nx'
    | .map b => (match h.get b with
      | some (.map _ clock) => newB fail h nx (.mit (some b) clock [] clock) fun h nx' => k (.ptr nx 0) h nx'
      | _ => fail)
    | _ => fail
  | .next a s => bif s then fail else evx tab fail T a fun v => match v with
    | .ptr r 0 => (match h.get r with
      | some (.mit none _ _ _) => k (.tup (.cons (.bool false) .nil)) h nx
      | some (.mit (some m) since seen last) => (match h.get m with
        | some (.map es clock) => bif es.all (fun e => Nat.blt e.2.2 since) && Nat.ble since last then
            match es.filter (fun e => not (inL e.2.2 seen)) with
            | [] => k (.tup (.cons (.bool false) .nil)) h nx
            | e :: l => nextE fail join (fun e => setB fail fl h r (some (.mit (some m) since (seen ++ [e.2.2]) clock)) fun h => k (.tup (.cons (.bool true) (.cons e.1 (.cons e.2.1 .nil)))) h nx) (e :: l)
          else fail
        | _ => fail)
      | _ => fail)
    | _ => fail
  | .entry a => evx tab fail T a fun v => match v with
    | .ptr r 0 => (match h.get r with
      | some (.mit (some m) _ seen last) => (match h.get m with
        | some (.map es clock) => bif Nat.beq clock last then match seen.getLast? with
            | some n => match findBorn n es with
              | some e => k (.tup (.cons e.1 (.cons e.2 .nil))) h nx
              | none => fail
            | none => fail
          else fail
        | _ => fail)
      | _ => fail)
    | _ => fail
  | .call c => match c.callee with
    | .builtin b => evxs tab fail T c.args.toList fun args => builtinE tab fail fl b c.argTypes.toList args h nx k
    | .value f => evx tab fail T f fun f => evxs tab fail T c.args.toList fun args => match f with
      | .func f first cap => callM tab self fail join fl f ((first.app args).app cap) h nx k
      | .yld b => yieldE self fail join fl b args h nx k
      | _ => fail
    | _ => fail
  | _ => fail

def wantedE (ops : Array Oper) (T : Fr) (o : Oper) : Option Bool :=
  match o.guard with
  | none => some true
  | some (j, want) => match (match ops[j]? with | some p => p.dst | none => none) with
    | some d => match T.get d with
      | some (.bool b) => some (b == want)
      | some (.tup .nil) => some false
      | none => some false
      | _ => none
    | none => some false

def putD (nt : Nat) (d : Option Nat) (v : EV) (T : Fr) (k : Fr → β) : β :=
  match d with
  | some d => bif Nat.ble (Nat.succ d) nt then Tr.put fail (some v) 64 T.T d fun t => k ⟨t, T.D, T.ro⟩ else fail
  | none => k T

/-- operations in the order of the text -/
def evOps (nt fl : Nat) (ops : Array Oper) : List Oper → Fr → Tr EO → Nat → (Fr → Tr EO → Nat → β) → β
  | [], T, h, nx, k => k T h nx
  | o :: l, T, h, nx, k => match wantedE ops T o with
    | some true => evOp tab self fail join fl o T h nx fun v h nx => putD fail nt o.dst v T fun T => evOps nt fl ops l T h nx k
    | some false => putD fail nt o.dst undefE T fun T => evOps nt fl ops l T h nx k
    | none => fail

end
end Go.Proofs.YtmlkfgoiakcnhaaGreatDoor
