/- An abstract run of Go code, sound (1). -/
import Derived.WalkKit
import Derived.Below
import Derived.Laws.Rows
import Derived.Laws.StructEq
namespace Go.Proofs.YtendekbckfpmgaaGreat
open Go
inductive Tr (α : Type) where
 | nil
 | node (l : Tr α) (x : Option α) (r : Tr α)
def Tr.get {α : Type} : Tr α → Nat → Option α
 | .nil, _ => none
 | .node l x r, n => bif Nat.beq n 0 then x else bif Nat.beq (Nat.mod n 2) 1 then l.get (Nat.div n 2) else r.get (Nat.sub (Nat.div n 2) 1)
def Tr.put {α β : Type} (fail : β) (v : Option α) : Nat → Tr α → Nat → (Tr α → β) → β
 | 0, _, _, _ => fail
 | f + 1, .nil, n, k => bif Nat.beq n 0 then k (.node .nil v .nil) else
  bif Nat.beq (Nat.mod n 2) 1 then Tr.put fail v f .nil (Nat.div n 2) (fun l => k (.node l none .nil)) else Tr.put fail v f .nil (Nat.sub (Nat.div n 2) 1) (fun r => k (.node .nil none r))
 | f + 1, .node l x r, n, k => bif Nat.beq n 0 then k (.node l v r) else
  bif Nat.beq (Nat.mod n 2) 1 then Tr.put fail v f l (Nat.div n 2) (fun l => k (.node l x r)) else Tr.put fail v f r (Nat.sub (Nat.div n 2) 1) (fun r => k (.node l x r))
mutual
/-- a value: known, or unknown of a kind; 'cap' none: to the end of the block -/
inductive EV where
 | bool (b : Bool)
 | int (k : IntKind) (n : Int)
 | str (s : List UInt8)
 | ptr0
 | ptr (b off : Nat)
 | slice0
 | slice (b off len : Nat) (cap : Option Nat)
 | map0
 | map (b : Nat)
 | func0
 | func (f : Nat) (first captured : EVs)
 | iface0
 | iface (t : Nat) (v : EV)
 | agg (l : EVs)
 | tup (l : EVs)
 | unkB
 | unkI (k : IntKind)
 | unkS
 | unkL
 | unkV
 | rng (k : IntKind) (lo hi : Int)
 | yld (b : Nat)
inductive EVs where
 | nil
 | cons (v : EV) (l : EVs)
end
instance : Inhabited EV := ⟨.unkV⟩
def undefE : EV := .tup .nil
def EVs.toL : EVs → List EV
 | .nil => []
 | .cons v l => v :: l.toL
def EVs.app : EVs → EVs → EVs
 | .nil, m => m
 | .cons v l, m => .cons v (l.app m)
def EVs.get : EVs → Nat → Option EV
 | .nil, _ => none
 | .cons v l, n => bif Nat.beq n 0 then some v else l.get (Nat.sub n 1)
def EVs.len : EVs → Nat
 | .nil => 0
 | .cons _ l => Nat.succ l.len
def EVs.take : EVs → Nat → EVs
 | .nil, _ => .nil
 | .cons v l, n => bif Nat.beq n 0 then .nil else .cons v (l.take (Nat.sub n 1))
def EVs.drop : EVs → Nat → EVs
 | .nil, _ => .nil
 | .cons v l, n => bif Nat.beq n 0 then .cons v l else l.drop (Nat.sub n 1)
def EV.cells : EV → EVs
 | .agg l => l
 | v => .cons v .nil
def EV.flat : EV → Bool
 | .agg _ => false
 | .tup _ => false
 | _ => true
def EVs.flat : EVs → Bool
 | .nil => true
 | .cons v l => bif v.flat then l.flat else false
inductive EO where
 | cells (c : Tr EV) (n z : Nat)
 | ro (c : Tr EV) (z : Nat)
 | map (l : List (EV × EV × Nat)) (clock : Nat)
 | loop (st : Nat) (pend : Option Code) (nt : Nat) (T : Tr EV) (ps : List Nat) (aw body : Code)
 | dfr
 | mit (m : Option Nat) (since : Nat) (seen : List Nat) (last : Nat)
structure Fr where
 T : Tr EV
 D : List Nat
 ro : Option Nat
def Fr.get (F : Fr) (i : Nat) : Option EV := F.T.get i
structure TyE where
 desc : TypeDesc
 size : Nat
 bytes : Nat
 agg : Bool
 eqg : Bool
 held : Bool
 zero : EVs
structure Tab where
 ty : Tr TyE
 fn : Tr Func
 gl : Tr Nat
 ex : Tr Nat
 mg : Tr Nat
def TyE.zv (i : TyE) : EV := bif i.agg then .agg i.zero else match i.zero with
 | .cons v _ => v
 | .nil => undefE
def ikN : IntKind → Nat
 | .i8 => 0
 | .i16 => 1
 | .i32 => 2
 | .i64 => 3
 | .u8 => 4
 | .u16 => 5
 | .u32 => 6
 | .u64 => 7
def ikEq (a b : IntKind) : Bool := Nat.beq (ikN a) (ikN b)
def ofVal : Value → Option EV
 | .bool b => some (.bool b)
 | .int k n => some (.int k n)
 | .string s => some (.str s.data.toList)
 | .pointer none => some .ptr0
 | .slice none n c => bif Nat.beq n 0 && Nat.beq c 0 then some .slice0 else none
 | .map none => some .map0
 | .nilFunc => some .func0
 | .nilIface => some .iface0
 | .tuple l => match l.toList with
  | [] => some undefE
  | _ => none
 | _ => none
def eqBytes : List UInt8 → List UInt8 → Bool
 | [], [] => true
 | a :: l, b :: m => bif Nat.beq a.toNat b.toNat then eqBytes l m else false
 | _, _ => false
def ltBytes : List UInt8 → List UInt8 → Bool
 | _, [] => false
 | [], _ :: _ => true
 | a :: l, b :: m => bif Nat.blt a.toNat b.toNat then true else bif Nat.beq a.toNat b.toNat then ltBytes l m else false
def eqInt : Int → Int → Bool
 | .ofNat a, .ofNat b => Nat.beq a b
 | .negSucc a, .negSucc b => Nat.beq a b
 | _, _ => false
def ltInt : Int → Int → Bool
 | .ofNat a, .ofNat b => Nat.blt a b
 | .negSucc a, .negSucc b => Nat.blt b a
 | .negSucc _, .ofNat _ => true
 | .ofNat _, .negSucc _ => false
def optNEq : Option Nat → Option Nat → Bool
 | none, none => true
 | some a, some b => Nat.beq a b
 | _, _ => false
mutual
/-- one and the same -/
def sameE : EV → EV → Bool
 | .bool a, .bool b => a == b
 | .int k a, .int j b => ikEq k j && eqInt a b
 | .str a, .str b => eqBytes a b
 | .ptr0, .ptr0 => true
 | .ptr a x, .ptr b y => Nat.beq a b && Nat.beq x y
 | .slice0, .slice0 => true
 | .slice a x n c, .slice b y m d => Nat.beq a b && Nat.beq x y && Nat.beq n m && optNEq c d
 | .map0, .map0 => true
 | .map a, .map b => Nat.beq a b
 | .func0, .func0 => true
 | .func f a b, .func g c d => Nat.beq f g && sameEs a c && sameEs b d
 | .iface0, .iface0 => true
 | .iface t a, .iface u b => Nat.beq t u && sameE a b
 | .agg a, .agg b => sameEs a b
 | .tup a, .tup b => sameEs a b
 | .unkB, .unkB => true
 | .unkI k, .unkI j => ikEq k j
 | .unkS, .unkS => true
 | .unkL, .unkL => true
 | .unkV, .unkV => true
 | .rng k a b, .rng j c d => ikEq k j && eqInt a c && eqInt b d
 | .yld a, .yld b => Nat.beq a b
 | _, _ => false
def sameEs : EVs → EVs → Bool
 | .nil, .nil => true
 | .cons a l, .cons b m => sameE a b && sameEs l m
 | _, _ => false
end
def optE : Option EV → Option EV → Bool
 | none, none => true
 | some a, some b => sameE a b
 | _, _ => false
def sameTr : Tr EV → Tr EV → Bool
 | .nil, .nil => true
 | .node l x r, .node l' x' r' => sameTr l l' && optE x x' && sameTr r r'
 | _, _ => false
def sameEnts : List (EV × EV × Nat) → List (EV × EV × Nat) → Bool
 | [], [] => true
 | a :: l, b :: m => sameE a.1 b.1 && sameE a.2.1 b.2.1 && Nat.beq a.2.2 b.2.2 && sameEnts l m
 | _, _ => false
def sameO : EO → EO → Bool
 | .cells c n z, .cells d m y => sameTr c d && Nat.beq n m && Nat.beq z y
 | .ro c z, .ro d y => sameTr c d && Nat.beq z y
 | .map l a, .map m b => sameEnts l m && Nat.beq a b
 | .dfr, .dfr => true
 | _, _ => false
def meetTr : Tr EO → Tr EO → Tr EO
 | .node l x r, .node l' x' r' => .node (meetTr l l') (match x with
  | some a => match x' with
   | some b => bif sameO a b then some a else none
   | none => none
  | none => none) (meetTr r r')
 | _, _ => .nil
section
variable (tab : Tab)
def partE (t : TypeId) (l : EVs) (off : Nat) : Option EV :=
 match tab.ty.get t with
 | some i => bif i.agg then some (.agg ((l.drop off).take i.size)) else l.get off
 | none => none
def eqFs (eq : TypeId → EV → EV → Option Bool) (a b : EVs) : List Field → Option Bool
 | [] => some true
 | f :: r => match partE tab f.type a f.offset with
  | some u => match partE tab f.type b f.offset with
   | some v => match eq f.type u v with
    | some true => eqFs eq a b r
    | some false => some false
    | none => none
   | none => none
  | none => none
def eqT : Nat → TypeId → EV → EV → Option Bool
 | 0, _, _, _ => none
 | d + 1, t, x, y => match tab.ty.get t with
  | none => none
  | some i => match i.desc with
   | .bool => match x, y with
    | .bool a, .bool b => some (a == b)
    | _, _ => none
   | .int _ => match x, y with
    | .int k a, .int k' b => bif ikEq k k' then some (eqInt a b) else none
    | _, _ => none
   | .string => match x, y with
    | .str a, .str b => some (eqBytes a b)
    | _, _ => none
   | .pointer _ => match x, y with
    | .ptr0, .ptr0 => some true
    | .ptr0, .ptr _ _ => some false
    | .ptr _ _, .ptr0 => some false
    | _, _ => none
   | .slice _ => match x, y with
    | .slice0, .slice0 => some true
    | .slice0, .slice .. => some false
    | .slice .., .slice0 => some false
    | _, _ => none
   | .map _ _ => match x, y with
    | .map0, .map0 => some true
    | .map0, .map _ => some false
    | .map _, .map0 => some false
    | _, _ => none
   | .func _ _ _ => match x, y with
    | .func0, .func0 => some true
    | .func0, .func .. => some false
    | .func .., .func0 => some false
    | _, _ => none
   | .interface _ => match x, y with
    | .iface _ _, .iface0 => some false
    | _, _ => none
   | .struct fs => match x, y with
    | .agg a, .agg b => bif i.held then none else eqFs tab (eqT d) a b fs.toList
    | _, _ => none
   | _ => none
section
variable {β : Type} (fail : β)
def evx (T : Fr) (x : Operand) (k : EV → β) : β :=
 match x with
 | .tmp i => match T.get i with
  | some v => k v
  | none => k undefE
 | .const v => match ofVal v with
  | some e => k e
  | none => fail
 | .global g => match tab.gl.get g with
  | some id => k (.ptr id 0)
  | none => fail
 | .func f => k (.func f .nil .nil)
def evxs (T : Fr) : List Operand → (EVs → β) → β
 | [], k => k .nil
 | x :: l, k => evx tab fail T x fun v => evxs T l fun vs => k (.cons v vs)
def forceI (n : Int) (k : Int → β) : β :=
 match n with
 | .ofNat m => bif Nat.beq m m then k (.ofNat m) else fail
 | .negSucc m => bif Nat.beq m m then k (.negSucc m) else fail
def readCells (c : Tr EV) : Nat → Nat → (EVs → β) → β
 | 0, _, k => k .nil
 | n + 1, off, k => match c.get off with
  | some v => readCells c n (Nat.succ off) fun vs => k (.cons v vs)
  | none => fail
def writeCells : EVs → Tr EV → Nat → (Tr EV → β) → β
 | .nil, c, _, k => k c
 | .cons v l, c, off, k => Tr.put fail (some v) 64 c off fun c => writeCells l c (Nat.succ off) k
def repCells (z : EVs) : Nat → EVs
 | 0 => .nil
 | n + 1 => z.app (repCells z n)
def binI (op : BinOp) (ki : IntKind) (a : Int) (b : Int) (k : EV → β) : β :=
 match op with
 | .add => forceI fail (ki.wrap (a + b)) fun n => k (.int ki n)
 | .sub => forceI fail (ki.wrap (a - b)) fun n => k (.int ki n)
 | .mul => forceI fail (ki.wrap (a * b)) fun n => k (.int ki n)
 | .eql => k (.bool (eqInt a b))
 | .neq => k (.bool (not (eqInt a b)))
 | .lss => k (.bool (ltInt a b))
 | .leq => k (.bool (not (ltInt b a)))
 | .gtr => k (.bool (ltInt b a))
 | .geq => k (.bool (not (ltInt a b)))
 | .quo => bif eqInt b 0 then fail else forceI fail (ki.wrap (a.tdiv b)) fun n => k (.int ki n)
 | .rem => bif eqInt b 0 then fail else forceI fail (a.tmod b) fun n => k (.int ki n)
 | .and => forceI fail (ki.wrap ((BitVec.ofInt ki.bits a &&& BitVec.ofInt ki.bits b).toNat : Nat)) fun n => k (.int ki n)
 | .or => forceI fail (ki.wrap ((BitVec.ofInt ki.bits a ||| BitVec.ofInt ki.bits b).toNat : Nat)) fun n => k (.int ki n)
 | .xor => forceI fail (ki.wrap ((BitVec.ofInt ki.bits a ^^^ BitVec.ofInt ki.bits b).toNat : Nat)) fun n => k (.int ki n)
 | _ => fail
def binShift (op : BinOp) (ki : IntKind) (a : Int) (b : Int) (k : EV → β) : β :=
 bif ltInt b 0 then fail else
 match op with
 | .shl => forceI fail (ki.wrap (a * 2 ^ (min b.toNat ki.bits))) fun n => k (.int ki n)
 | .shr => forceI fail (a.fdiv (2 ^ (min b.toNat ki.bits))) fun n => k (.int ki n)
 | _ => fail
def isShift : BinOp → Bool
 | .shl => true
 | .shr => true
 | _ => false
def isCmp : BinOp → Bool
 | .eql => true
 | .neq => true
 | .lss => true
 | .leq => true
 | .gtr => true
 | .geq => true
 | _ => false
def binS (op : BinOp) (a b : List UInt8) (k : EV → β) : β :=
 match op with
 | .add => bif Nat.ble (Nat.add a.length b.length) 9223372036854775807 then k (.str (a ++ b)) else fail
 | .eql => k (.bool (eqBytes a b))
 | .neq => k (.bool (not (eqBytes a b)))
 | .lss => k (.bool (ltBytes a b))
 | .leq => k (.bool (ltBytes a b || eqBytes a b))
 | .gtr => k (.bool (not (ltBytes a b || eqBytes a b)))
 | .geq => k (.bool (not (ltBytes a b)))
 | _ => fail
def unkOr (c : Bool) (k : EV → β) : β := bif c then k .unkB else fail
def ltO : Option Int → Option Int → Bool
 | some a, some b => ltInt a b
 | _, _ => false
def leO : Option Int → Option Int → Bool
 | some a, some b => not (ltInt b a)
 | _, _ => false
def cmpR (op : BinOp) (ki kj : IntKind) (a b c d : Option Int) (k : EV → β) : β :=
 bif ikEq ki kj then match op with
  | .lss => bif ltO b c then k (.bool true) else bif leO d a then k (.bool false) else k .unkB
  | .leq => bif leO b c then k (.bool true) else bif ltO d a then k (.bool false) else k .unkB
  | .gtr => bif ltO d a then k (.bool true) else bif leO b c then k (.bool false) else k .unkB
  | .geq => bif leO d a then k (.bool true) else bif ltO b c then k (.bool false) else k .unkB
  | .eql => bif ltO b c || ltO d a then k (.bool false) else k .unkB
  | .neq => bif ltO b c || ltO d a then k (.bool true) else k .unkB
  | .add => k (.unkI ki)
  | .sub => k (.unkI ki)
  | .mul => k (.unkI ki)
  | _ => fail
 else fail
def isAggE : EV → Bool
 | .agg _ => true
 | _ => false
def eqgOf (t : TypeId) : Bool := match tab.ty.get t with
 | some i => i.eqg
 | none => true
def binG (op : BinOp) (t : TypeId) (x y : EV) (k : EV → β) : β :=
 bif isAggE x && eqgOf tab t then fail else match op with
  | .eql => match eqT tab 20 t x y with
   | some b => k (.bool b)
   | none => fail
  | .neq => match eqT tab 20 t x y with
   | some b => k (.bool (not b))
   | none => fail
  | _ => fail
def binE (op : BinOp) (t : TypeId) (x y : EV) (k : EV → β) : β :=
 match x with
 | .int ki a => match y with
  | .int kj b => bif isShift op then binShift fail op ki a b k else bif ikEq ki kj then binI fail op ki a b k else fail
  | .unkI kj => cmpR fail op ki kj (some a) (some a) none none k
  | .rng kj c d => cmpR fail op ki kj (some a) (some a) (some c) (some d) k
  | _ => fail
 | .unkI ki => match y with
  | .int kj b => cmpR fail op ki kj none none (some b) (some b) k
  | .unkI kj => cmpR fail op ki kj none none none none k
  | .rng kj c d => cmpR fail op ki kj none none (some c) (some d) k
  | _ => fail
 | .rng ki a b => match y with
  | .int kj c => cmpR fail op ki kj (some a) (some b) (some c) (some c) k
  | .unkI kj => cmpR fail op ki kj (some a) (some b) none none k
  | .rng kj c d => cmpR fail op ki kj (some a) (some b) (some c) (some d) k
  | _ => fail
 | .str a => match y with
  | .str b => binS fail op a b k
  | .unkS => unkOr fail (isCmp op) k
  | _ => fail
 | .unkS => match y with
  | .str _ => unkOr fail (isCmp op) k
  | .unkS => unkOr fail (isCmp op) k
  | _ => fail
 | .iface0 => fail
 | .unkV => fail
 | x => binG tab fail op t x y k
def isCst : Operand → Bool
 | .const _ => true
 | _ => false
def binO (op : BinOp) (t : TypeId) (xo yo : Operand) (x y : EV) (k : EV → β) : β :=
 match x, y with
 | .iface0, .iface0 => match tab.ty.get t with
  | some i => match i.desc with
   | .interface _ => bif isCst xo || isCst yo then (match op with
    | .eql => k (.bool true)
    | .neq => k (.bool false)
    | _ => fail) else fail
   | _ => fail
  | none => fail
 | x, y => binE tab fail op t x y k
def overE : EVs → EVs → EVs
 | .cons v l, .cons _ m => .cons v (overE l m)
 | _, m => m
def fillE (place : Nat → Option (Nat × Nat)) (c : EVs) : List (Nat × EV) → (EVs → β) → β
 | [], k => k c
 | (i, v) :: r, k => match place i with
  | some (off, size) => bif Nat.beq v.cells.len size && Nat.ble (Nat.add off size) c.len then fillE place ((c.take off).app (overE v.cells (c.drop off))) r k else fail
  | none => fail
def evParts (T : Fr) : List (Nat × Operand) → (List (Nat × EV) → β) → β
 | [], k => k []
 | (i, x) :: l, k => evx tab fail T x fun v => evParts T l fun vs => k ((i, v) :: vs)
def newB (h : Tr EO) (nx : Nat) (o : EO) (k : Tr EO → Nat → β) : β := Tr.put fail (some o) 64 h nx fun h => k h (Nat.succ nx)
def setB (fl : Nat) (h : Tr EO) (b : Nat) (o : Option EO) (k : Tr EO → β) : β := bif Nat.ble fl b then Tr.put fail o 64 h b k else fail
def newCells (h : Tr EO) (nx : Nat) (l : EVs) (z : Nat) (k : Tr EO → Nat → β) : β :=
 writeCells fail l .nil 0 fun c => newB fail h nx (.cells c l.len z) k
def findE (kt : TypeId) (key : EV) : List (EV × EV × Nat) → Option (Option EV)
 | [] => some none
 | (a, v, _) :: l => match eqT tab 20 kt key a with
  | some true => some (some v)
  | some false => findE kt key l
  | none => none
mutual
/-- one and the same, and known -/
def sameEV : EV → EV → Bool
 | .bool a, .bool b => a == b
 | .int k a, .int j b => ikEq k j && eqInt a b
 | .str a, .str b => eqBytes a b
 | .agg a, .agg b => sameEVs a b
 | _, _ => false
def sameEVs : EVs → EVs → Bool
 | .nil, .nil => true
 | .cons a l, .cons b m => sameEV a b && sameEVs l m
 | _, _ => false
end
def updE (kt : TypeId) (key v : EV) (clock : Nat) : List (EV × EV × Nat) → Option (List (EV × EV × Nat) × Nat)
 | [] => some ([(key, v, clock)], Nat.succ clock)
 | (a, u, b) :: l => match eqT tab 20 kt key a with
  | some true => bif sameEV key a then some ((key, v, b) :: l, clock) else none
  | some false => match updE kt key v clock l with
   | some (m, c) => some ((a, u, b) :: m, c)
   | none => none
  | none => none
def delE (kt : TypeId) (key : EV) : List (EV × EV × Nat) → Option (List (EV × EV × Nat))
 | [] => some []
 | (a, u, b) :: l => match eqT tab 20 kt key a with
  | some true => some l
  | some false => match delE kt key l with
   | some m => some ((a, u, b) :: m)
   | none => none
  | none => none
def keyFs (key : TypeId → EV → Bool) (a : EVs) : List Field → Bool
 | [] => true
 | f :: r => match partE tab f.type a f.offset with
  | some u => bif key f.type u then keyFs key a r else false
  | none => false
def keyT : Nat → TypeId → EV → Bool
 | 0, _, _ => false
 | d + 1, t, x => match tab.ty.get t with
  | none => false
  | some i => match i.desc with
   | .bool => true
   | .int _ => true
   | .string => true
   | .struct fs => match x with
    | .agg a => bif i.held then false else keyFs tab (keyT d) a fs.toList
    | _ => false
   | _ => false
def rdB (h : Tr EO) (b : Nat) (k : Tr EV → β) : β :=
 match h.get b with
 | some o => match o with
  | .cells c _ _ => k c
  | .ro c _ => k c
  | _ => fail
 | none => fail
def loadE (t : TypeId) (v : EV) (h : Tr EO) (k : EV → β) : β :=
 match v with
 | .ptr b off => rdB fail h b fun c => match tab.ty.get t with
  | some i => bif i.agg then readCells fail c i.size off fun l => k (.agg l) else match c.get off with
   | some v => k v
   | none => fail
  | none => fail
 | _ => fail
def storeE (fl : Nat) (t : TypeId) (v y : EV) (h : Tr EO) (k : Tr EO → β) : β :=
 match v with
 | .ptr b off => match h.get b with
  | some (.cells c m ex) => match tab.ty.get t with
   | some i => bif Nat.beq i.size y.cells.len && Nat.ble (Nat.add off i.size) m && y.cells.flat then writeCells fail y.cells c off fun c => setB fail fl h b (some (.cells c m ex)) k else fail
   | none => fail
  | _ => fail
 | _ => fail
def allocE (e : TypeId) (h : Tr EO) (nx : Nat) (k : EV → Tr EO → Nat → β) : β :=
 match tab.ty.get e with
 | some i => newCells fail h nx i.zero 0 fun h nx' => k (.ptr nx 0) h nx'
 | none => fail
def boxE (v : EV) (h : Tr EO) (nx : Nat) (k : EV → Tr EO → Nat → β) : β :=
 newCells fail h nx v.cells 0 fun h nx' => k (.ptr nx 0) h nx'
def buildE (t : TypeId) (ps : List (Nat × EV)) (k : EV → β) : β :=
 match tab.ty.get t with
 | some i => match i.desc with
  | .struct fs => fillE fail (fun j => match fs[j]? with
   | some f => match tab.ty.get f.type with
    | some fi => some (f.offset, fi.size)
    | none => none
   | none => none) i.zero ps fun c => k (.agg c)
  | .array _ e => match tab.ty.get e with
   | some ei => fillE fail (fun j => some (Nat.mul j ei.size, ei.size)) i.zero ps fun c => k (.agg c)
   | none => fail
  | _ => fail
 | none => fail
def elemE (t : TypeId) (k : TypeId → TyE → β) : β :=
 match tab.ty.get t with
 | some i => match i.desc with
  | .slice e => match tab.ty.get e with
   | some ei => k e ei
   | none => fail
  | _ => fail
 | none => fail
def buildSliceE (t : TypeId) (len : Nat) (ps : List (Nat × EV)) (h : Tr EO) (nx : Nat) (k : EV → Tr EO → Nat → β) : β :=
 elemE tab fail t fun _ ei => bif Nat.ble (Nat.mul len ei.size) 16777216 then
  fillE fail (fun j => some (Nat.mul j ei.size, ei.size)) (repCells ei.zero len) ps fun c => newCells fail h nx c 0 fun h nx' => k (.slice nx 0 len (some len)) h nx' else fail
def makeSliceE (t : TypeId) (l c : EV) (h : Tr EO) (nx : Nat) (k : EV → Tr EO → Nat → β) : β :=
 match l, c with
 | .int _ (.ofNat l), .int _ (.ofNat c) => elemE tab fail t fun _ ei => bif Nat.ble l c && Nat.ble (Nat.mul ei.bytes c) 281474976710656 && Nat.ble c 4611686018427387904 then
  newCells fail h nx (repCells ei.zero c) 0 fun h nx' => k (.slice nx 0 l (some c)) h nx' else fail
 | _, _ => fail
def optN (o : Option EV) (d : Nat) (k : Nat → β) : β :=
 match o with
 | none => k d
 | some v => match v with
  | .int _ (.ofNat n) => k n
  | _ => fail
def zB (h : Tr EO) (b : Nat) : Nat :=
 match h.get b with
 | some o => match o with
  | .cells _ _ z => z
  | .ro _ z => z
  | _ => 0
 | none => 0
def sliceE (t : TypeId) (v : EV) (lo hi mx : Option EV) (h : Tr EO) (k : EV → β) : β :=
 match v with
 | .str s => match mx, (match tab.ty.get t with | some i => (match i.desc with | .string => true | _ => false) | none => false) with
  | none, true => optN fail lo 0 fun l => optN fail hi s.length fun r => bif Nat.ble l r && Nat.ble r s.length then k (.str ((s.take r).drop l)) else fail
  | _, _ => fail
 | .slice0 => elemE tab fail t fun _ _ => match mx with
  | none => optN fail lo 0 fun l => optN fail hi 0 fun r => bif Nat.beq l 0 && Nat.beq r 0 then k .slice0 else fail
  | _ => fail
 | .slice b off n cap => elemE tab fail t fun _ ei => match mx with
  | some m => match cap, hi with
   | some q, some hi => optN fail (some m) 0 fun m => optN fail lo 0 fun l => optN fail (some hi) n fun r =>
    bif Nat.ble l r && Nat.ble r m && Nat.ble m q then k (.slice b (bif Nat.beq l m then off else Nat.add off (Nat.mul l ei.size)) (Nat.sub r l) (some (Nat.sub m l))) else fail
   | none, some hi => optN fail (some m) 0 fun m => optN fail lo 0 fun l => optN fail (some hi) n fun r =>
    bif Nat.ble l r && Nat.ble r m && Nat.ble m n then k (.slice b (bif Nat.beq l m then off else Nat.add off (Nat.mul l ei.size)) (Nat.sub r l) (some (Nat.sub m l))) else fail
   | _, none => fail
  | none => optN fail lo 0 fun l => optN fail hi n fun r => match cap with
   | some q => bif Nat.ble l r && Nat.ble r q then k (.slice b (bif Nat.beq l q then off else Nat.add off (Nat.mul l ei.size)) (Nat.sub r l) (some (Nat.sub q l))) else fail
   | none => bif Nat.ble l r && Nat.ble r n && ((Nat.ble (Nat.succ l) n && Nat.beq (zB h b) ei.size && Nat.ble 1 ei.size) || Nat.beq l 0) then k (.slice b (Nat.add off (Nat.mul l ei.size)) (Nat.sub r l) none) else fail
 | _ => fail
def fieldAddrE (s : TypeId) (v : EV) (f : Nat) (k : EV → β) : β :=
 match v with
 | .ptr b off => match tab.ty.get s with
  | some i => match i.desc with
   | .struct fs => match fs[f]? with
    | some fd => match tab.ty.get fd.type with
     | some fi => bif Nat.beq fi.size 0 then fail else k (.ptr b (Nat.add off fd.offset))
     | none => fail
    | none => fail
   | _ => fail
  | none => fail
 | _ => fail
def fieldE (s : TypeId) (v : EV) (f : Nat) (k : EV → β) : β :=
 match v with
 | .agg l => match tab.ty.get s with
  | some i => match i.desc with
   | .struct fs => match fs[f]? with
    | some fd => match partE tab fd.type l fd.offset with
     | some v => k v
     | none => fail
    | none => fail
   | _ => fail
  | none => fail
 | _ => fail
def indexAddrE (t : TypeId) (v i : EV) (k : EV → β) : β :=
 match i with
 | .int _ (.ofNat i) => match v with
  | .slice b off n _ => elemE tab fail t fun _ ei => bif Nat.ble (Nat.succ i) n then k (.ptr b (Nat.add off (Nat.mul i ei.size))) else fail
  | .ptr b off => match tab.ty.get t with
   | some ti => match ti.desc with
    | .array n e => match tab.ty.get e with
     | some ei => bif Nat.ble (Nat.succ i) n then k (.ptr b (Nat.add off (Nat.mul i ei.size))) else fail
     | none => fail
    | _ => fail
   | none => fail
  | _ => fail
 | _ => fail
def indexE (t : TypeId) (v i : EV) (k : EV → β) : β :=
 match i with
 | .int _ (.ofNat i) => match v with
  | .str s => match (match tab.ty.get t with | some i => (match i.desc with | .string => true | _ => false) | none => false), s[i]? with
   | true, some c => k (.int .u8 (.ofNat c.toNat))
   | _, _ => fail
  | .agg l => match tab.ty.get t with
   | some ti => match ti.desc with
    | .array n e => match tab.ty.get e with
     | some ei => bif Nat.ble (Nat.succ i) n then match partE tab e l (Nat.mul i ei.size) with
      | some v => k v
      | none => fail
      else fail
     | none => fail
    | _ => fail
   | none => fail
  | _ => fail
 | _ => fail
def mapT (t : TypeId) (k : TypeId → TypeId → TyE → β) : β :=
 match tab.ty.get t with
 | some i => match i.desc with
  | .map kt e => match tab.ty.get e with
   | some ei => k kt e ei
   | none => fail
  | _ => fail
 | none => fail
def entriesE (v : EV) (h : Tr EO) (k : List (EV × EV × Nat) → β) : β :=
 match v with
 | .map0 => k []
 | .map b => match h.get b with
  | some (.map l _) => k l
  | _ => fail
 | _ => fail
def lookupE (t : TypeId) (v key : EV) (ok : Bool) (h : Tr EO) (k : EV → β) : β :=
 mapT tab fail t fun kt _ ei => bif keyT tab 20 kt key then entriesE fail v h fun l => match findE tab kt key l with
  | some (some v) => bif ok then k (.tup (.cons v (.cons (.bool true) .nil))) else k v
  | some none => bif ok then k (.tup (.cons ei.zv (.cons (.bool false) .nil))) else k ei.zv
  | none => fail
 else fail
def mapUpdateE (fl : Nat) (t : TypeId) (m key y : EV) (h : Tr EO) (k : Tr EO → β) : β :=
 match m with
 | .map b => mapT tab fail t fun kt _ _ => bif keyT tab 20 kt key then match h.get b with
  | some (.map l clock) => match updE tab kt key y clock l with
   | some (l, clock) => setB fail fl h b (some (.map l clock)) k
   | none => fail
  | _ => fail
  else fail
 | _ => fail
def unE (op : UnOp) (a : EV) (k : EV → β) : β :=
 match op with
 | .not => match a with
  | .bool b => k (.bool (not b))
  | .unkB => k .unkB
  | _ => fail
 | .neg => match a with
  | .int ki n => forceI fail (ki.wrap (0 - n)) fun n => k (.int ki n)
  | _ => fail
 | _ => fail
def convE (src dst : TypeId) (a : EV) (k : EV → β) : β :=
 match tab.ty.get src with
 | none => fail
 | some si => match tab.ty.get dst with
  | none => fail
  | some i => match i.desc with
   | .int ki => match a with
    | .int _ n => forceI fail (ki.wrap n) fun n => k (.int ki n)
    | .unkI _ => k (.unkI ki)
    | .rng _ lo hi => bif eqInt (ki.wrap lo) lo && eqInt (ki.wrap hi) hi then k (.rng ki lo hi) else k (.unkI ki)
    | _ => fail
   | .string => match si.desc with
    | .string => match a with
     | .str s => k (.str s)
     | .unkS => k .unkS
     | _ => fail
    | _ => fail
   | _ => fail
def nilCheckE (v : EV) (k : EV → β) : β :=
 match v with
 | .ptr b off => k (.ptr b off)
 | .func f a b => k (.func f a b)
 | _ => fail
def extractE (v : EV) (i : Nat) (k : EV → β) : β :=
 match v with
 | .tup l => match l.get i with
  | some v => k v
  | none => fail
 | _ => fail
def lenE (v : EV) (h : Tr EO) (d : TypeDesc) (k : EV → β) : β :=
 match d with
 | .string => match v with
  | .str s => k (.int .i64 (.ofNat s.length))
  | .unkS => k (.unkI .i64)
  | _ => fail
 | .slice _ => match v with
  | .slice0 => k (.int .i64 (.ofNat 0))
  | .slice _ _ n _ => k (.int .i64 (.ofNat n))
  | .unkL => k (.unkI .i64)
  | _ => fail
 | .map _ _ => match v with
  | .map0 => k (.int .i64 (.ofNat 0))
  | .map b => match h.get b with
   | some (.map l _) => k (.int .i64 (.ofNat l.length))
   | _ => fail
  | _ => fail
 | _ => fail
def capE (v : EV) (d : TypeDesc) (k : EV → β) : β :=
 match d with
 | .slice _ => match v with
  | .slice0 => k (.int .i64 (.ofNat 0))
  | .slice _ _ _ (some c) => k (.int .i64 (.ofNat c))
  | _ => fail
 | _ => fail
def srcE (sz : Nat) (x : EV) (h : Tr EO) (k : Nat → EVs → β) : β :=
 match x with
 | .slice0 => k 0 .nil
 | .slice b off n _ => rdB fail h b fun c => readCells fail c (Nat.mul n sz) off fun l => k n l
 | _ => fail
def appendE (fl : Nat) (t : TypeId) (s x : EV) (h : Tr EO) (nx : Nat) (k : EV → Tr EO → Nat → β) : β :=
 elemE tab fail t fun _ ei => srcE fail ei.size x h fun m new => bif new.flat && Nat.ble 1 ei.size then
  match s with
  | .slice0 => match m with
   | 0 => k .slice0 h nx
   | m => bif Nat.ble (Nat.mul m ei.bytes) 140737488355328 && Nat.ble m 4611686018427387904 then newCells fail h nx new ei.size fun h nx' => k (.slice nx 0 m none) h nx' else fail
  | .slice b off n cap => match h.get b with
   | some (.cells c tot ex) =>
    bif (match cap with | some q => Nat.ble (Nat.add n m) q && Nat.ble (Nat.add off (Nat.mul (Nat.add n m) ei.size)) tot | none => Nat.beq ex ei.size && Nat.ble (Nat.add off (Nat.mul (Nat.add n m) ei.size)) tot) then
     writeCells fail new c (Nat.add off (Nat.mul n ei.size)) fun c => setB fail fl h b (some (.cells c tot ex)) fun h => k (.slice b off (Nat.add n m) cap) h nx
    else bif Nat.ble (Nat.mul (Nat.add n m) ei.bytes) 140737488355328 && Nat.ble (Nat.add n m) 4611686018427387904 then match cap with
     | some q => bif Nat.ble (Nat.succ q) (Nat.add n m) then readCells fail c (Nat.mul n ei.size) off fun old => newCells fail h nx (old.app new) ei.size fun h nx' => k (.slice nx 0 (Nat.add n m) none) h nx' else fail
     | none => bif Nat.beq (Nat.add off (Nat.mul n ei.size)) tot && Nat.beq off 0 && Nat.beq ex ei.size then
      readCells fail c (Nat.mul n ei.size) off fun old => setB fail fl h b none fun h => newCells fail h nx (old.app new) ei.size fun h nx' => k (.slice nx 0 (Nat.add n m) none) h nx'
      else fail
    else fail
   | _ => fail
  | _ => fail
  else fail
def deleteE (fl : Nat) (t : TypeId) (m key : EV) (h : Tr EO) (k : Tr EO → β) : β :=
 match m with
 | .map b => mapT tab fail t fun kt _ _ => bif keyT tab 20 kt key then match h.get b with
  | some (.map l clock) => match delE tab kt key l with
   | some l => setB fail fl h b (some (.map l clock)) k
   | none => fail
  | _ => fail
  else fail
 | _ => fail
def cvB (o : Op) : Bool :=
 match o with
 | .convert _ dst _ => match tab.ty.get dst with
  | some i => (match i.desc with
   | .slice _ => true
   | _ => false)
  | none => false
 | _ => false
def bytesE : List UInt8 → EVs
 | [] => .nil
 | b :: l => .cons (.int .u8 (.ofNat b.toNat)) (bytesE l)
def ofBytesE : EVs → Option (List UInt8)
 | .nil => some []
 | .cons (.int .u8 (.ofNat m)) l => bif Nat.blt m 256 then match ofBytesE l with
  | some s => some (UInt8.ofNat m :: s)
  | none => none
  else none
 | _ => none
def isU8 : TypeDesc → Bool
 | .int .u8 => true
 | _ => false
def isStr : TypeDesc → Bool
 | .string => true
 | _ => false
def descIs (p : TypeDesc → Bool) (t : TypeId) : Bool :=
 match tab.ty.get t with
 | some i => p i.desc
 | none => false
def toBytesE (src dst : TypeId) (s : List UInt8) (h : Tr EO) (nx : Nat) (k : EV → Tr EO → Nat → β) : β :=
 elemE tab fail dst fun e _ => bif descIs tab isU8 e && descIs tab isStr src then
  writeCells fail (bytesE s) .nil 0 fun c => newB fail h nx (.ro c 1) fun h nx' => k (.slice nx 0 s.length none) h nx'
 else fail
def markE (fl : Nat) (src dst : TypeId) (v : EV) (h : Tr EO) (k : Tr EO → β) : β :=
 elemE tab fail dst fun e _ => bif Nat.beq src dst && descIs tab isU8 e then match v with
  | .slice b _ _ _ => (match h.get b with
   | some (.cells c _ z) => setB fail fl h b (some (.ro c z)) k
   | _ => fail)
  | _ => fail
 else fail
def toStrE (src dst : TypeId) (v : EV) (h : Tr EO) (k : EV → β) : β :=
 elemE tab fail src fun e _ => bif descIs tab isU8 e && descIs tab isStr dst then match v with
  | .slice0 => k (.str [])
  | .slice b off n _ => rdB fail h b fun c => readCells fail c n off fun l => match ofBytesE l with
   | some s => k (.str s)
   | none => fail
  | _ => fail
 else fail
def clearE (fl : Nat) (t : TypeId) (v : EV) (h : Tr EO) (k : Tr EO → β) : β :=
 elemE tab fail t fun _ ei => match v with
  | .slice0 => k h
  | .slice b off n _ => bif Nat.beq n 0 then k h else match h.get b with
   | some (.cells c tot ex) => bif Nat.ble (Nat.add off (Nat.mul n ei.size)) tot && ei.zero.flat then writeCells fail (repCells ei.zero n) c off fun c => setB fail fl h b (some (.cells c tot ex)) k else fail
   | _ => fail
  | _ => fail
def lenS : EV → Option Nat
 | .slice0 => some 0
 | .slice _ _ n _ => some n
 | _ => none
def minN (a b : Nat) : Nat := bif Nat.ble a b then a else b
def copyE (fl : Nat) (t : TypeId) (v x : EV) (h : Tr EO) (k : Nat → Tr EO → β) : β :=
 elemE tab fail t fun _ ei => match lenS v, lenS x with
  | some n, some m => bif Nat.beq (minN m n) 0 then k 0 h else match v, x with
   | .slice b off _ _, .slice b2 off2 _ _ => rdB fail h b2 fun c2 => readCells fail c2 (Nat.mul (minN m n) ei.size) off2 fun l => match h.get b with
    | some (.cells c tot ex) => bif Nat.ble (Nat.add off (Nat.mul (minN m n) ei.size)) tot && l.flat then writeCells fail l c off fun c => setB fail fl h b (some (.cells c tot ex)) (k (minN m n)) else fail
    | _ => fail
   | _, _ => fail
  | _, _ => fail
end
end
inductive Ex where
 | normal
 | exit (id : Nat)
 | ret
abbrev CodeFn := ∀ (β : Type) (_fail : β) (_join : β → β → β), Nat → Nat → Code → Fr → Tr EO → Nat → (Ex → Fr → Tr EO → Nat → β) → β
section
variable (tab : Tab) (self : CodeFn) {β : Type} (fail : β) (join : β → β → β)
def resE (T : Fr) (h : Tr EO) : List ResultVar → (EVs → β) → β
 | [], k => k .nil
 | .tmp i :: l, k => evx tab fail T (.tmp i) fun v => resE T h l fun vs => k (.cons v vs)
 | .cell a t :: l, k => evx tab fail T (.tmp a) fun v => loadE tab fail t v h fun v => resE T h l fun vs => k (.cons v vs)
def leaveE (fl : Nat) : List Nat → Tr EO → (Tr EO → β) → β
 | [], h, k => k h
 | b :: D, h, k => match h.get b with
  | some .dfr => setB fail fl h b none fun h => leaveE fl D h k
  | _ => fail
def extE (n : Nat) (args : EVs) (k : EV → β) : β :=
 match args with
 | .cons (.int .u64 (.ofNat x)) (.cons (.int .u64 (.ofNat y)) (.cons (.int .u64 (.ofNat c)) .nil)) =>
  bif Nat.ble c 1 then match n with
   | 0 => forceI fail (.ofNat (Nat.mod (Nat.add (Nat.add x y) c) 18446744073709551616)) fun a => forceI fail (.ofNat (Nat.div (Nat.add (Nat.add x y) c) 18446744073709551616)) fun b => k (.tup (.cons (.int .u64 a) (.cons (.int .u64 b) .nil)))
   | 1 => forceI fail (.ofNat (Nat.mod (Nat.sub (Nat.sub (Nat.add x 18446744073709551616) y) c) 18446744073709551616)) fun a => k (.tup (.cons (.int .u64 a) (.cons (.int .u64 (bif Nat.ble (Nat.succ x) (Nat.add y c) then 1 else 0)) .nil)))
   | _ => fail
  else fail
 | _ => fail
def callE (fl : Nat) (f : Nat) (args : EVs) (h : Tr EO) (nx : Nat) (k : EV → Tr EO → Nat → β) : β :=
 match tab.fn.get f with
 | some fn => match fn.body with
  | some c => bif Nat.ble args.len fn.ntmps then writeCells fail args .nil 0 fun T => self β fail join fn.ntmps fl c ⟨T, [], none⟩ h nx fun e T h nx =>
   match e with
   | .exit _ => fail
   | _ => leaveE fail fl T.D h fun h => resE tab fail T h fn.results.toList fun vs => match vs with
    | .cons v .nil => k v h nx
    | vs => k (.tup vs) h nx
   else fail
  | none => fail
 | none => match tab.ex.get f with
  | some n => extE fail n args fun v => k v h nx
  | none => fail
abbrev Outs := Option (List (EV × Tr EO × Nat))
def joinL (a b : Outs) : Outs := match a with
 | some l => match b with
  | some m => some (l ++ m)
  | none => none
 | none => none
def maxN (a b : Nat) : Nat := bif Nat.ble a b then b else a
def mergeOuts (v : EV) (h : Tr EO) (nx : Nat) : List (EV × Tr EO × Nat) → Option (EV × Tr EO × Nat)
 | [] => some (v, h, nx)
 | o :: l => bif sameE v o.1 then mergeOuts v (meetTr h o.2.1) (maxN nx o.2.2) l else none
def callM (fl : Nat) (f : Nat) (args : EVs) (h : Tr EO) (nx : Nat) (k : EV → Tr EO → Nat → β) : β :=
 match tab.mg.get f with
 | none => callE tab self fail join fl f args h nx k
 | some _ => bif Nat.beq fl 0 then match callE tab self (none : Outs) joinL fl f args h nx (fun v h nx => some [(v, h, nx)]) with
  | some (o :: l) => match mergeOuts o.1 o.2.1 o.2.2 l with
   | some r => k r.1 r.2.1 r.2.2
   | none => fail
  | _ => fail
  else fail
def nextE (one : (EV × EV × Nat) → β) : List (EV × EV × Nat) → β
 | [] => fail
 | [e] => one e
 | e :: l => join (one e) (nextE one l)
def inL (n : Nat) : List Nat → Bool
 | [] => false
 | m :: l => bif Nat.beq m n then true else inL n l
def findBorn (n : Nat) : List (EV × EV × Nat) → Option (EV × EV)
 | [] => none
 | e :: l => bif Nat.beq e.2.2 n then some (e.1, e.2.1) else findBorn n l
def jumpOf : Ex → Option Code
 | .normal => none
 | .exit i => some (.exit i)
 | .ret => some .ret
def jumpEx : Option Code → Option Ex
 | none => some .normal
 | some (.exit i) => some (.exit i)
 | some .ret => some .ret
 | _ => none
def fillT (nt : Nat) : List Nat → EVs → Tr EV → (Tr EV → β) → β
 | [], .nil, T, k => k T
 | p :: ps, .cons v vs, T, k => bif Nat.ble (Nat.succ p) nt then Tr.put fail (some v) 64 T p fun T => fillT nt ps vs T k else fail
 | _, _, _, _ => fail
def yieldE (fl : Nat) (b : Nat) (args : EVs) (h : Tr EO) (nx : Nat) (k : EV → Tr EO → Nat → β) : β :=
 match h.get b with
 | some (.loop 0 _ nt T ps aw body) => fillT fail nt ps args T fun T =>
  self β fail join nt fl aw ⟨T, [], some b⟩ h nx fun e F h nx => match e with
   | .normal => (match h.get b with
    | some (.loop 0 pend nt' T' ps aw body') => setB fail fl h b (some (.loop 1 pend nt' T' ps aw body')) fun h =>
     self β fail join nt fl body F h nx fun e F h nx => match F.D with
      | [] => (match h.get b with
       | some (.loop _ _ nt T ps aw body) => setB fail fl h b (some (.loop (match jumpOf e with | none => 0 | some _ => 2) (jumpOf e) nt T ps aw body)) fun h =>
        k (.bool (match jumpOf e with | none => true | some _ => false)) h nx
       | _ => fail)
      | _ => fail
    | _ => fail)
   | _ => fail
 | _ => fail
def endLoopE (fl b : Nat) (h : Tr EO) (k : Ex → Tr EO → β) : β :=
 match h.get b with
 | some (.loop st pend nt T ps aw body) => bif Nat.beq st 1 then fail else match jumpEx pend with
  | some e => setB fail fl h b (some (.loop 3 pend nt T ps aw body)) fun h => k e h
  | none => fail
 | _ => fail
def rangeE (nt fl : Nat) (g : Operand) (ps : Array Nat) (aw body : Code) (T : Fr) (h : Tr EO) (nx : Nat) (k : Ex → Fr → Tr EO → Nat → β) : β :=
 match T.ro with
 | some _ => fail
 | none => evx tab fail T g fun v => match v with
  | .func f first cap => match tab.fn.get f with
   | none => fail
   | some _ => newB fail h nx .dfr fun h nx1 => newB fail h nx1 (.loop 0 none nt T.T ps.toList aw body) fun h nx2 =>
   callE tab self fail join fl f ((first.app (.cons (.yld nx1) .nil)).app cap) h nx2 fun _ h nx3 => endLoopE fail fl nx1 h fun e h => k e ⟨T.T, nx :: T.D, none⟩ h nx3
  | _ => fail
def builtinE (fl : Nat) (b : Builtin) (ts : List TypeId) (args : EVs) (h : Tr EO) (nx : Nat) (k : EV → Tr EO → Nat → β) : β :=
 match ts with
 | [] => fail
 | t :: _ => match b with
  | .len => match args with
   | .cons v .nil => match tab.ty.get t with
    | some i => lenE fail v h i.desc fun v => k v h nx
    | none => fail
   | _ => fail
  | .cap => match args with
   | .cons v .nil => match tab.ty.get t with
    | some i => capE fail v i.desc fun v => k v h nx
    | none => fail
   | _ => fail
  | .append => match args, ts with
   | .cons s (.cons x .nil), [_, u] => bif Nat.beq t u then appendE tab fail fl t s x h nx k else fail
   | _, _ => fail
  | .delete => match args with
   | .cons m (.cons key .nil) => deleteE tab fail fl t m key h fun h => k undefE h nx
   | _ => fail
  | .clear => match args with
   | .cons v .nil => clearE tab fail fl t v h fun h => k undefE h nx
   | _ => fail
  | .copy => match args with
   | .cons v (.cons x .nil) => copyE tab fail fl t v x h fun n h => k (.int .i64 (.ofNat n)) h nx
   | _ => fail
  | .max => match args with
   | .cons (.int ki a) (.cons (.int kj b) .nil) => bif ikEq ki kj then k (.int ki (bif ltInt a b then b else a)) h nx else fail
   | _ => fail
  | .min => match args with
   | .cons (.int ki a) (.cons (.int kj b) .nil) => bif ikEq ki kj then k (.int ki (bif ltInt b a then b else a)) h nx else fail
   | _ => fail
  | _ => fail
def evOpt (T : Fr) (o : Option Operand) (k : Option EV → β) : β :=
 match o with
 | none => k none
 | some x => evx tab fail T x fun v => k (some v)
def evOp (fl : Nat) (o : Oper) (T : Fr) (h : Tr EO) (nx : Nat) (k : EV → Tr EO → Nat → β) : β :=
 match o.op with
 | .move a => evx tab fail T a fun v => k v h nx
 | .assign a => evx tab fail T a fun v => k v h nx
 | .pick c a b => evx tab fail T c fun c => match c with
  | .bool c => evx tab fail T a fun a => evx tab fail T b fun b => k (bif c then a else b) h nx
  | _ => fail
 | .alloc e => allocE tab fail e h nx k
 | .box _ a => evx tab fail T a fun v => boxE fail v h nx k
 | .build t ps => evParts tab fail T ps.toList fun ps => buildE tab fail t ps fun v => k v h nx
 | .buildSlice t len ps => evParts tab fail T ps.toList fun ps => buildSliceE tab fail t len ps h nx k
 | .load t a => evx tab fail T a fun v => loadE tab fail t v h fun v => k v h nx
 | .store t a y => evx tab fail T a fun v => evx tab fail T y fun y => storeE tab fail fl t v y h fun h => k undefE h nx
 | .nilCheck a => evx tab fail T a fun v => nilCheckE fail v fun v => k v h nx
 | .binOp op t a b _ => evx tab fail T a fun x => evx tab fail T b fun y => binO tab fail op t a b x y fun v => k v h nx
 | .unOp op _ a => evx tab fail T a fun a => unE fail op a fun v => k v h nx
 | .convert src dst a => evx tab fail T a fun v => bif cvB tab (.convert src dst a) then (match v with
  | .str s => toBytesE tab fail src dst s h nx k
  | v => markE tab fail fl src dst v h fun h => k v h nx)
  else (match v with
   | .slice0 => toStrE tab fail src dst v h fun v => k v h nx
   | .slice .. => toStrE tab fail src dst v h fun v => k v h nx
   | _ => convE tab fail src dst v fun v => k v h nx)
 | .makeFunc fn first cap => match fn with
  | .func f => evxs tab fail T first.toList fun a => evxs tab fail T cap.toList fun b => k (.func f a b) h nx
  | _ => fail
 | .makeMap _ r => match r with
  | none => newB fail h nx (.map [] 0) fun h nx' => k (.map nx) h nx'
  | some _ => fail
 | .makeSlice t l c => evx tab fail T l fun l => evx tab fail T c fun c => makeSliceE tab fail t l c h nx k
 | .slice t a lo hi mx => evx tab fail T a fun v => evOpt tab fail T lo fun lo => evOpt tab fail T hi fun hi => evOpt tab fail T mx fun mx => sliceE tab fail t v lo hi mx h fun v => k v h nx
 | .fieldAddr s a f => evx tab fail T a fun v => fieldAddrE tab fail s v f fun v => k v h nx
 | .field s a f => evx tab fail T a fun v => fieldE tab fail s v f fun v => k v h nx
 | .indexAddr t a i => evx tab fail T a fun v => evx tab fail T i fun i => indexAddrE tab fail t v i fun v => k v h nx
 | .index t a i => evx tab fail T a fun v => evx tab fail T i fun i => indexE tab fail t v i fun v => k v h nx
 | .lookup t a i ok => evx tab fail T a fun v => evx tab fail T i fun i => lookupE tab fail t v i ok h fun v => k v h nx
 | .mapUpdate t m i y => evx tab fail T m fun m => evx tab fail T i fun i => evx tab fail T y fun y => mapUpdateE tab fail fl t m i y h fun h => k undefE h nx
 | .insert t m i y => evx tab fail T m fun m => evx tab fail T i fun i => evx tab fail T y fun y => mapUpdateE tab fail fl t m i y h fun h => k undefE h nx
 | .extract a i => evx tab fail T a fun v => extractE fail v i fun v => k v h nx
 | .range t a => evx tab fail T a fun v => mapT tab fail t fun _ _ _ => match v with
  | .map0 => newB fail h nx (.mit none 0 [] 0) fun h nx' => k (.ptr nx 0) h nx'
  | .map b => (match h.get b with
   | some (.map _ clock) => newB fail h nx (.mit (some b) clock [] clock) fun h nx' => k (.ptr nx 0) h nx'
   | _ => fail)
  | _ => fail
 | .next a s => bif s then fail else evx tab fail T a fun v => match v with
  | .ptr r 0 => (match h.get r with
   | some (.mit none _ _ _) => k (.tup (.cons (.bool false) .nil)) h nx
   | some (.mit (some m) since seen last) => (match h.get m with
    | some (.map es clock) => bif es.all (fun e => Nat.blt e.2.2 since) && Nat.ble since last then
     match es.filter (fun e => not (inL e.2.2 seen)) with
     | [] => k (.tup (.cons (.bool false) .nil)) h nx
     | e :: l => nextE fail join (fun e => setB fail fl h r (some (.mit (some m) since (seen ++ [e.2.2]) clock)) fun h => k (.tup (.cons (.bool true) (.cons e.1 (.cons e.2.1 .nil)))) h nx) (e :: l)
     else fail
    | _ => fail)
   | _ => fail)
  | _ => fail
 | .entry a => evx tab fail T a fun v => match v with
  | .ptr r 0 => (match h.get r with
   | some (.mit (some m) _ seen last) => (match h.get m with
    | some (.map es clock) => bif Nat.beq clock last then match seen.getLast? with
     | some n => match findBorn n es with
      | some e => k (.tup (.cons e.1 (.cons e.2 .nil))) h nx
      | none => fail
     | none => fail
     else fail
    | _ => fail)
   | _ => fail)
  | _ => fail
 | .call c => match c.callee with
  | .builtin b => evxs tab fail T c.args.toList fun args => builtinE tab fail fl b c.argTypes.toList args h nx k
  | .value f => evx tab fail T f fun f => evxs tab fail T c.args.toList fun args => match f with
   | .func f first cap => callM tab self fail join fl f ((first.app args).app cap) h nx k
   | .yld b => yieldE self fail join fl b args h nx k
   | _ => fail
  | _ => fail
 | _ => fail
def wantedE (ops : Array Oper) (T : Fr) (o : Oper) : Option Bool :=
 match o.guard with
 | none => some true
 | some (j, want) => match (match ops[j]? with | some p => p.dst | none => none) with
  | some d => match T.get d with
   | some (.bool b) => some (b == want)
   | some (.tup .nil) => some false
   | none => some false
   | _ => none
  | none => some false
def putD (nt : Nat) (d : Option Nat) (v : EV) (T : Fr) (k : Fr → β) : β :=
 match d with
 | some d => bif Nat.ble (Nat.succ d) nt then Tr.put fail (some v) 64 T.T d fun t => k ⟨t, T.D, T.ro⟩ else fail
 | none => k T
def evOps (nt fl : Nat) (ops : Array Oper) : List Oper → Fr → Tr EO → Nat → (Fr → Tr EO → Nat → β) → β
 | [], T, h, nx, k => k T h nx
 | o :: l, T, h, nx, k => match wantedE ops T o with
  | some true => evOp tab self fail join fl o T h nx fun v h nx => putD fail nt o.dst v T fun T => evOps nt fl ops l T h nx k
  | some false => putD fail nt o.dst undefE T fun T => evOps nt fl ops l T h nx k
  | none => fail
end
end Go.Proofs.YtendekbckfpmgaaGreat
namespace Go.Proofs.YtendekbckfpmgaaGreat
open Go Go.RowKit
structure Loc where
 blk : Nat
 tot : Nat
 esz : Nat
abbrev Sg := Nat → Option Loc
def Le (s t : Sg) : Prop := ∀ i l, s i = some l → t i = some l
theorem Le.refl (s : Sg) : Le s s := fun _ _ h => h
theorem Le.trans {s t u : Sg} (h : Le s t) (k : Le t u) : Le s u := fun i l e => k i l (h i l e)
mutual
def VR (σ : Sg) : EV → Value → Prop
 | .bool b, v => v = .bool b
 | .int k n, v => v = .int k n
 | .str s, v => v = .string ⟨s.toArray⟩
 | .ptr0, v => v = .pointer none
 | .ptr b off, v => ∃ l, σ b = some l ∧ v = .pointer (some ⟨l.blk, off, none⟩)
 | .slice0, v => v = .slice none 0 0
 | .slice b off len cap, v => ∃ l, σ b = some l ∧ v = .slice (some ⟨l.blk, off, none⟩) len (cap.getD ((l.tot - off) / l.esz)) ∧ len ≤ cap.getD ((l.tot - off) / l.esz)
 | .map0, v => v = .map none
 | .map b, v => ∃ l, σ b = some l ∧ v = .map (some l.blk)
 | .func0, v => v = .nilFunc
 | .func f a c, v => ∃ x y, v = .func (.func f) x y ∧ VRs σ a x.toList ∧ VRs σ c y.toList
 | .iface0, v => v = .nilIface
 | .iface t e, v => ∃ u, v = .iface t u ∧ VR σ e u
 | .agg l, v => ∃ x, v = .agg x ∧ VRs σ l x.toList
 | .tup l, v => ∃ x, v = .tuple x ∧ VRs σ l x.toList
 | .unkB, v => ∃ b, v = .bool b
 | .unkI k, v => ∃ n, v = .int k n
 | .unkS, v => ∃ s, v = .string s
 | .unkL, v => ∃ a n c, v = .slice a n c
 | .unkV, v => v.oneCell' = true
 | .rng k lo hi, v => ∃ n, v = .int k n ∧ lo ≤ n ∧ n ≤ hi
 | .yld b, v => ∃ l, σ b = some l ∧ v = .func (.yield l.blk) #[] #[]
def VRs (σ : Sg) : EVs → List Value → Prop
 | .nil, l => l = []
 | .cons e r, l => ∃ v m, l = v :: m ∧ VR σ e v ∧ VRs σ r m
end
mutual
theorem VR.mono {σ τ : Sg} (h : Le σ τ) : ∀ (e : EV) (v : Value), VR σ e v → VR τ e v
 | .bool _, _, H => H
 | .int _ _, _, H => H
 | .str _, _, H => H
 | .ptr0, _, H => H
 | .ptr b _, _, H => by simp only [VR] at H ⊢; obtain ⟨l, hl, rfl⟩ := H; exact ⟨l, h b l hl, rfl⟩
 | .slice0, _, H => H
 | .slice b _ _ _, _, H => by simp only [VR] at H ⊢; obtain ⟨l, hl, rfl, hle⟩ := H; exact ⟨l, h b l hl, rfl, hle⟩
 | .map0, _, H => H
 | .map b, _, H => by simp only [VR] at H ⊢; obtain ⟨l, hl, rfl⟩ := H; exact ⟨l, h b l hl, rfl⟩
 | .func0, _, H => H
 | .func _ a c, _, H => by simp only [VR] at H ⊢; obtain ⟨x, y, rfl, h1, h2⟩ := H; exact ⟨x, y, rfl, VRs.mono h a _ h1, VRs.mono h c _ h2⟩
 | .iface0, _, H => H
 | .iface _ e, _, H => by simp only [VR] at H ⊢; obtain ⟨u, rfl, h1⟩ := H; exact ⟨u, rfl, VR.mono h e _ h1⟩
 | .agg l, _, H => by simp only [VR] at H ⊢; obtain ⟨x, rfl, h1⟩ := H; exact ⟨x, rfl, VRs.mono h l _ h1⟩
 | .tup l, _, H => by simp only [VR] at H ⊢; obtain ⟨x, rfl, h1⟩ := H; exact ⟨x, rfl, VRs.mono h l _ h1⟩
 | .unkB, _, H => H
 | .unkI _, _, H => H
 | .unkS, _, H => H
 | .unkL, _, H => H
 | .unkV, _, H => H
 | .rng _ _ _, _, H => H
 | .yld b, _, H => by simp only [VR] at H ⊢; obtain ⟨l, hl, rfl⟩ := H; exact ⟨l, h b l hl, rfl⟩
theorem VRs.mono {σ τ : Sg} (h : Le σ τ) : ∀ (l : EVs) (m : List Value), VRs σ l m → VRs τ l m
 | .nil, _, H => H
 | .cons e r, _, H => by simp only [VRs] at H ⊢; obtain ⟨v, m, rfl, h1, h2⟩ := H; exact ⟨v, m, rfl, VR.mono h e _ h1, VRs.mono h r _ h2⟩
end
theorem VRs.cons {σ : Sg} {e : EV} {r : EVs} {v : Value} {m : List Value} (h : VR σ e v) (k : VRs σ r m) : VRs σ (.cons e r) (v :: m) := by
 simp only [VRs]; exact ⟨v, m, rfl, h, k⟩
theorem VRs.nil {σ : Sg} : VRs σ .nil [] := by simp only [VRs]
theorem EVs.len_toL : ∀ l : EVs, l.len = l.toL.length
 | .nil => rfl
 | .cons _ l => by simp only [EVs.len, EVs.toL, List.length_cons, EVs.len_toL l, Nat.succ_eq_add_one]
theorem EVs.get_toL : ∀ (l : EVs) (n : Nat), l.get n = l.toL[n]?
 | .nil, n => by simp [EVs.get, EVs.toL]
 | .cons v l, 0 => by simp [EVs.get, EVs.toL]
 | .cons v l, n + 1 => by
  have : Nat.beq (n + 1) 0 = false := rfl
  simp only [EVs.get, EVs.toL, this, cond_false, List.getElem?_cons_succ]
  exact EVs.get_toL l n
theorem EVs.take_toL : ∀ (l : EVs) (n : Nat), (l.take n).toL = l.toL.take n
 | .nil, n => by simp [EVs.take, EVs.toL]
 | .cons v l, 0 => by simp [EVs.take, EVs.toL]
 | .cons v l, n + 1 => by
  have : Nat.beq (n + 1) 0 = false := rfl
  simp only [EVs.take, EVs.toL, this, cond_false, List.take_succ_cons]
  rw [show Nat.sub (n + 1) 1 = n from rfl, EVs.take_toL l n]
theorem EVs.drop_toL : ∀ (l : EVs) (n : Nat), (l.drop n).toL = l.toL.drop n
 | .nil, n => by simp [EVs.drop, EVs.toL]
 | .cons v l, 0 => by simp [EVs.drop, EVs.toL]
 | .cons v l, n + 1 => by
  have : Nat.beq (n + 1) 0 = false := rfl
  simp only [EVs.drop, EVs.toL, this, cond_false, List.drop_succ_cons]
  rw [show Nat.sub (n + 1) 1 = n from rfl, EVs.drop_toL l n]
theorem EVs.app_toL : ∀ (l m : EVs), (l.app m).toL = l.toL ++ m.toL
 | .nil, m => by simp [EVs.app, EVs.toL]
 | .cons v l, m => by simp [EVs.app, EVs.toL, EVs.app_toL l m]
theorem VRs.iff {σ : Sg} : ∀ {l : EVs} {m : List Value}, VRs σ l m ↔ (l.toL.length = m.length ∧ ∀ (i : Nat) (e : EV) (v : Value), l.toL[i]? = some e → m[i]? = some v → VR σ e v)
 | .nil, m => by
  simp only [VRs, EVs.toL, List.length_nil]
  constructor
  · rintro rfl; exact ⟨rfl, fun i e v h => by simp at h⟩
  · rintro ⟨h, _⟩; exact List.eq_nil_of_length_eq_zero h.symm
 | .cons e r, m => by
  simp only [VRs, EVs.toL, List.length_cons]
  constructor
  · rintro ⟨v, m, rfl, h1, h2⟩
    obtain ⟨a, b⟩ := VRs.iff.1 h2
    refine ⟨by simp [a], fun i e' v' he hv => ?_⟩
    cases i with
    | zero => simp at he hv; subst he; subst hv; exact h1
    | succ i => simp at he hv; exact b i e' v' he hv
  · rintro ⟨h1, h2⟩
    cases m with
    | nil => simp at h1
    | cons v m => exact ⟨v, m, rfl, h2 0 e v rfl rfl, VRs.iff.2 ⟨by simpa using h1, fun i e' v' he hv => h2 (i + 1) e' v' (by simpa using he) (by simpa using hv)⟩⟩
theorem VRs.get {σ : Sg} {l : EVs} {m : List Value} (h : VRs σ l m) {i : Nat} {e : EV} (he : l.toL[i]? = some e) : ∃ v, m[i]? = some v ∧ VR σ e v := by
 obtain ⟨a, b⟩ := VRs.iff.1 h
 have hi : i < m.length := by rw [← a]; exact (List.getElem?_eq_some_iff.1 he).1
 exact ⟨m[i], by simp [hi], b i e _ he (by simp [hi])⟩
theorem VRs.take {σ : Sg} {l : EVs} {m : List Value} (h : VRs σ l m) (n : Nat) : VRs σ (l.take n) (m.take n) := by
 obtain ⟨a, b⟩ := VRs.iff.1 h
 refine VRs.iff.2 ⟨by simp [EVs.take_toL, a], fun i e v he hv => ?_⟩
 rw [EVs.take_toL, List.getElem?_take] at he
 rw [List.getElem?_take] at hv
 split at he
 · rename_i hlt; rw [if_pos hlt] at hv; exact b i e v he hv
 · cases he
theorem VRs.drop {σ : Sg} {l : EVs} {m : List Value} (h : VRs σ l m) (n : Nat) : VRs σ (l.drop n) (m.drop n) := by
 obtain ⟨a, b⟩ := VRs.iff.1 h
 refine VRs.iff.2 ⟨by simp [EVs.drop_toL, a], fun i e v he hv => ?_⟩
 rw [EVs.drop_toL, List.getElem?_drop] at he
 rw [List.getElem?_drop] at hv
 exact b (n + i) e v he hv
theorem VRs.app {σ : Sg} : ∀ {l r : EVs} {m k : List Value}, VRs σ l m → VRs σ r k → VRs σ (l.app r) (m ++ k)
 | .nil, r, m, k, h, g => by simp only [VRs] at h; subst h; exact g
 | .cons e l, r, m, k, h, g => by
  simp only [VRs] at h
  obtain ⟨v, m, rfl, h1, h2⟩ := h
  exact VRs.cons h1 (VRs.app h2 g)
theorem VR.flat {σ : Sg} : ∀ {e : EV} {v : Value}, VR σ e v → e.flat = true → v.oneCell' = true := by
 intro e v h hf
 cases e <;> simp only [VR] at h <;> first
  | exact h
  | (subst h; rfl)
  | (obtain ⟨l, _, rfl⟩ := h; rfl)
  | (obtain ⟨x, y, rfl, _⟩ := h; rfl)
  | (obtain ⟨x, rfl, _⟩ := h; first | rfl | cases hf)
  | (obtain ⟨x, rfl⟩ := h; rfl)
  | (obtain ⟨x, y, z, rfl⟩ := h; rfl)
theorem VRs.flat {σ : Sg} : ∀ {l : EVs} {m : List Value}, VRs σ l m → l.flat = true → ∀ v ∈ m, v.oneCell' = true
 | .nil, m, h, _, v, hv => by simp only [VRs] at h; subst h; cases hv
 | .cons e r, m, h, hf, v, hv => by
  simp only [VRs] at h
  obtain ⟨u, m, rfl, h1, h2⟩ := h
  simp only [EVs.flat] at hf
  cases he : e.flat with
  | false => rw [he] at hf; cases hf
  | true =>
   rw [he] at hf
   cases hv with
   | head => exact h1.flat he
   | tail _ hv => exact h2.flat hf v hv
theorem VR.cells {σ : Sg} {e : EV} {v : Value} (h : VR σ e v) : VRs σ e.cells v.cells.toList := by
 cases e with
 | agg l => simp only [VR] at h; obtain ⟨x, rfl, hx⟩ := h; exact hx
 | unkV =>
  have hv : v.cells = #[v] := by simp only [VR] at h; cases v <;> first | rfl | cases h
  rw [hv]; exact VRs.cons h VRs.nil
 | _ =>
  have hv : v.cells = #[v] := by
   have h' := h
   simp only [VR] at h'
   first
    | (subst h'; rfl)
    | (obtain ⟨l, _, rfl⟩ := h'; rfl)
    | (obtain ⟨x, y, rfl, _⟩ := h'; rfl)
    | (obtain ⟨x, rfl, _⟩ := h'; rfl)
    | (obtain ⟨x, rfl⟩ := h'; rfl)
    | (obtain ⟨x, y, z, rfl⟩ := h'; rfl)
  rw [hv]; exact VRs.cons h VRs.nil
theorem Tr.get_node {α : Type} (l r : Tr α) (x : Option α) (n : Nat) : (Tr.node l x r).get n = if n = 0 then x else if n % 2 = 1 then l.get (n / 2) else r.get (n / 2 - 1) := by
 have e1 : Nat.beq n 0 = decide (n = 0) := by rw [Bool.eq_iff_iff]; simp
 have e2 : Nat.beq (Nat.mod n 2) 1 = decide (n % 2 = 1) := by rw [Bool.eq_iff_iff]; simp; rfl
 simp only [Tr.get, e1, e2, Bool.cond_decide]
 rfl
theorem Tr.get_nil {α : Type} (n : Nat) : (Tr.nil : Tr α).get n = none := rfl
section
variable {β : Type} {fail : β} {G : β → Prop} (hf : ¬ G fail)
include hf
theorem Tr.put_spec {α : Type} {v : Option α} : ∀ (f : Nat) (t : Tr α) (n : Nat) (k : Tr α → β), G (Tr.put fail v f t n k) → ∃ t', (∀ j, t'.get j = if j = n then v else t.get j) ∧ G (k t')
 | 0, t, n, k, h => by cases t <;> exact absurd h hf
 | f + 1, .nil, n, k, h => by
  have e1 : Nat.beq n 0 = decide (n = 0) := by rw [Bool.eq_iff_iff]; simp
  have e2 : Nat.beq (Nat.mod n 2) 1 = decide (n % 2 = 1) := by rw [Bool.eq_iff_iff]; simp; rfl
  simp only [Tr.put, e1, e2, Bool.cond_decide] at h
  by_cases h0 : n = 0
  · rw [if_pos h0] at h
    refine ⟨_, fun j => ?_, h⟩
    subst h0
    rw [Tr.get_node]; split <;> simp [Tr.get_nil]
  · rw [if_neg h0] at h
    by_cases h1 : n % 2 = 1
    · rw [if_pos h1] at h
      obtain ⟨t', ht, hk⟩ := Tr.put_spec f .nil _ _ h
      refine ⟨_, fun j => ?_, hk⟩
      rw [Tr.get_node, ht]
      change (if j = 0 then none else if j % 2 = 1 then (if j / 2 = n / 2 then v else Tr.nil.get (j / 2)) else Tr.nil.get (j / 2 - 1)) = _
      simp only [Tr.get_nil]
      by_cases hj : j = n
      · subst hj; rw [if_neg h0, if_pos h1, if_pos rfl, if_pos rfl]
      · rw [if_neg hj]
        split
        · rfl
        · split
          · rw [if_neg (by omega)]
          · rfl
    · rw [if_neg h1] at h
      obtain ⟨t', ht, hk⟩ := Tr.put_spec f .nil _ _ h
      refine ⟨_, fun j => ?_, hk⟩
      rw [Tr.get_node, ht]
      change (if j = 0 then none else if j % 2 = 1 then Tr.nil.get (j / 2) else (if j / 2 - 1 = n / 2 - 1 then v else Tr.nil.get (j / 2 - 1))) = _
      simp only [Tr.get_nil]
      by_cases hj : j = n
      · subst hj; rw [if_neg h0, if_neg h1, if_pos rfl, if_pos rfl]
      · rw [if_neg hj]
        split
        · rfl
        · split
          · rfl
          · rw [if_neg (by omega)]
 | f + 1, .node l x r, n, k, h => by
  have e1 : Nat.beq n 0 = decide (n = 0) := by rw [Bool.eq_iff_iff]; simp
  have e2 : Nat.beq (Nat.mod n 2) 1 = decide (n % 2 = 1) := by rw [Bool.eq_iff_iff]; simp; rfl
  simp only [Tr.put, e1, e2, Bool.cond_decide] at h
  by_cases h0 : n = 0
  · rw [if_pos h0] at h
    refine ⟨_, fun j => ?_, h⟩
    subst h0
    rw [Tr.get_node, Tr.get_node]; split <;> rfl
  · rw [if_neg h0] at h
    by_cases h1 : n % 2 = 1
    · rw [if_pos h1] at h
      obtain ⟨t', ht, hk⟩ := Tr.put_spec f l _ _ h
      refine ⟨_, fun j => ?_, hk⟩
      rw [Tr.get_node, Tr.get_node, ht]
      change (if j = 0 then x else if j % 2 = 1 then (if j / 2 = n / 2 then v else l.get (j / 2)) else r.get (j / 2 - 1)) = _
      by_cases hj : j = n
      · subst hj; rw [if_neg h0, if_pos h1, if_pos rfl, if_pos rfl]
      · rw [if_neg hj]
        split
        · rfl
        · split
          · rw [if_neg (by omega)]
          · rfl
    · rw [if_neg h1] at h
      obtain ⟨t', ht, hk⟩ := Tr.put_spec f r _ _ h
      refine ⟨_, fun j => ?_, hk⟩
      rw [Tr.get_node, Tr.get_node, ht]
      change (if j = 0 then x else if j % 2 = 1 then l.get (j / 2) else (if j / 2 - 1 = n / 2 - 1 then v else r.get (j / 2 - 1))) = _
      by_cases hj : j = n
      · subst hj; rw [if_neg h0, if_neg h1, if_pos rfl, if_pos rfl]
      · rw [if_neg hj]
        split
        · rfl
        · split
          · rfl
          · rw [if_neg (by omega)]
theorem readCells_spec {c : Tr EV} : ∀ (n off : Nat) (k : EVs → β), G (readCells fail c n off k) → ∃ l : EVs, l.toL.length = n ∧ (∀ i, i < n → c.get (off + i) = l.toL[i]?) ∧ G (k l)
 | 0, off, k, h => ⟨.nil, rfl, fun i hi => by omega, h⟩
 | n + 1, off, k, h => by
  simp only [readCells] at h
  cases hc : c.get off with
  | none => rw [hc] at h; exact absurd h hf
  | some v =>
   rw [hc] at h
   obtain ⟨l, h1, h2, h3⟩ := readCells_spec n _ _ h
   refine ⟨.cons v l, by simp [EVs.toL, h1], fun i hi => ?_, h3⟩
   cases i with
   | zero => simp [EVs.toL, hc]
   | succ i =>
    simp only [EVs.toL, List.getElem?_cons_succ]
    rw [← h2 i (by omega)]
    congr 1
    omega
theorem writeCells_spec : ∀ (l : EVs) (c : Tr EV) (off : Nat) (k : Tr EV → β), G (writeCells fail l c off k) → ∃ c' : Tr EV, (∀ i, c'.get i = if off ≤ i ∧ i < off + l.toL.length then l.toL[i - off]? else c.get i) ∧ G (k c')
 | .nil, c, off, k, h => ⟨c, fun i => by rw [if_neg (by simp [EVs.toL])], h⟩
 | .cons v l, c, off, k, h => by
  simp only [writeCells] at h
  obtain ⟨t, ht, h⟩ := Tr.put_spec hf _ _ _ _ h
  obtain ⟨c', hc, h⟩ := writeCells_spec l t _ _ h
  refine ⟨c', fun i => ?_, h⟩
  have hlen : (EVs.cons v l).toL.length = l.toL.length + 1 := rfl
  rw [hc, ht]
  by_cases e : i = off
  · subst e
    rw [if_neg (by omega), if_pos rfl, if_pos (by omega), Nat.sub_self]
    rfl
  · by_cases h2 : off.succ ≤ i ∧ i < off.succ + l.toL.length
    · rw [if_pos h2, if_pos (by omega), show i - off = (i - off.succ) + 1 by omega]
      rfl
    · rw [if_neg h2, if_neg e, if_neg (by omega)]
end
theorem forceI_spec {β : Type} {fail : β} {G : β → Prop} {n : Int} {k : Int → β} (h : G (forceI fail n k)) : G (k n) := by
 cases n <;> simp only [forceI, Nat.beq_refl, cond_true] at h <;> exact h
theorem eqInt_eq (a b : Int) : eqInt a b = (a == b) := by
 rw [Bool.eq_iff_iff]
 cases a <;> cases b <;> simp [eqInt] <;> omega
theorem ltInt_eq (a b : Int) : ltInt a b = decide (a < b) := by
 rw [Bool.eq_iff_iff]
 cases a <;> cases b <;> simp only [ltInt, Nat.blt, Nat.ble_eq, decide_eq_true_eq] <;> (try simp only [Int.ofNat_eq_natCast, Int.negSucc_eq]) <;> (try simp) <;> omega
theorem eqBytes_eq : ∀ a b : List UInt8, eqBytes a b = (a == b)
 | [], [] => rfl
 | [], b :: m => by simp [eqBytes]
 | a :: l, [] => by simp [eqBytes]
 | a :: l, b :: m => by
  have e : Nat.beq a.toNat b.toNat = (a == b) := by rw [Bool.eq_iff_iff]; simp [UInt8.toNat_inj]
  simp only [eqBytes, e, eqBytes_eq l m]
  cases h : a == b <;> simp_all
theorem ltBytes_eq : ∀ a b : List UInt8, ltBytes a b = Op.bytesLess a b
 | a, [] => by cases a <;> rfl
 | [], b :: m => rfl
 | a :: l, b :: m => by
  have e : Nat.beq a.toNat b.toNat = (a == b) := by rw [Bool.eq_iff_iff]; simp [UInt8.toNat_inj]
  have e2 : Nat.blt a.toNat b.toNat = decide (a < b) := by rw [Bool.eq_iff_iff]; simp [Nat.blt, UInt8.lt_iff_toNat_lt, Nat.succ_le_iff]
  simp only [ltBytes, Op.bytesLess, e, e2, ltBytes_eq l m]
  cases decide (a < b) <;> cases (a == b) <;> simp
theorem ikEq_eq {a b : IntKind} (h : ikEq a b = true) : a = b := by
 cases a <;> cases b <;> first | rfl | exact absurd h (by decide)
end Go.Proofs.YtendekbckfpmgaaGreat
namespace Go.Proofs.YtendekbckfpmgaaGreat
open Go Go.RowKit
def ER (σ : Sg) : List (EV × EV × Nat) → List MapEntry → Prop
 | [], m => m = []
 | (k, v, b) :: l, m => ∃ x r, m = x :: r ∧ VR σ k x.key ∧ VR σ v x.val ∧ x.born = b ∧ ER σ l r
theorem ER.mono {σ τ : Sg} (h : Le σ τ) : ∀ {l : List (EV × EV × Nat)} {m : List MapEntry}, ER σ l m → ER τ l m
 | [], _, H => H
 | (_, _, _) :: _, _, ⟨x, r, e, h1, h2, h3, h4⟩ => ⟨x, r, e, h1.mono h, h2.mono h, h3, ER.mono h h4⟩
theorem ER.len {σ : Sg} : ∀ {l : List (EV × EV × Nat)} {m : List MapEntry}, ER σ l m → l.length = m.length
 | [], _, H => by simp only [ER] at H; subst H; rfl
 | (_, _, _) :: _, _, ⟨x, r, e, _, _, _, h4⟩ => by subst e; simp [ER.len h4]
def CR (σ : Sg) (c : Tr EV) (arr : Array Value) : Prop := ∀ i e, c.get i = some e → ∃ v, arr[i]? = some v ∧ VR σ e v
theorem CR.mono {σ τ : Sg} (h : Le σ τ) {c : Tr EV} {arr : Array Value} (H : CR σ c arr) : CR τ c arr := fun i e he => let ⟨v, a, b⟩ := H i e he; ⟨v, a, b.mono h⟩
def stN : LoopState → Nat
 | .ready => 0
 | .busy => 1
 | .done => 2
 | .exhausted => 3
def SR (σ : Sg) (T : Tr EV) (tmps : Array Value) : Prop := ∀ i, VR σ ((T.get i).getD undefE) (tmps.getD i undef)
theorem SR.mono {σ τ : Sg} (h : Le σ τ) {T : Tr EV} {tmps : Array Value} (H : SR σ T tmps) : SR τ T tmps := fun i => (H i).mono h
def OR (σ : Sg) (l : Loc) : EO → Obj → Prop
 | .cells c n z, ob => ∃ arr t, ob = .cells arr t (0, 0) ∧ arr.size = l.tot ∧ n ≤ l.tot ∧ (z = 0 → n = l.tot) ∧ (0 < z → l.esz = z) ∧ CR σ c arr
 | .ro c z, ob => ∃ arr t fr, ob = .cells arr t fr ∧ arr.size = l.tot ∧ (0 < z → l.esz = z) ∧ CR σ c arr
 | .map es clock, ob => ∃ ms, ob = .map ms clock ∧ ER σ es ms.toList
 | .loop st pend nt T ps aw body, ob => ∃ r : Loop, ob = .loop r ∧ stN r.state = st ∧ r.pending = pend ∧ r.tmps.size = nt ∧ r.params.toList = ps ∧ r.assign = aw ∧ r.body = body ∧ SR σ T r.tmps
 | .dfr, ob => ob = .deferred (some [])
 | .mit m since seen last, ob => ∃ m', ob = .mapIter m' since seen.toArray last ∧ ((m = none ∧ m' = none) ∨ ∃ b lb, m = some b ∧ σ b = some lb ∧ m' = some lb.blk)
theorem OR.mono {σ τ : Sg} (h : Le σ τ) {l : Loc} {o : EO} {ob : Obj} (H : OR σ l o ob) : OR τ l o ob := by
 cases o with
 | cells c n z => obtain ⟨arr, t, e, a, b, c', d, f⟩ := H; exact ⟨arr, t, e, a, b, c', d, f.mono h⟩
 | ro c z => obtain ⟨arr, t, fr, e, a, b, d⟩ := H; exact ⟨arr, t, fr, e, a, b, d.mono h⟩
 | map es clock => obtain ⟨ms, e, a⟩ := H; exact ⟨ms, e, a.mono h⟩
 | loop st pend nt T ps aw body => obtain ⟨r, a1, a2, a3, a4, a5, a6, a7, a8⟩ := H; exact ⟨r, a1, a2, a3, a4, a5, a6, a7, a8.mono h⟩
 | dfr => exact H
 | mit m since seen last =>
  obtain ⟨m', a1, a2⟩ := H
  refine ⟨m', a1, a2.imp (fun h => h) fun ⟨b, lb, b1, b2, b3⟩ => ⟨b, lb, b1, h _ _ b2, b3⟩⟩
structure Holds (σ : Sg) (h : Tr EO) (w : World) : Prop where
 there : ∀ id o, h.get id = some o → ∃ l ob, σ id = some l ∧ w.heap[l.blk]? = some ob ∧ OR σ l o ob
 inj : ∀ i j li lj, (h.get i).isSome → (h.get j).isSome → σ i = some li → σ j = some lj → li.blk = lj.blk → i = j
structure Post (fl : Nat) (σ : Sg) (h : Tr EO) (nx : Nat) (w : World) (σ' : Sg) (h' : Tr EO) (nx' : Nat) (w' : World) : Prop where
 le : Le σ σ'
 new : ∀ id, id < nx → σ' id = σ id
 nxle : nx ≤ nx'
 fresh : ∀ id, nx' ≤ id → σ' id = none
 dom : ∀ id, (h'.get id).isSome → (h.get id).isSome ∨ (nx ≤ id ∧ id < nx')
 holds : Holds σ' h' w'
 floor : ∀ id, id < fl → h'.get id = h.get id
 size : w.heap.size ≤ w'.heap.size
 frame : ∀ b, b < w.heap.size → (∀ id l, (h.get id).isSome → σ id = some l → l.blk ≠ b) → w'.heap[b]? = w.heap[b]?
 own : ∀ id l, (h'.get id).isSome → σ' id = some l → w.heap.size ≤ l.blk ∨ ∃ j lj, (h.get j).isSome ∧ σ j = some lj ∧ lj.blk = l.blk
 os : w'.os = w.os
 tape : w'.tape = w.tape
 output : w'.output = w.output
def Fresh (σ : Sg) (nx : Nat) : Prop := ∀ id, nx ≤ id → σ id = none
theorem Post.refl {fl : Nat} {σ : Sg} {h : Tr EO} {nx : Nat} {w : World} (H : Holds σ h w) (F : Fresh σ nx) : Post fl σ h nx w σ h nx w where
 le := Le.refl _
 new := fun _ _ => rfl
 nxle := Nat.le_refl _
 fresh := F
 dom := fun _ h => .inl h
 holds := H
 floor := fun _ _ => rfl
 size := Nat.le_refl _
 frame := fun _ _ _ => rfl
 own := fun id l h e => .inr ⟨id, l, h, e, rfl⟩
 os := rfl
 tape := rfl
 output := rfl
theorem Post.trans {fl : Nat} {σ σ1 σ2 : Sg} {h h1 h2 : Tr EO} {nx n1 n2 : Nat} {w w1 w2 : World} (a : Post fl σ h nx w σ1 h1 n1 w1) (b : Post fl σ1 h1 n1 w1 σ2 h2 n2 w2) : Post fl σ h nx w σ2 h2 n2 w2 where
 le := a.le.trans b.le
 new := fun id hi => (b.new id (Nat.lt_of_lt_of_le hi a.nxle)).trans (a.new id hi)
 nxle := Nat.le_trans a.nxle b.nxle
 fresh := b.fresh
 dom := fun id hi => by
  rcases b.dom id hi with h' | ⟨h1, h2⟩
  · rcases a.dom id h' with h'' | ⟨h3, h4⟩
    · exact .inl h''
    · exact .inr ⟨h3, Nat.lt_of_lt_of_le h4 b.nxle⟩
  · exact .inr ⟨Nat.le_trans a.nxle h1, h2⟩
 holds := b.holds
 floor := fun id hi => (b.floor id hi).trans (a.floor id hi)
 size := Nat.le_trans a.size b.size
 frame := fun bk hb hne => by
  rw [b.frame bk (Nat.lt_of_lt_of_le hb a.size) (fun id l hs he hq => ?_), a.frame bk hb hne]
  rcases a.own id l hs he with h' | ⟨j, lj, hj, hje, hq'⟩
  · omega
  · exact hne j lj hj hje (hq'.trans hq)
 own := fun id l hs he => by
  rcases b.own id l hs he with h' | ⟨j, lj, hj, hje, hq⟩
  · exact .inl (Nat.le_trans a.size h')
  · rcases a.own j lj hj hje with h' | ⟨j', lj', h1, h2, h3⟩
    · exact .inl (hq ▸ h')
    · exact .inr ⟨j', lj', h1, h2, h3.trans hq⟩
 os := b.os.trans a.os
 tape := b.tape.trans a.tape
 output := b.output.trans a.output
def upd (σ : Sg) (n : Nat) (l : Loc) : Sg := fun i => if i = n then some l else σ i
theorem upd_same (σ : Sg) (n : Nat) (l : Loc) : upd σ n l n = some l := by simp [upd]
theorem upd_other (σ : Sg) {n i : Nat} (l : Loc) (h : i ≠ n) : upd σ n l i = σ i := by simp [upd, h]
theorem Le.upd {σ : Sg} {n : Nat} (h : σ n = none) (l : Loc) : Le σ (upd σ n l) := fun i li e => by
 by_cases hi : i = n
 · subst hi; rw [h] at e; cases e
 · rw [upd_other σ l hi]; exact e
theorem Holds.lt {σ : Sg} {h : Tr EO} {w : World} (H : Holds σ h w) {id : Nat} {l : Loc} (hs : (h.get id).isSome) (e : σ id = some l) : l.blk < w.heap.size := by
 obtain ⟨o, ho⟩ := Option.isSome_iff_exists.1 hs
 obtain ⟨l', ob, e', hb, _⟩ := H.there id o ho
 rw [e] at e'; cases e'
 exact (Array.getElem?_eq_some_iff.1 hb).1
theorem Holds.none {σ : Sg} {h : Tr EO} {w : World} (H : Holds σ h w) {nx : Nat} (F : Fresh σ nx) : h.get nx = none := by
 cases hg : h.get nx with
 | none => rfl
 | some o =>
  obtain ⟨l, ob, e, _⟩ := H.there nx o hg
  rw [F nx (Nat.le_refl _)] at e; cases e
theorem Post.mk_new {fl : Nat} {σ : Sg} {h h' : Tr EO} {nx : Nat} {w w' : World} {o : EO} {ob : Obj} {tot esz : Nat} (H : Holds σ h w) (F : Fresh σ nx) (hfl : fl ≤ nx)
 (hp : ∀ j, h'.get j = if j = nx then some o else h.get j) (hheap : w'.heap = w.heap.push ob) (hos : w'.os = w.os) (htape : w'.tape = w.tape) (hout : w'.output = w.output)
 (hob : OR (upd σ nx ⟨w.heap.size, tot, esz⟩) ⟨w.heap.size, tot, esz⟩ o ob) : Post fl σ h nx w (upd σ nx ⟨w.heap.size, tot, esz⟩) h' (Nat.succ nx) w' := by
 have hno := H.none F
 have hle : Le σ (upd σ nx ⟨w.heap.size, tot, esz⟩) := Le.upd (F nx (Nat.le_refl _)) _
 refine ⟨hle, fun id hi => upd_other _ _ (by omega), Nat.le_succ _, fun id hi => ?_, fun id hs => ?_, ⟨fun id o' ho' => ?_, fun i j li lj hi hj ei ej hb => ?_⟩, fun id hi => ?_, ?_, fun b hb _ => ?_, fun id l hs he => ?_, hos, htape, hout⟩
 · rw [upd_other _ _ (by omega)]; exact F id (by omega)
 · rw [hp] at hs
   by_cases e : id = nx
   · exact .inr (by omega)
   · rw [if_neg e] at hs; exact .inl hs
 · rw [hp] at ho'
   by_cases e : id = nx
   · rw [if_pos e] at ho'; cases ho'; subst e
     exact ⟨_, ob, upd_same _ _ _, by rw [hheap]; simp, hob⟩
   · rw [if_neg e] at ho'
     obtain ⟨l, ob', e1, e2, e3⟩ := H.there id o' ho'
     have hlt := (Array.getElem?_eq_some_iff.1 e2).1
     exact ⟨l, ob', hle _ _ e1, by rw [hheap, Array.getElem?_push, if_neg (by omega)]; exact e2, e3.mono hle⟩
 · rw [hp] at hi hj
   by_cases e : i = nx <;> by_cases e' : j = nx
   · rw [e, e']
   · rw [if_neg e'] at hj
     rw [e, upd_same] at ei; cases ei
     rw [upd_other _ _ e'] at ej
     have := H.lt hj ej
     simp only at hb; omega
   · rw [if_neg e] at hi
     rw [e', upd_same] at ej; cases ej
     rw [upd_other _ _ e] at ei
     have := H.lt hi ei
     simp only at hb; omega
   · rw [if_neg e] at hi; rw [if_neg e'] at hj
     rw [upd_other _ _ e] at ei; rw [upd_other _ _ e'] at ej
     exact H.inj i j li lj hi hj ei ej hb
 · rw [hp, if_neg (by omega)]
 · rw [hheap]; simp
 · rw [hheap, Array.getElem?_push, if_neg (by omega)]
 · rw [hp] at hs
   by_cases e : id = nx
   · rw [e, upd_same] at he; cases he; exact .inl (Nat.le_refl _)
   · rw [if_neg e] at hs; rw [upd_other _ _ e] at he
     exact .inr ⟨id, l, hs, he, rfl⟩
theorem Post.mk_set {fl : Nat} {σ : Sg} {h h' : Tr EO} {nx : Nat} {w w' : World} {o : EO} {ob : Obj} {b : Nat} {l : Loc} (H : Holds σ h w) (F : Fresh σ nx) (hfl : fl ≤ b) (hb : (h.get b).isSome) (hl : σ b = some l)
 (hp : ∀ j, h'.get j = if j = b then some o else h.get j) (hget : w'.heap[l.blk]? = some ob) (hoth : ∀ k, k ≠ l.blk → w'.heap[k]? = w.heap[k]?) (hsize : w'.heap.size = w.heap.size) (hos : w'.os = w.os) (htape : w'.tape = w.tape) (hout : w'.output = w.output)
 (hob : OR σ l o ob) : Post fl σ h nx w σ h' nx w' := by
 have hs : ∀ id, (h'.get id).isSome → (h.get id).isSome := fun id hs => by
  rw [hp] at hs
  by_cases e : id = b
  · rw [e]; exact hb
  · rw [if_neg e] at hs; exact hs
 refine ⟨Le.refl _, fun _ _ => rfl, Nat.le_refl _, F, fun id hi => .inl (hs id hi), ⟨fun id o' ho' => ?_, fun i j li lj hi hj ei ej hq => H.inj i j li lj (hs i hi) (hs j hj) ei ej hq⟩, fun id hi => ?_, ?_, fun k hk hne => ?_, fun id l' hi he => .inr ⟨id, l', hs id hi, he, rfl⟩, hos, htape, hout⟩
 · rw [hp] at ho'
   by_cases e : id = b
   · rw [if_pos e] at ho'; cases ho'; subst e
     exact ⟨l, ob, hl, hget, hob⟩
   · rw [if_neg e] at ho'
     obtain ⟨l', ob', e1, e2, e3⟩ := H.there id o' ho'
     refine ⟨l', ob', e1, ?_, e3⟩
     rw [hoth _ (fun hq => e (H.inj id b l' l (by rw [ho']; rfl) hb e1 hl hq))]
     exact e2
 · rw [hp, if_neg (by omega)]
 · rw [hsize]; exact Nat.le_refl _
 · exact hoth _ (fun e => hne b l hb hl e.symm)
structure TyOk (P : Program) (t : TypeId) (e : TyE) : Prop where
 info : ∃ i z, P.info? t = some i ∧ i.size = e.size ∧ i.bytes = e.bytes ∧ i.zero = some z ∧ z.cells.size = e.size ∧ (∀ σ, VR σ e.zv z) ∧ ∀ σ, VRs σ e.zero z.cells.toList
 und : P.underlying t = some e.desc
 agg : e.agg = (match e.desc with | .struct _ | .array _ _ => true | _ => false)
 eqg : e.eqg = false → P.eqGuardType P.depth t = false
 held : e.held = false → P.stoodInHeld t = false ∧ ∀ fs, e.desc = .struct fs → ∀ f ∈ fs.toList, f.name ≠ "_"
 flds : ∀ fs, e.desc = .struct fs → ∀ f ∈ fs.toList, (P.info? f.type).isSome
def ExtOk (P : Program) (f n : Nat) : Prop := ∀ (x y c : Nat) (w : World), c ≤ 1 →
 (n = 0 → (callFunc f #[.int .u64 (Int.ofNat x), .int .u64 (Int.ofNat y), .int .u64 (Int.ofNat c)]).run P w = .ok (.value (.tuple #[.int .u64 (Int.ofNat ((x + y + c) % 18446744073709551616)), .int .u64 (Int.ofNat ((x + y + c) / 18446744073709551616))])) w) ∧
 (n = 1 → (callFunc f #[.int .u64 (Int.ofNat x), .int .u64 (Int.ofNat y), .int .u64 (Int.ofNat c)]).run P w = .ok (.value (.tuple #[.int .u64 (Int.ofNat ((x + 18446744073709551616 - y - c) % 18446744073709551616)), .int .u64 (if x < y + c then 1 else 0)])) w)
structure TabOk (P : Program) (tab : Tab) : Prop where
 ty : ∀ t e, tab.ty.get t = some e → TyOk P t e
 fn : ∀ f fn, tab.fn.get f = some fn → P.funcs[f]? = some fn ∧ ∀ args w, (callFunc f args).run P w = .ok (.enter f args) w
 mixed : P.follows .mixedOrders = true
 ex : ∀ f n, tab.ex.get f = some n → ExtOk P f n
def GlOk (tab : Tab) (σ : Sg) : Prop := ∀ g id, tab.gl.get g = some id → ∃ l, σ id = some l ∧ l.blk = g
theorem GlOk.mono {tab : Tab} {σ τ : Sg} (h : Le σ τ) (H : GlOk tab σ) : GlOk tab τ := fun g id e => let ⟨l, a, b⟩ := H g id e; ⟨l, h id l a, b⟩
section
variable {P : Program} {t : TypeId} {e : TyE}
theorem TyOk.run_und (h : TyOk P t e) (w : World) : (underlying t).run P w = .ok e.desc w := run_underlying h.und w
theorem TyOk.run_size (h : TyOk P t e) (w : World) : (sizeOf t).run P w = .ok e.size w := by
 obtain ⟨i, z, h1, h2, _⟩ := h.info
 simp [sizeOf, typeInfo, h1, h2]
theorem TyOk.run_zero (h : TyOk P t e) (w : World) : ∃ z, (zeroValue t).run P w = .ok z w ∧ z.cells.size = e.size ∧ (∀ σ, VR σ e.zv z) ∧ ∀ σ, VRs σ e.zero z.cells.toList := by
 obtain ⟨i, z, h1, _, _, h2, h3, h4, h5⟩ := h.info
 exact ⟨z, by simp [zeroValue, typeInfo, h1, h2], h3, h4, h5⟩
theorem TyOk.run_agg (h : TyOk P t e) (w : World) : (isAgg t).run P w = .ok e.agg w := by
 unfold isAgg
 rw [Sem.run_bind, h.run_und, h.agg]
 cases e.desc <;> rfl
end
theorem addr_add' (b off j : Nat) : (⟨b, off, none⟩ : Addr).add j = ⟨b, off + j, none⟩ := by unfold Addr.add; split <;> simp_all
section
variable {P : Program} {tab : Tab} {β : Type} {fail : β} {G : β → Prop} (hf : ¬ G fail)
include hf
theorem rdB_spec {h : Tr EO} {b : Nat} {k : Tr EV → β} {σ : Sg} {w : World} (hg : G (rdB fail h b k)) (H : Holds σ h w) :
 ∃ c l arr t fr, σ b = some l ∧ w.heap[l.blk]? = some (.cells arr t fr) ∧ CR σ c arr ∧ G (k c) := by
 unfold rdB at hg
 cases ho : h.get b with
 | none => rw [ho] at hg; exact absurd hg hf
 | some o =>
  rw [ho] at hg
  obtain ⟨l, ob, h1, h2, h3⟩ := H.there b o ho
  cases o with
  | cells c n z => obtain ⟨arr, t, rfl, _, _, _, _, h4⟩ := h3; exact ⟨c, l, arr, t, _, h1, h2, h4, hg⟩
  | ro c z => obtain ⟨arr, t, fr, rfl, _, _, h4⟩ := h3; exact ⟨c, l, arr, t, fr, h1, h2, h4, hg⟩
  | map es clock => exact absurd hg hf
  | loop _ _ _ _ _ _ _ => exact absurd hg hf
  | dfr => exact absurd hg hf
  | mit _ _ _ _ => exact absurd hg hf
omit hf in
theorem cells_read {σ : Sg} {c : Tr EV} {arr : Array Value} {l : Loc} {w : World} {t : TypeId} {fr : Nat × Nat} (hb : w.heap[l.blk]? = some (.cells arr t fr)) (hc : CR σ c arr) {off : Nat} {es : EVs}
 (h : ∀ i, i < es.toL.length → c.get (off + i) = es.toL[i]?) : ∃ vs : List Value, VRs σ es vs ∧ vs.length = es.toL.length ∧ (∀ j v, vs[j]? = some v → w.cell? ((⟨l.blk, off, none⟩ : Addr).add j) = some v) := by
 have hex : ∀ i, i < es.toL.length → ∃ v, arr[off + i]? = some v := fun i hi => by
  obtain ⟨v, hv, _⟩ := hc (off + i) es.toL[i] (by rw [h i hi]; simp [hi])
  exact ⟨v, hv⟩
 refine ⟨(arr.toList.drop off).take es.toL.length, VRs.iff.2 ⟨?_, fun i e v he hv => ?_⟩, ?_, fun j v hv => ?_⟩
 · rcases Nat.eq_zero_or_pos es.toL.length with h0 | h0
   · simp [h0]
   · obtain ⟨v, hv⟩ := hex (es.toL.length - 1) (by omega)
     have := (Array.getElem?_eq_some_iff.1 hv).1
     simp only [List.length_take, List.length_drop, Array.length_toList]; omega
 · have hi : i < es.toL.length := (List.getElem?_eq_some_iff.1 he).1
   rw [List.getElem?_take_of_lt hi, List.getElem?_drop] at hv
   obtain ⟨v', hv', hr⟩ := hc (off + i) e (by rw [h i hi, he])
   rw [Array.getElem?_toList, hv'] at hv
   cases hv; exact hr
 · rcases Nat.eq_zero_or_pos es.toL.length with h0 | h0
   · simp [h0]
   · obtain ⟨v, hv⟩ := hex (es.toL.length - 1) (by omega)
     have := (Array.getElem?_eq_some_iff.1 hv).1
     simp only [List.length_take, List.length_drop, Array.length_toList]; omega
 · rw [addr_add']
   rw [List.getElem?_take] at hv
   split at hv
   · rw [List.getElem?_drop, Array.getElem?_toList] at hv
     simp [World.cell?, hb, hv]
   · cases hv
theorem loadE_spec (hT : TabOk P tab) {t : TypeId} {v : EV} {h : Tr EO} {k : EV → β} {σ : Sg} {w : World} {v' : Value} (hg : G (loadE tab fail t v h k)) (hv : VR σ v v') (H : Holds σ h w) :
 ∃ e a e', v' = .pointer (some a) ∧ (loadVar t a).run P w = .ok e' w ∧ VR σ e e' ∧ G (k e) := by
 unfold loadE at hg
 cases v with
 | ptr b off =>
  obtain ⟨c, l, arr, t', fr, h1, h2, h3, hg⟩ := rdB_spec hf hg H
  simp only [VR] at hv
  obtain ⟨l', e1, rfl⟩ := hv
  rw [h1] at e1; cases e1
  cases hi : tab.ty.get t with
  | none => simp only [hi] at hg; exact absurd hg hf
  | some i =>
   simp only [hi] at hg
   have hty := hT.ty t i hi
   cases ha : i.agg with
   | true =>
    rw [ha] at hg
    simp only [cond_true] at hg
    obtain ⟨es, a1, a2, hg⟩ := readCells_spec hf _ _ _ hg
    obtain ⟨vs, b1, b2, b3⟩ := cells_read h2 h3 (off := off) (es := es) (fun i hi => a2 i (by omega))
    refine ⟨_, _, .agg vs.toArray, rfl, ?_, ?_, hg⟩
    · have hr := run_loadCells_list (P := P) w ⟨l.blk, off, none⟩ vs b3
      rw [b2, a1] at hr
      unfold loadVar
      simp only [Sem.run_bind, hty.run_agg, ha, Result.andThen_ok, if_true, hty.run_size, hr, Sem.run_pure]
    · simp only [VR]; exact ⟨_, rfl, by simpa using b1⟩
   | false =>
    rw [ha] at hg
    simp only [cond_false] at hg
    cases hc : c.get off with
    | none => rw [hc] at hg; exact absurd hg hf
    | some e =>
     rw [hc] at hg
     obtain ⟨v, hv, hr⟩ := h3 off e hc
     refine ⟨e, _, v, rfl, ?_, hr, hg⟩
     unfold loadVar
     have hcell : w.cell? ⟨l.blk, off, none⟩ = some v := by simp [World.cell?, h2, hv]
     simp only [Sem.run_bind, hty.run_agg, ha, Result.andThen_ok, Bool.false_eq_true, if_false]
     simp [load, Sem.run, hcell]
 | _ => exact absurd hg hf
end
end Go.Proofs.YtendekbckfpmgaaGreat
namespace Go.Proofs.YtendekbckfpmgaaGreat
open Go Go.RowKit
mutual
theorem sameEV_eq : ∀ a b : EV, sameEV a b = true → a = b
 | .bool a, .bool b, h => by simp only [sameEV, beq_iff_eq] at h; rw [h]
 | .int k a, .int j b, h => by
  simp only [sameEV, Bool.and_eq_true] at h
  rw [ikEq_eq h.1]
  have := h.2
  rw [eqInt_eq, beq_iff_eq] at this
  rw [this]
 | .str a, .str b, h => by simp only [sameEV, eqBytes_eq, beq_iff_eq] at h; rw [h]
 | .agg a, .agg b, h => by simp only [sameEV] at h; rw [sameEVs_eq a b h]
 | .bool _, .int _ _, h => by simp only [sameEV] at h; cases h
 | a, b, h => by
  cases a <;> cases b <;> first
   | (simp only [sameEV] at h; cases h; done)
   | (simp only [sameEV, beq_iff_eq] at h; rw [h]; done)
   | (simp only [sameEV, Bool.and_eq_true] at h; rw [ikEq_eq h.1]; have := h.2; rw [eqInt_eq, beq_iff_eq] at this; rw [this]; done)
   | (simp only [sameEV, eqBytes_eq, beq_iff_eq] at h; rw [h]; done)
   | (simp only [sameEV] at h; rw [sameEVs_eq _ _ h]; done)
theorem sameEVs_eq : ∀ a b : EVs, sameEVs a b = true → a = b
 | .nil, .nil, _ => rfl
 | .cons a l, .cons b m, h => by
  simp only [sameEVs, Bool.and_eq_true] at h
  rw [sameEV_eq a b h.1, sameEVs_eq l m h.2]
 | .nil, .cons _ _, h => by simp only [sameEVs] at h; cases h
 | .cons _ _, .nil, h => by simp only [sameEVs] at h; cases h
end
theorem optNEq_eq {a b : Option Nat} (h : optNEq a b = true) : a = b := by
 cases a <;> cases b <;> simp only [optNEq] at h
 · rfl
 · cases h
 · cases h
 · rw [Nat.eq_of_beq_eq_true h]
mutual
theorem sameE_eq : ∀ a b : EV, sameE a b = true → a = b
 | .func f a b, .func g c d, h => by
  simp only [sameE, Bool.and_eq_true] at h
  rw [Nat.eq_of_beq_eq_true h.1.1, sameEs_eq a c h.1.2, sameEs_eq b d h.2]
 | .iface t a, .iface u b, h => by
  simp only [sameE, Bool.and_eq_true] at h
  rw [Nat.eq_of_beq_eq_true h.1, sameE_eq a b h.2]
 | .agg a, .agg b, h => by simp only [sameE] at h; rw [sameEs_eq a b h]
 | .tup a, .tup b, h => by simp only [sameE] at h; rw [sameEs_eq a b h]
 | a, b, h => by
  cases a <;> cases b <;> first
   | rfl
   | (simp only [sameE] at h; cases h; done)
   | (simp only [sameE, beq_iff_eq] at h; rw [h]; done)
   | (simp only [sameE, Bool.and_eq_true] at h; rw [ikEq_eq h.1]; have := h.2; rw [eqInt_eq, beq_iff_eq] at this; rw [this]; done)
   | (simp only [sameE, eqBytes_eq, beq_iff_eq] at h; rw [h]; done)
   | (simp only [sameE] at h; rw [Nat.eq_of_beq_eq_true h]; done)
   | (simp only [sameE] at h; rw [ikEq_eq h]; done)
   | (simp only [sameE, Bool.and_eq_true] at h; rw [ikEq_eq h.1.1]; have h1 := h.1.2; have h2 := h.2; rw [eqInt_eq, beq_iff_eq] at h1 h2; rw [h1, h2]; done)
   | (simp only [sameE, Bool.and_eq_true] at h; rw [Nat.eq_of_beq_eq_true h.1, Nat.eq_of_beq_eq_true h.2]; done)
   | (simp only [sameE, Bool.and_eq_true] at h; rw [Nat.eq_of_beq_eq_true h.1.1.1, Nat.eq_of_beq_eq_true h.1.1.2, Nat.eq_of_beq_eq_true h.1.2, optNEq_eq h.2]; done)
   | (simp only [sameE] at h; rw [sameEs_eq _ _ h]; done)
   | (simp only [sameE, Bool.and_eq_true] at h; rw [Nat.eq_of_beq_eq_true h.1, sameE_eq _ _ h.2]; done)
   | (simp only [sameE, Bool.and_eq_true] at h; rw [Nat.eq_of_beq_eq_true h.1.1, sameEs_eq _ _ h.1.2, sameEs_eq _ _ h.2]; done)
theorem sameEs_eq : ∀ a b : EVs, sameEs a b = true → a = b
 | .nil, .nil, _ => rfl
 | .cons a l, .cons b m, h => by
  simp only [sameEs, Bool.and_eq_true] at h
  rw [sameE_eq a b h.1, sameEs_eq l m h.2]
 | .nil, .cons _ _, h => by simp only [sameEs] at h; cases h
 | .cons _ _, .nil, h => by simp only [sameEs] at h; cases h
end
theorem optE_eq {a b : Option EV} (h : optE a b = true) : a = b := by
 cases a <;> cases b <;> simp only [optE] at h
 · rfl
 · cases h
 · cases h
 · rw [sameE_eq _ _ h]
theorem sameTr_eq : ∀ a b : Tr EV, sameTr a b = true → a = b
 | .nil, .nil, _ => rfl
 | .node l x r, .node l' x' r', h => by
  simp only [sameTr, Bool.and_eq_true] at h
  rw [sameTr_eq l l' h.1.1, optE_eq h.1.2, sameTr_eq r r' h.2]
 | .nil, .node .., h => by simp only [sameTr] at h; cases h
 | .node .., .nil, h => by simp only [sameTr] at h; cases h
theorem sameEnts_eq : ∀ a b : List (EV × EV × Nat), sameEnts a b = true → a = b
 | [], [], _ => rfl
 | (a1, a2, a3) :: l, (b1, b2, b3) :: m, h => by
  simp only [sameEnts, Bool.and_eq_true] at h
  rw [sameE_eq _ _ h.1.1.1, sameE_eq _ _ h.1.1.2, Nat.eq_of_beq_eq_true h.1.2, sameEnts_eq l m h.2]
 | [], _ :: _, h => by simp only [sameEnts] at h; cases h
 | _ :: _, [], h => by simp only [sameEnts] at h; cases h
theorem sameO_eq {a b : EO} (h : sameO a b = true) : a = b := by
 unfold sameO at h
 split at h
 · simp only [Bool.and_eq_true] at h
   rw [sameTr_eq _ _ h.1.1, Nat.eq_of_beq_eq_true h.1.2, Nat.eq_of_beq_eq_true h.2]
 · simp only [Bool.and_eq_true] at h
   rw [sameTr_eq _ _ h.1, Nat.eq_of_beq_eq_true h.2]
 · simp only [Bool.and_eq_true] at h
   rw [sameEnts_eq _ _ h.1, Nat.eq_of_beq_eq_true h.2]
 · rfl
 · cases h
theorem meetTr_spec : ∀ {a b : Tr EO} {n : Nat} {o : EO}, (meetTr a b).get n = some o → a.get n = some o ∧ b.get n = some o
 | .nil, b, n, o, h => by simp only [meetTr, Tr.get_nil] at h; cases h
 | .node _ _ _, .nil, n, o, h => by simp only [meetTr, Tr.get_nil] at h; cases h
 | .node l x r, .node l' x' r', n, o, h => by
  simp only [meetTr] at h
  rw [Tr.get_node] at h ⊢
  rw [Tr.get_node]
  by_cases h0 : n = 0
  · rw [if_pos h0] at h ⊢
    rw [if_pos h0]
    cases x with
    | none => cases h
    | some p =>
     cases x' with
     | none => cases h
     | some q =>
      simp only at h
      cases hs : sameO p q with
      | false => rw [hs] at h; cases h
      | true =>
       rw [hs] at h
       have := sameO_eq hs
       subst this
       exact ⟨h, h⟩
  · rw [if_neg h0] at h ⊢
    rw [if_neg h0]
    by_cases h1 : n % 2 = 1
    · rw [if_pos h1] at h ⊢
      rw [if_pos h1]
      exact meetTr_spec h
    · rw [if_neg h1] at h ⊢
      rw [if_neg h1]
      exact meetTr_spec h
section
variable {P : Program} {tab : Tab} (hT : TabOk P tab)
include hT
theorem partE_spec {t : TypeId} {l : EVs} {off : Nat} {e : EV} {σ : Sg} {cs : Array Value} (h : partE tab t l off = some e) (hl : VRs σ l cs.toList) (w : World) :
 ∃ e', (part t cs off).run P w = .ok e' w ∧ VR σ e e' := by
 unfold partE at h
 cases hi : tab.ty.get t with
 | none => simp only [hi] at h; cases h
 | some i =>
  simp only [hi] at h
  have hty := hT.ty t i hi
  cases ha : i.agg with
  | true =>
   simp only [ha, cond_true, Option.some.injEq] at h
   subst h
   refine ⟨.agg (cs.extract off (off + i.size)), ?_, ?_⟩
   · unfold part
     simp only [Sem.run_bind, hty.run_agg, ha, Result.andThen_ok, if_true, hty.run_size, Sem.run_pure]
   · simp only [VR]
     refine ⟨_, rfl, ?_⟩
     have : (cs.extract off (off + i.size)).toList = (cs.toList.drop off).take i.size := by
      simp [List.extract_eq_take_drop]
     rw [this]
     exact (hl.drop off).take i.size
  | false =>
   simp only [ha, cond_false] at h
   rw [EVs.get_toL] at h
   obtain ⟨v, hv, hr⟩ := hl.get h
   rw [Array.getElem?_toList] at hv
   refine ⟨v, ?_, hr⟩
   unfold part
   simp only [Sem.run_bind, hty.run_agg, ha, Result.andThen_ok, Bool.false_eq_true, if_false, hv, Sem.run_pure]
theorem eqFs_spec {eq : TypeId → EV → EV → Option Bool} {D : Nat} {a b : EVs} {σ : Sg} {xs ys : Array Value} (w : World)
 (ih : ∀ (t : TypeId) (u v : EV) (r : Bool), eq t u v = some r → ∀ (x' y' : Value), VR σ u x' → VR σ v y' → (Op.equalIn D t x' y').run P w = .ok r w) (ha : VRs σ a xs.toList) (hb : VRs σ b ys.toList) :
 ∀ (fs : List Field) (r : Bool), eqFs tab eq a b fs = some r → (∀ f ∈ fs, f.name ≠ "_") → (Op.eqFields D xs ys fs).run P w = .ok r w
 | [], r, h, _ => by simp only [eqFs, Option.some.injEq] at h; subst h; simp [Op.eqFields]
 | f :: fs, r, h, hn => by
  simp only [eqFs] at h
  cases h1 : partE tab f.type a f.offset with
  | none => simp only [h1] at h; cases h
  | some u =>
   simp only [h1] at h
   cases h2 : partE tab f.type b f.offset with
   | none => simp only [h2] at h; cases h
   | some v =>
    simp only [h2] at h
    obtain ⟨u', r1, q1⟩ := partE_spec hT h1 ha w
    obtain ⟨v', r2, q2⟩ := partE_spec hT h2 hb w
    have hf : f.name ≠ "_" := hn f (by simp)
    simp only [Op.eqFields, hf, ne_eq, not_false_eq_true, if_true, Sem.run_bind, r1, Result.andThen_ok, r2]
    cases h3 : eq f.type u v with
    | none => simp only [h3] at h; cases h
    | some c =>
     simp only [h3] at h
     rw [ih f.type u v c h3 u' v' q1 q2]
     cases c with
     | true =>
      simp only [Result.andThen_ok, Bool.not_true, Bool.false_eq_true, if_false]
      exact eqFs_spec w ih ha hb fs r h (fun f hf => hn f (by simp [hf]))
     | false =>
      simp only [Option.some.injEq] at h
      subst h
      simp
theorem eqT_spec : ∀ (d : Nat) (t : TypeId) (x y : EV) (b : Bool), eqT tab d t x y = some b → ∀ (σ : Sg) (D : Nat) (x' y' : Value) (w : World), d ≤ D → VR σ x x' → VR σ y y' → (Op.equalIn D t x' y').run P w = .ok b w
 | 0, t, x, y, b, h, σ, D, x', y', w, hD, hx, hy => by simp only [eqT] at h; cases h
 | d + 1, t, x, y, b, h, σ, D, x', y', w, hD, hx, hy => by
  obtain ⟨D, rfl⟩ : ∃ D', D = D' + 1 := ⟨D - 1, by omega⟩
  unfold eqT at h
  cases hi : tab.ty.get t with
  | none => simp only [hi] at h; cases h
  | some i =>
   simp only [hi] at h
   have hty := hT.ty t i hi
   have hu := hty.und
   cases hd : i.desc with
   | bool =>
    rw [hd] at hu
    simp only [hd] at h
    split at h
    · simp only [VR] at hx hy
      subst hx; subst hy
      rw [run_equalIn_bool' _ _ _ _ _ hu]
      exact congrArg (Result.ok · w) (Option.some.inj h)
    · cases h
   | int k =>
    rw [hd] at hu
    simp only [hd] at h
    split at h
    · rename_i k1 a k2 b'
      simp only [VR] at hx hy
      subst hx; subst hy
      cases hk : ikEq k1 k2 with
      | false => rw [hk] at h; cases h
      | true =>
       rw [hk] at h
       have := ikEq_eq hk
       subst this
       rw [run_equalIn_int _ _ _ _ _ _ _ hu, ← eqInt_eq]
       exact congrArg (Result.ok · w) (Option.some.inj h)
    · cases h
   | string =>
    rw [hd] at hu
    simp only [hd] at h
    split at h
    · simp only [VR] at hx hy
      subst hx; subst hy
      rw [run_equalIn_string _ _ _ _ _ hu]
      rw [eqBytes_eq] at h
      simp only [ByteArray.toList_eq]
      exact congrArg (Result.ok · w) (Option.some.inj h)
    · cases h
   | pointer e =>
    rw [hd] at hu
    simp only [hd] at h
    split at h
    · simp only [VR] at hx hy
      subst hx; subst hy; cases h; simp [Op.equalIn, run_underlying hu]
    · simp only [VR] at hx hy
      obtain ⟨_, _, rfl⟩ := hy; subst hx; cases h; simp [Op.equalIn, run_underlying hu]
    · simp only [VR] at hx hy
      obtain ⟨_, _, rfl⟩ := hx; subst hy; cases h; simp [Op.equalIn, run_underlying hu]
    · cases h
   | slice e =>
    rw [hd] at hu
    simp only [hd] at h
    split at h
    · simp only [VR] at hx hy
      subst hx; subst hy; cases h; simp [Op.equalIn, run_underlying hu]
    · simp only [VR] at hx hy
      obtain ⟨_, _, rfl, _⟩ := hy; subst hx; cases h; simp [Op.equalIn, run_underlying hu]
    · simp only [VR] at hx hy
      obtain ⟨_, _, rfl, _⟩ := hx; subst hy; cases h; simp [Op.equalIn, run_underlying hu]
    · cases h
   | map k e =>
    rw [hd] at hu
    simp only [hd] at h
    split at h
    · simp only [VR] at hx hy
      subst hx; subst hy; cases h; simp [Op.equalIn, run_underlying hu]
    · simp only [VR] at hx hy
      obtain ⟨_, _, rfl⟩ := hy; subst hx; cases h; simp [Op.equalIn, run_underlying hu]
    · simp only [VR] at hx hy
      obtain ⟨_, _, rfl⟩ := hx; subst hy; cases h; simp [Op.equalIn, run_underlying hu]
    · cases h
   | func ps rs v =>
    rw [hd] at hu
    simp only [hd] at h
    split at h
    · simp only [VR] at hx hy
      subst hx; subst hy; cases h; simp [Op.equalIn, run_underlying hu]
    · simp only [VR] at hx hy
      obtain ⟨_, _, rfl, _⟩ := hy; subst hx; cases h; simp [Op.equalIn, run_underlying hu]
    · simp only [VR] at hx hy
      obtain ⟨_, _, rfl, _⟩ := hx; subst hy; cases h; simp [Op.equalIn, run_underlying hu]
    · cases h
   | interface ms =>
    rw [hd] at hu
    simp only [hd] at h
    split at h
    · simp only [VR] at hx hy
      obtain ⟨_, rfl, _⟩ := hx; subst hy; cases h; simp [Op.equalIn, run_underlying hu]
    · cases h
   | struct fs =>
    rw [hd] at hu
    simp only [hd] at h
    split at h
    · cases hh : i.held with
      | true => rw [hh] at h; cases h
      | false =>
       rw [hh] at h
       simp only [cond_false] at h
       obtain ⟨hp, hn⟩ := hty.held hh
       have hfs : P.fieldsOf t = fs := by simp [Program.fieldsOf, hu]
       simp only [VR] at hx hy
       obtain ⟨xs, rfl, hxs⟩ := hx
       obtain ⟨ys, rfl, hys⟩ := hy
       rw [run_equalIn_struct w D t xs ys (by rw [hfs]; exact hu) hp, hfs]
       exact eqFs_spec hT w (fun t u v r hr x' y' hx hy => eqT_spec d t u v r hr σ D x' y' w (by omega) hx hy) hxs hys fs.toList b h (hn fs hd)
    · cases h
   | _ => simp only [hd] at h; cases h
theorem keyFs_spec {key : TypeId → EV → Bool} {em : Bool} {D : Nat} {a : EVs} {σ : Sg} {xs : Array Value} (w : World)
 (ih : ∀ (t : TypeId) (u : EV), key t u = true → ∀ (x' : Value), VR σ u x' → (Instr.checkKey em D t x').run P w = .ok () w) (ha : VRs σ a xs.toList) :
 ∀ (fs : List Field), keyFs tab key a fs = true →
  (forIn fs PUnit.unit (fun f _ => do
   if f.name ≠ "_" then Instr.checkKey em D f.type (← part f.type xs f.offset)
   pure (ForInStep.yield PUnit.unit)) : Sem PUnit).run P w = .ok () w
 | [], h => by simp
 | f :: fs, h => by
  simp only [keyFs] at h
  cases h1 : partE tab f.type a f.offset with
  | none => simp only [h1] at h; cases h
  | some u =>
   simp only [h1] at h
   cases h2 : key f.type u with
   | false => simp only [h2] at h; cases h
   | true =>
    simp only [h2] at h
    simp only [cond_true] at h
    obtain ⟨u', r1, q1⟩ := partE_spec hT h1 ha w
    have hrest := keyFs_spec w ih ha fs h
    rw [List.forIn_cons]
    by_cases hf : f.name = "_"
    · simp only [hf, ne_eq, not_true_eq_false, if_false, Sem.run_bind, Sem.run_pure, Result.andThen_ok]
      exact hrest
    · simp only [hf, ne_eq, not_false_eq_true, if_true, Sem.run_bind, r1, Result.andThen_ok, ih f.type u h2 u' q1, Sem.run_pure]
      exact hrest
theorem keyT_spec : ∀ (d : Nat) (t : TypeId) (x : EV), keyT tab d t x = true → ∀ (em : Bool) (σ : Sg) (D : Nat) (x' : Value) (w : World), d ≤ D → VR σ x x' → (Instr.checkKey em D t x').run P w = .ok () w
 | 0, t, x, h, em, σ, D, x', w, hD, hx => by simp only [keyT] at h; cases h
 | d + 1, t, x, h, em, σ, D, x', w, hD, hx => by
  obtain ⟨D, rfl⟩ : ∃ D', D = D' + 1 := ⟨D - 1, by omega⟩
  unfold keyT at h
  cases hi : tab.ty.get t with
  | none => simp only [hi] at h; cases h
  | some i =>
   simp only [hi] at h
   have hty := hT.ty t i hi
   have hu := hty.und
   cases hd : i.desc with
   | bool => rw [hd] at hu; simp [Instr.checkKey, run_underlying hu]
   | int k => rw [hd] at hu; simp [Instr.checkKey, run_underlying hu]
   | string => rw [hd] at hu; simp [Instr.checkKey, run_underlying hu]
   | struct fs =>
    rw [hd] at hu
    simp only [hd] at h
    split at h
    · cases hh : i.held with
      | true => rw [hh] at h; cases h
      | false =>
       rw [hh] at h
       simp only [cond_false] at h
       simp only [VR] at hx
       obtain ⟨xs, rfl, hxs⟩ := hx
       have := keyFs_spec hT w (fun t u hu x' hx => keyT_spec d t u hu em σ D x' w (by omega) hx) hxs fs.toList h
       simp only [Instr.checkKey, Sem.run_bind, run_underlying hu, Result.andThen_ok]
       rw [← Array.forIn_toList]
       simp only at this ⊢
       rw [this]
       rfl
    · cases h
   | _ => simp only [hd] at h; cases h
def posE (tab : Tab) (kt : TypeId) (key : EV) : List (EV × EV × Nat) → Option (Option Nat)
 | [] => some none
 | (a, _, _) :: l => match eqT tab 20 kt key a with
  | some true => some (some 0)
  | some false => match posE tab kt key l with
   | some (some i) => some (some (i + 1))
   | some none => some none
   | none => none
  | none => none
omit hT in
theorem findE_pos {kt : TypeId} {key : EV} : ∀ {l : List (EV × EV × Nat)} {r : Option EV}, findE tab kt key l = some r →
 (r = none ∧ posE tab kt key l = some none) ∨ (∃ i a v b, r = some v ∧ posE tab kt key l = some (some i) ∧ l[i]? = some (a, v, b))
 | [], r, h => by simp only [findE, Option.some.injEq] at h; exact .inl ⟨h.symm, rfl⟩
 | (a, v, b) :: l, r, h => by
  simp only [findE] at h
  simp only [posE]
  cases hq : eqT tab 20 kt key a with
  | none => simp only [hq] at h; cases h
  | some c =>
   simp only [hq] at h ⊢
   cases c with
   | true => simp only [Option.some.injEq] at h; exact .inr ⟨0, a, v, b, h.symm, rfl, rfl⟩
   | false =>
    simp only at h ⊢
    rcases findE_pos h with ⟨h1, h2⟩ | ⟨i, a', v', b', h1, h2, h3⟩
    · exact .inl ⟨h1, by rw [h2]⟩
    · exact .inr ⟨i + 1, a', v', b', h1, by rw [h2], by simpa using h3⟩
omit hT in
theorem updE_pos {kt : TypeId} {key y : EV} {clock : Nat} : ∀ {l l' : List (EV × EV × Nat)} {c' : Nat}, updE tab kt key y clock l = some (l', c') →
 (posE tab kt key l = some none ∧ l' = l ++ [(key, y, clock)] ∧ c' = clock + 1) ∨ (∃ i v b, posE tab kt key l = some (some i) ∧ l[i]? = some (key, v, b) ∧ l' = l.set i (key, y, b) ∧ c' = clock)
 | [], l', c', h => by
  simp only [updE, Option.some.injEq, Prod.mk.injEq] at h
  exact .inl ⟨rfl, h.1.symm, h.2.symm⟩
 | (a, v, b) :: l, l', c', h => by
  simp only [updE] at h
  simp only [posE]
  cases hq : eqT tab 20 kt key a with
  | none => simp only [hq] at h; cases h
  | some c =>
   simp only [hq] at h ⊢
   cases c with
   | true =>
    cases hse : sameEV key a with
    | false => simp only [hse, cond_false] at h; cases h
    | true =>
     simp only [hse, cond_true, Option.some.injEq, Prod.mk.injEq] at h
     have := sameEV_eq key a hse
     subst this
     exact .inr ⟨0, v, b, rfl, rfl, h.1.symm, h.2.symm⟩
   | false =>
    simp only at h ⊢
    cases hu : updE tab kt key y clock l with
    | none => simp only [hu] at h; cases h
    | some p =>
     obtain ⟨m, c2⟩ := p
     simp only [hu, Option.some.injEq, Prod.mk.injEq] at h
     obtain ⟨rfl, rfl⟩ := h
     rcases updE_pos hu with ⟨h1, h2, h3⟩ | ⟨i, v', b', h1, h2, h3, h4⟩
     · exact .inl ⟨by rw [h1], by rw [h2]; rfl, h3⟩
     · exact .inr ⟨i + 1, v', b', by rw [h1], by simpa using h2, by rw [h3]; rfl, h4⟩
omit hT in
theorem delE_pos {kt : TypeId} {key : EV} : ∀ {l l' : List (EV × EV × Nat)}, delE tab kt key l = some l' →
 (posE tab kt key l = some none ∧ l' = l) ∨ (∃ i, posE tab kt key l = some (some i) ∧ i < l.length ∧ l' = l.eraseIdx i)
 | [], l', h => by simp only [delE, Option.some.injEq] at h; exact .inl ⟨rfl, h.symm⟩
 | (a, v, b) :: l, l', h => by
  simp only [delE] at h
  simp only [posE]
  cases hq : eqT tab 20 kt key a with
  | none => simp only [hq] at h; cases h
  | some c =>
   simp only [hq] at h ⊢
   cases c with
   | true => simp only [Option.some.injEq] at h; exact .inr ⟨0, rfl, by simp, by rw [← h]; rfl⟩
   | false =>
    simp only at h ⊢
    cases hu : delE tab kt key l with
    | none => simp only [hu] at h; cases h
    | some m =>
     simp only [hu, Option.some.injEq] at h
     subst h
     rcases delE_pos hu with ⟨h1, h2⟩ | ⟨i, h1, h2, h3⟩
     · exact .inl ⟨by rw [h1], by rw [h2]⟩
     · exact .inr ⟨i + 1, by rw [h1], by simpa using h2, by rw [h3]; rfl⟩
def keyAt (es : List MapEntry) (r : Option Nat) : Option (Nat × Value) := r.bind fun i => (es[i]?).map fun e => (i, e.val)
theorem sameNow_eq {kt : TypeId} {d : TypeDesc} {key a : EV} {c r : Bool} {x y : Value} {σ : Sg} (hu : P.underlying kt = some d) (h : eqT tab 20 kt key a = some c) (hx : VR σ key x) (hy : VR σ a y)
 (hs : Instr.sameNow d x y = some r) : r = c := by
 have h2 := eqT_spec hT 20 kt key a c h σ 20 x y default (by omega) hx hy
 unfold Instr.sameNow at hs
 split at hs
 · rename_i k1 k2 a1 k3 b1
   by_cases hk : k2 = k3
   · subst hk
     rw [if_pos rfl] at hs
     cases hs
     rw [run_equalIn_int _ _ _ _ _ _ _ hu] at h2
     injection h2
   · rw [if_neg hk] at hs; cases hs
 · cases hs
   rw [run_equalIn_string _ _ _ _ _ hu] at h2
   injection h2 with h2 _
   rw [← h2, beq_toListBytes]
 · cases hs
   rw [run_equalIn_bool' _ _ _ _ _ hu] at h2
   injection h2
 · cases hs
theorem find_spec {kt : TypeId} {d : TypeDesc} {key : EV} {σ : Sg} {x : Value} (hu : P.underlying kt = some d) (hx : VR σ key x) (w : World) : ∀ {l : List (EV × EV × Nat)} {es : List MapEntry} {r : Option Nat} (i0 : Nat),
 posE tab kt key l = some r → ER σ l es → (Instr.findAsking kt x es i0).run P w = .ok (r.bind fun i => (es[i]?).map fun e => (i0 + i, e.val)) w ∧
  ∀ q, Instr.findNow d x es i0 = some q → q = (r.bind fun i => (es[i]?).map fun e => (i0 + i, e.val))
 | [], es, r, i0, h, he => by
  simp only [posE, Option.some.injEq] at h
  simp only [ER] at he
  subst h; subst he
  exact ⟨by simp [Instr.findAsking], fun q hq => by simp [Instr.findNow] at hq; simp [hq]⟩
 | (a, v, b) :: l, es, r, i0, h, he => by
  simp only [posE] at h
  obtain ⟨e, es', rfl, h1, h2, h3, h4⟩ := he
  cases hq : eqT tab 20 kt key a with
  | none => simp only [hq] at h; cases h
  | some c =>
   simp only [hq] at h
   have hr := eqT_spec hT 20 kt key a c hq σ Op.maxDepth x e.key w (by simp [Op.maxDepth]) hx h1
   cases c with
   | true =>
    simp only [Option.some.injEq] at h
    subst h
    refine ⟨by simp [Instr.findAsking, Op.equal, hr], fun q hq' => ?_⟩
    unfold Instr.findNow at hq'
    split at hq'
    · cases hq'; rfl
    · rename_i hs; have := sameNow_eq hT hu hq hx h1 hs; cases this
    · cases hq'
   | false =>
    simp only at h
    cases hp : posE tab kt key l with
    | none => simp only [hp] at h; cases h
    | some r' =>
     obtain ⟨a1, a2⟩ := find_spec hu hx w (i0 + 1) hp h4
     have hrr : r = r'.map (· + 1) := by cases r' <;> simp only [hp, Option.some.injEq] at h <;> exact h.symm
     have hgo : (r.bind fun i => ((e :: es')[i]?).map fun e => (i0 + i, e.val)) = (r'.bind fun i => (es'[i]?).map fun e => (i0 + 1 + i, e.val)) := by
      subst hrr
      cases r' with
      | none => rfl
      | some i => simp [Nat.add_assoc, Nat.add_comm 1 i]
     rw [hgo]
     refine ⟨by simp [Instr.findAsking, Op.equal, hr, a1], fun q hq' => ?_⟩
     unfold Instr.findNow at hq'
     split at hq'
     · rename_i hs; have := sameNow_eq hT hu hq hx h1 hs; cases this
     · exact a2 q hq'
     · cases hq'
theorem findKey_spec {kt : TypeId} {d : TypeDesc} {key : EV} {σ : Sg} {x : Value} (hu : P.underlying kt = some d) (hx : VR σ key x) (w : World) {l : List (EV × EV × Nat)} {es : List MapEntry} {r : Option Nat}
 (hp : posE tab kt key l = some r) (he : ER σ l es) : (Instr.findKey kt x es).run P w = .ok (keyAt es r) w := by
 obtain ⟨a1, a2⟩ := find_spec hT hu hx w 0 hp he
 simp only [Nat.zero_add] at a1 a2
 unfold Instr.findKey
 simp only [Sem.run_bind, run_underlying hu, Result.andThen_ok]
 split
 · rename_i q hq; rw [Sem.run_pure, a2 q hq]; rfl
 · exact a1
end
end Go.Proofs.YtendekbckfpmgaaGreat
namespace Go.Proofs.YtendekbckfpmgaaGreat
open Go Go.RowKit
section
variable {P : Program} {tab : Tab} {β : Type} {fail : β} {G : β → Prop} (hf : ¬ G fail) (hT : TabOk P tab)
include hf hT
theorem elemE_spec {t : TypeId} {k : TypeId → TyE → β} (hg : G (elemE tab fail t k)) : ∃ e ei, P.underlying t = some (.slice e) ∧ tab.ty.get e = some ei ∧ TyOk P e ei ∧ G (k e ei) := by
 unfold elemE at hg
 cases hi : tab.ty.get t with
 | none => simp only [hi] at hg; exact absurd hg hf
 | some i =>
  simp only [hi] at hg
  have hu := (hT.ty t i hi).und
  cases hd : i.desc with
  | slice e =>
   simp only [hd] at hg
   cases he : tab.ty.get e with
   | none => simp only [he] at hg; exact absurd hg hf
   | some ei => simp only [he] at hg; exact ⟨e, ei, by rw [hu, hd], he, hT.ty e ei he, hg⟩
  | _ => simp only [hd] at hg; exact absurd hg hf
theorem mapT_spec {t : TypeId} {k : TypeId → TypeId → TyE → β} (hg : G (mapT tab fail t k)) : ∃ kt e ei, P.underlying t = some (.map kt e) ∧ TyOk P e ei ∧ G (k kt e ei) := by
 unfold mapT at hg
 cases hi : tab.ty.get t with
 | none => simp only [hi] at hg; exact absurd hg hf
 | some i =>
  simp only [hi] at hg
  have hu := (hT.ty t i hi).und
  cases hd : i.desc with
  | map kt e =>
   simp only [hd] at hg
   cases he : tab.ty.get e with
   | none => simp only [he] at hg; exact absurd hg hf
   | some ei => simp only [he] at hg; exact ⟨kt, e, ei, by rw [hu, hd], hT.ty e ei he, hg⟩
  | _ => simp only [hd] at hg; exact absurd hg hf
theorem fieldAddrE_spec {s : TypeId} {v : EV} {f : Nat} {k : EV → β} {σ : Sg} {w : World} {v' : Value} (hg : G (fieldAddrE tab fail s v f k)) (hv : VR σ v v') :
 ∃ e e', (Instr.fieldAt s v' f).run P w = .ok e' w ∧ VR σ e e' ∧ G (k e) := by
 unfold fieldAddrE at hg
 cases v with
 | ptr b off =>
  simp only at hg
  cases hi : tab.ty.get s with
  | none => simp only [hi] at hg; exact absurd hg hf
  | some i =>
   simp only [hi] at hg
   have hu := (hT.ty s i hi).und
   cases hd : i.desc with
   | struct fs =>
    simp only [hd] at hg
    cases hfd : fs[f]? with
    | none => simp only [hfd] at hg; exact absurd hg hf
    | some fd =>
     simp only [hfd] at hg
     cases hft : tab.ty.get fd.type with
     | none => simp only [hft] at hg; exact absurd hg hf
     | some fi =>
      simp only [hft] at hg
      cases hz : Nat.beq fi.size 0 with
      | true => rw [hz] at hg; exact absurd hg hf
      | false =>
       rw [hz] at hg
       simp only [VR] at hv
       obtain ⟨l, hl, rfl⟩ := hv
       have hz' : ¬ fi.size = 0 := fun h => by rw [h] at hz; cases hz
       refine ⟨_, .pointer (some ⟨l.blk, off + fd.offset, none⟩), ?_, ?_, hg⟩
       · rw [hd] at hu
         simp [Instr.fieldAt, run_underlying hu, hfd, Instr.sureAddr, fieldPlace, (hT.ty _ _ hft).run_size, hz', addr_add']
       · simp only [VR]; exact ⟨l, hl, rfl⟩
   | _ => simp only [hd] at hg; exact absurd hg hf
 | _ => exact absurd hg hf
theorem fieldE_spec {s : TypeId} {v : EV} {f : Nat} {k : EV → β} {σ : Sg} {w : World} {v' : Value} (hg : G (fieldE tab fail s v f k)) (hv : VR σ v v') :
 ∃ e e', (Instr.field s v' f).run P w = .ok e' w ∧ VR σ e e' ∧ G (k e) := by
 unfold fieldE at hg
 cases v with
 | agg a =>
  simp only at hg
  cases hi : tab.ty.get s with
  | none => simp only [hi] at hg; exact absurd hg hf
  | some i =>
   simp only [hi] at hg
   have hu := (hT.ty s i hi).und
   cases hd : i.desc with
   | struct fs =>
    simp only [hd] at hg
    cases hfd : fs[f]? with
    | none => simp only [hfd] at hg; exact absurd hg hf
    | some fd =>
     simp only [hfd] at hg
     cases hp : partE tab fd.type a fd.offset with
     | none => simp only [hp] at hg; exact absurd hg hf
     | some e =>
      simp only [hp] at hg
      simp only [VR] at hv
      obtain ⟨xs, rfl, hxs⟩ := hv
      obtain ⟨e', r, q⟩ := partE_spec hT hp hxs w
      refine ⟨e, e', ?_, q, hg⟩
      rw [hd] at hu
      simp [Instr.field, run_underlying hu, hfd, asAgg, r]
   | _ => simp only [hd] at hg; exact absurd hg hf
 | _ => exact absurd hg hf
theorem indexAddrE_spec {t : TypeId} {v i : EV} {k : EV → β} {σ : Sg} {w : World} {v' i' : Value} (hg : G (indexAddrE tab fail t v i k)) (hv : VR σ v v') (hi : VR σ i i') :
 ∃ e e', (Instr.indexAt t v' i').run P w = .ok e' w ∧ VR σ e e' ∧ G (k e) := by
 unfold indexAddrE at hg
 split at hg
 · rename_i ik n
   simp only [VR] at hi
   subst hi
   split at hg
   · rename_i b off len cap
     obtain ⟨e, ei, hu, _, hty, hg⟩ := elemE_spec hf hT hg
     simp only [VR] at hv
     obtain ⟨l, hl, rfl, _⟩ := hv
     cases hlt : Nat.ble (Nat.succ n) len with
     | false => rw [hlt] at hg; exact absurd hg hf
     | true =>
      rw [hlt] at hg
      have hn : n < len := Nat.le_of_ble_eq_true hlt
      refine ⟨_, .pointer (some ⟨l.blk, off + n * ei.size, none⟩), ?_, ?_, hg⟩
      · have h1 : (0 : Int) ≤ (n : Int) ∧ (n : Int) < (len : Int) := by omega
        simp [Instr.indexAt, asIntOf, run_underlying hu, h1, hn, hty.run_size, addr_add']
      · simp only [VR]; exact ⟨l, hl, rfl⟩
   · rename_i b off
     simp only [VR] at hv
     obtain ⟨l, hl, rfl⟩ := hv
     cases hti : tab.ty.get t with
     | none => simp only [hti] at hg; exact absurd hg hf
     | some ti =>
      simp only [hti] at hg
      have hu := (hT.ty t ti hti).und
      cases hd : ti.desc with
      | array len e =>
       simp only [hd] at hg
       rw [hd] at hu
       cases he : tab.ty.get e with
       | none => simp only [he] at hg; exact absurd hg hf
       | some ei =>
        simp only [he] at hg
        cases hlt : Nat.ble (Nat.succ n) len with
        | false => rw [hlt] at hg; exact absurd hg hf
        | true =>
         rw [hlt] at hg
         have hn : n < len := Nat.le_of_ble_eq_true hlt
         refine ⟨_, .pointer (some ⟨l.blk, off + n * ei.size, none⟩), ?_, ?_, hg⟩
         · have h1 : (0 : Int) ≤ (n : Int) ∧ (n : Int) < (len : Int) := by omega
           simp [Instr.indexAt, asIntOf, run_underlying hu, Instr.sureAddr, h1, hn, (hT.ty _ _ he).run_size, addr_add']
         · simp only [VR]; exact ⟨l, hl, rfl⟩
      | _ => simp only [hd] at hg; exact absurd hg hf
   · exact absurd hg hf
 · exact absurd hg hf
theorem indexE_spec {t : TypeId} {v i : EV} {k : EV → β} {σ : Sg} {w : World} {v' i' : Value} (hg : G (indexE tab fail t v i k)) (hv : VR σ v v') (hi : VR σ i i') :
 ∃ e e', (Instr.index t v' i').run P w = .ok e' w ∧ VR σ e e' ∧ G (k e) := by
 unfold indexE at hg
 split at hg
 · rename_i ik n
   simp only [VR] at hi
   subst hi
   split at hg
   · rename_i s
     cases hti : tab.ty.get t with
     | none => simp only [hti] at hg; exact absurd hg hf
     | some ti =>
      simp only [hti] at hg
      have hu := (hT.ty t ti hti).und
      cases hd : ti.desc with
      | string =>
       simp only [hd] at hg
       rw [hd] at hu
       cases hs : s[n]? with
       | none => simp only [hs] at hg; exact absurd hg hf
       | some c =>
        simp only [hs] at hg
        simp only [VR] at hv
        subst hv
        refine ⟨_, .int .u8 (c.toNat : Int), ?_, ?_, hg⟩
        · have h1 : (⟨s.toArray⟩ : ByteArray)[n]? = some c := by
           have hn := (List.getElem?_eq_some_iff.1 hs).1
           have h2 : n < (⟨s.toArray⟩ : ByteArray).size := by show n < s.toArray.size; simpa using hn
           rw [getElem?_pos (⟨s.toArray⟩ : ByteArray) n h2]
           exact congrArg some (List.getElem?_eq_some_iff.1 hs).2
          simp [Instr.index, asIntOf, run_underlying hu, h1]
        · simp only [VR]; rfl
      | _ => simp only [hd] at hg; exact absurd hg hf
   · rename_i l
     cases hti : tab.ty.get t with
     | none => simp only [hti] at hg; exact absurd hg hf
     | some ti =>
      simp only [hti] at hg
      have hu := (hT.ty t ti hti).und
      cases hd : ti.desc with
      | array len e =>
       simp only [hd] at hg
       rw [hd] at hu
       cases he : tab.ty.get e with
       | none => simp only [he] at hg; exact absurd hg hf
       | some ei =>
        simp only [he] at hg
        cases hlt : Nat.ble (Nat.succ n) len with
        | false => rw [hlt] at hg; exact absurd hg hf
        | true =>
         rw [hlt] at hg
         simp only [cond_true] at hg
         have hn : n < len := Nat.le_of_ble_eq_true hlt
         cases hp : partE tab e l (Nat.mul n ei.size) with
         | none => simp only [hp] at hg; exact absurd hg hf
         | some x =>
          simp only [hp] at hg
          simp only [VR] at hv
          obtain ⟨xs, rfl, hxs⟩ := hv
          obtain ⟨e', r, q⟩ := partE_spec hT hp hxs w
          refine ⟨x, e', ?_, q, hg⟩
          have h1 : (0 : Int) ≤ (n : Int) ∧ (n : Int) < (len : Int) := by omega
          have r' : (part e xs (n * ei.size)).run P w = .ok e' w := r
          simp [Instr.index, asIntOf, run_underlying hu, h1, hn, (hT.ty _ _ he).run_size, r']
      | _ => simp only [hd] at hg; exact absurd hg hf
   · exact absurd hg hf
 · exact absurd hg hf
omit hT in
theorem entriesE_spec {v : EV} {h : Tr EO} {k : List (EV × EV × Nat) → β} {σ : Sg} {w : World} {v' : Value} (hg : G (entriesE fail v h k)) (hv : VR σ v v') (H : Holds σ h w) :
 ∃ (l : List (EV × EV × Nat)) (es : Array MapEntry), ER σ l es.toList ∧ G (k l) ∧
  ((v' = .map none ∧ es = #[]) ∨ ∃ r clock, v' = .map (some r) ∧ w.heap[r]? = some (.map es clock)) := by
 unfold entriesE at hg
 split at hg
 · simp only [VR] at hv
   exact ⟨[], #[], by simp [ER], hg, .inl ⟨hv, rfl⟩⟩
 · rename_i b
   split at hg
   · rename_i l clock ho
     obtain ⟨lc, ob, h1, h2, h3⟩ := H.there b _ ho
     obtain ⟨ms, rfl, h4⟩ := h3
     simp only [VR] at hv
     obtain ⟨lc', h5, rfl⟩ := hv
     rw [h1] at h5; cases h5
     exact ⟨l, ms, h4, hg, .inr ⟨_, _, rfl, h2⟩⟩
   · exact absurd hg hf
 · exact absurd hg hf
theorem lookupE_spec {t : TypeId} {v key : EV} {ok : Bool} {h : Tr EO} {k : EV → β} {σ : Sg} {w : World} {v' key' : Value} (hg : G (lookupE tab fail t v key ok h k)) (hv : VR σ v v') (hk : VR σ key key') (H : Holds σ h w) :
 ∃ e e', (Instr.lookup t v' key' ok).run P w = .ok e' w ∧ VR σ e e' ∧ G (k e) := by
 unfold lookupE at hg
 obtain ⟨kt, et, ei, hu, hty, hg⟩ := mapT_spec hf hT hg
 cases hkt : keyT tab 20 kt key with
 | false => rw [hkt] at hg; exact absurd hg hf
 | true =>
  rw [hkt] at hg
  simp only [cond_true] at hg
  obtain ⟨l, es, h1, hg, h2⟩ := entriesE_spec hf hg hv H
  obtain ⟨d, hd⟩ : ∃ d, P.underlying kt = some d := by
   unfold keyT at hkt
   cases hi : tab.ty.get kt with
   | none => rw [hi] at hkt; cases hkt
   | some i => exact ⟨_, (hT.ty kt i hi).und⟩
  have hck : ∀ em, (Instr.checkKey em 10000 kt key').run P w = .ok () w := fun em => keyT_spec hT 20 kt key hkt em σ 10000 key' w (by omega) hk
  have hes : ∀ (c : Option (Nat × Value)), (Instr.findKey kt key' es.toList).run P w = .ok c w → (Instr.lookup t v' key' ok).run P w =
   ((match c with | some (_, v) => (pure (v, true) : Sem (Value × Bool)) | none => do pure (← zeroValue et, false)).run P w).andThen fun p w => .ok (if ok then .tuple #[p.1, .bool p.2] else p.1) w := by
   intro c hc
   unfold Instr.lookup
   rcases h2 with ⟨rfl, rfl⟩ | ⟨r, clock, rfl, hr⟩
   · simp only [Sem.run_bind, run_underlying hu, Result.andThen_ok, Sem.run_pure, hck, hc]
     cases c with
     | none => simp only [Sem.run_bind]; cases (zeroValue et).run P w <;> rfl
     | some p => rfl
   · have hgo : (getObj r).run P w = .ok (.map es clock) w := by simp [getObj, Sem.run, hr]
     simp only [Sem.run_bind, run_underlying hu, Result.andThen_ok, Sem.run_pure, hgo, hck, hc]
     cases c with
     | none => simp only [Sem.run_bind]; cases (zeroValue et).run P w <;> rfl
     | some p => rfl
  cases hfe : findE tab kt key l with
  | none => simp only [hfe] at hg; exact absurd hg hf
  | some r =>
   simp only [hfe] at hg
   rcases findE_pos hfe with ⟨rfl, hp⟩ | ⟨i, a, u, b, rfl, hp, hli⟩
   · have hr := hes _ (findKey_spec hT hd hk w hp h1)
     obtain ⟨z, z1, z2, z3, z4⟩ := hty.run_zero w
     simp only [keyAt, Option.bind_none, Sem.run_bind, z1, Result.andThen_ok, Sem.run_pure] at hr
     cases ok with
     | true => exact ⟨_, _, hr, by simp only [if_true, VR]; exact ⟨_, rfl, VRs.cons (z3 σ) (VRs.cons (by simp only [VR]) VRs.nil)⟩, hg⟩
     | false => exact ⟨_, _, hr, by simpa using z3 σ, hg⟩
   · have hr := hes _ (findKey_spec hT hd hk w hp h1)
     obtain ⟨e, he, hve⟩ : ∃ e, es.toList[i]? = some e ∧ VR σ u e.val := by
      clear hr hes hp hg hfe h2 hck
      generalize es.toList = m at h1
      induction l generalizing i m with
      | nil => simp at hli
      | cons x l ih =>
       obtain ⟨x1, x2, x3⟩ := x
       obtain ⟨e, es', rfl, q1, q2, q3, q4⟩ := h1
       cases i with
       | zero => simp at hli; obtain ⟨rfl, rfl, rfl⟩ := hli; exact ⟨e, rfl, q2⟩
       | succ i => simp at hli; obtain ⟨e', h5, h6⟩ := ih i hli es' q4; exact ⟨e', by simpa using h5, h6⟩
     simp only [keyAt, Option.bind_some, he, Option.map_some, Sem.run_pure, Result.andThen_ok] at hr
     cases ok with
     | true => exact ⟨_, _, hr, by simp only [if_true, VR]; exact ⟨_, rfl, VRs.cons hve (VRs.cons (by simp only [VR]) VRs.nil)⟩, hg⟩
     | false => exact ⟨_, _, hr, by simpa using hve, hg⟩
omit hT in
theorem unE_spec {op : UnOp} {a : EV} {k : EV → β} {σ : Sg} {w : World} {a' : Value} (hg : G (unE fail op a k)) (ha : VR σ a a') : ∃ e e', (Op.unary op a').run P w = .ok e' w ∧ VR σ e e' ∧ G (k e) := by
 unfold unE at hg
 split at hg
 · split at hg
   · rename_i b
     simp only [VR] at ha; subst ha
     exact ⟨_, .bool (!b), by simp [Op.unary], by simp only [VR], hg⟩
   · simp only [VR] at ha; obtain ⟨b, rfl⟩ := ha
     exact ⟨_, .bool (!b), by simp [Op.unary], by simp only [VR]; exact ⟨_, rfl⟩, hg⟩
   · exact absurd hg hf
 · split at hg
   · rename_i ki n
     simp only [VR] at ha; subst ha
     exact ⟨_, .int ki (ki.wrap (0 - n)), by simp [Op.unary, Op.intArith], by simp only [VR], forceI_spec hg⟩
   · exact absurd hg hf
 · exact absurd hg hf
theorem convE_spec {src dst : TypeId} {a : EV} {k : EV → β} {σ : Sg} {w : World} {a' : Value} (hg : G (convE tab fail src dst a k)) (ha : VR σ a a') : ∃ e e', (convert src dst a').run P w = .ok e' w ∧ VR σ e e' ∧ G (k e) := by
 unfold convE at hg
 cases hs : tab.ty.get src with
 | none => simp only [hs] at hg; exact absurd hg hf
 | some si =>
  simp only [hs] at hg
  have hus := (hT.ty src si hs).und
  cases hi : tab.ty.get dst with
  | none => simp only [hi] at hg; exact absurd hg hf
  | some i =>
   simp only [hi] at hg
   have hu := (hT.ty dst i hi).und
   cases hd : i.desc with
   | int ki =>
    simp only [hd] at hg
    rw [hd] at hu
    split at hg
    · rename_i k2 n
      simp only [VR] at ha; subst ha
      refine ⟨_, .int ki (ki.wrap n), ?_, by simp only [VR], forceI_spec hg⟩
      simp [convert, run_underlying hu, run_underlying hus, Conv.intToInt]
    · simp only [VR] at ha; obtain ⟨n, rfl⟩ := ha
      refine ⟨_, .int ki (ki.wrap n), ?_, by simp only [VR]; exact ⟨_, rfl⟩, hg⟩
      simp [convert, run_underlying hu, run_underlying hus, Conv.intToInt]
    · rename_i k2 lo hi
      simp only [VR] at ha; obtain ⟨n, rfl, h1, h2⟩ := ha
      have hrun : (convert src dst (.int k2 n)).run P w = .ok (.int ki (ki.wrap n)) w := by simp [convert, run_underlying hu, run_underlying hus, Conv.intToInt]
      cases hb : (eqInt (ki.wrap lo) lo && eqInt (ki.wrap hi) hi) with
      | false =>
       rw [hb] at hg
       exact ⟨_, _, hrun, by simp only [VR]; exact ⟨_, rfl⟩, hg⟩
      | true =>
       rw [hb] at hg
       rw [Bool.and_eq_true, eqInt_eq, eqInt_eq, beq_iff_eq, beq_iff_eq] at hb
       have hw : ki.wrap n = n := by
        obtain ⟨e1, e2⟩ := hb
        cases ki <;> simp only [IntKind.wrap, IntKind.signed, IntKind.bits] at e1 e2 ⊢ <;> simp at e1 e2 ⊢ <;> omega
       rw [hw] at hrun
       exact ⟨_, _, hrun, by simp only [VR]; exact ⟨n, rfl, h1, h2⟩, hg⟩
    · exact absurd hg hf
   | string =>
    simp only [hd] at hg
    rw [hd] at hu
    cases hds : si.desc with
    | string =>
     simp only [hds] at hg
     rw [hds] at hus
     split at hg
     · rename_i b
       simp only [VR] at ha; subst ha
       exact ⟨_, .string ⟨b.toArray⟩, by simp [convert, run_underlying hu, run_underlying hus], by simp only [VR], hg⟩
     · simp only [VR] at ha; obtain ⟨s, rfl⟩ := ha
       exact ⟨_, .string s, by simp [convert, run_underlying hu, run_underlying hus], by simp only [VR]; exact ⟨_, rfl⟩, hg⟩
     · exact absurd hg hf
    | _ => simp only [hds] at hg; exact absurd hg hf
   | _ => simp only [hd] at hg; exact absurd hg hf
omit hT in
theorem extractE_spec {v : EV} {i : Nat} {k : EV → β} {σ : Sg} {w : World} {v' : Value} (hg : G (extractE fail v i k)) (hv : VR σ v v') : ∃ e e', (Instr.extract v' i).run P w = .ok e' w ∧ VR σ e e' ∧ G (k e) := by
 unfold extractE at hg
 split at hg
 · rename_i l
   simp only [VR] at hv
   obtain ⟨xs, rfl, hxs⟩ := hv
   cases hgl : l.get i with
   | none => simp only [hgl] at hg; exact absurd hg hf
   | some e =>
    simp only [hgl] at hg
    rw [EVs.get_toL] at hgl
    obtain ⟨u, hu, hr⟩ := hxs.get hgl
    rw [Array.getElem?_toList] at hu
    exact ⟨e, u, by simp [Instr.extract, hu], hr, hg⟩
 · exact absurd hg hf
end
end Go.Proofs.YtendekbckfpmgaaGreat
namespace Go.Proofs.YtendekbckfpmgaaGreat
open Go Go.RowKit
section
variable {P : Program} {tab : Tab} {β : Type} {fail : β} {G : β → Prop} (hf : ¬ G fail)
include hf
theorem binI_spec {op : BinOp} {t : TypeId} {ki : IntKind} {a b : Int} {k : EV → β} {σ : Sg} {w : World} (hs : isShift op = false) (hg : G (binI fail op ki a b k)) :
 ∃ e e', (binOp op t (.int ki a) (.int ki b)).run P w = .ok e' w ∧ VR σ e e' ∧ G (k e) := by
 unfold binI at hg
 cases op <;> simp only at hg <;> first
  | exact absurd hg hf
  | (cases hs; done)
  | skip
 case add => exact ⟨_, .int ki (ki.wrap (a + b)), by simp [binOp, Op.intArith], by simp only [VR], forceI_spec hg⟩
 case sub => exact ⟨_, .int ki (ki.wrap (a - b)), by simp [binOp, Op.intArith], by simp only [VR], forceI_spec hg⟩
 case mul => exact ⟨_, .int ki (ki.wrap (a * b)), by simp [binOp, Op.intArith], by simp only [VR], forceI_spec hg⟩
 case quo =>
  cases hz : eqInt b 0 with
  | true => rw [hz] at hg; exact absurd hg hf
  | false =>
   rw [hz] at hg
   simp only [cond_false] at hg
   rw [eqInt_eq] at hz
   have hz' : ¬ b = 0 := by simpa using hz
   exact ⟨_, .int ki (ki.wrap (a.tdiv b)), by simp [binOp, Op.intDiv, hz'], by simp only [VR], forceI_spec hg⟩
 case rem =>
  cases hz : eqInt b 0 with
  | true => rw [hz] at hg; exact absurd hg hf
  | false =>
   rw [hz] at hg
   simp only [cond_false] at hg
   rw [eqInt_eq] at hz
   have hz' : ¬ b = 0 := by simpa using hz
   exact ⟨_, .int ki (a.tmod b), by simp [binOp, Op.intDiv, hz'], by simp only [VR], forceI_spec hg⟩
 case and => exact ⟨_, .int ki (ki.wrap ((BitVec.ofInt ki.bits a &&& BitVec.ofInt ki.bits b).toNat : Nat)), by simp [binOp, Op.intBits], by simp only [VR], forceI_spec hg⟩
 case or => exact ⟨_, .int ki (ki.wrap ((BitVec.ofInt ki.bits a ||| BitVec.ofInt ki.bits b).toNat : Nat)), by simp [binOp, Op.intBits], by simp only [VR], forceI_spec hg⟩
 case xor => exact ⟨_, .int ki (ki.wrap ((BitVec.ofInt ki.bits a ^^^ BitVec.ofInt ki.bits b).toNat : Nat)), by simp [binOp, Op.intBits], by simp only [VR], forceI_spec hg⟩
 case eql => exact ⟨_, .bool (a == b), by simp [binOp, Op.intCmp], by simp only [VR, eqInt_eq], hg⟩
 case neq => exact ⟨_, .bool (a != b), by simp [binOp, Op.intCmp], by simp only [VR, eqInt_eq]; (try rfl), hg⟩
 case lss => exact ⟨_, .bool (decide (a < b)), by simp [binOp, Op.intCmp], by simp only [VR, ltInt_eq], hg⟩
 case leq => exact ⟨_, .bool (decide (a ≤ b)), by simp [binOp, Op.intCmp], by simp only [VR, ltInt_eq]; congr 1; rw [Bool.eq_iff_iff]; simp, hg⟩
 case gtr => exact ⟨_, .bool (decide (a > b)), by simp [binOp, Op.intCmp], by simp only [VR, ltInt_eq]; (try rfl), hg⟩
 case geq => exact ⟨_, .bool (decide (a ≥ b)), by simp [binOp, Op.intCmp], by simp only [VR, ltInt_eq]; congr 1; rw [Bool.eq_iff_iff]; simp, hg⟩
theorem binShift_spec {op : BinOp} {t : TypeId} {ki kj : IntKind} {a b : Int} {k : EV → β} {σ : Sg} {w : World} (hg : G (binShift fail op ki a b k)) :
 ∃ e e', (binOp op t (.int ki a) (.int kj b)).run P w = .ok e' w ∧ VR σ e e' ∧ G (k e) := by
 unfold binShift at hg
 cases hz : ltInt b 0 with
 | true => rw [hz] at hg; exact absurd hg hf
 | false =>
  rw [hz] at hg
  rw [ltInt_eq] at hz
  have hz' : ¬ b < 0 := by simpa using hz
  cases op <;> simp only [cond_false] at hg <;> first
   | exact absurd hg hf
   | skip
  case shl => exact ⟨_, .int ki (ki.wrap (a * 2 ^ (min b.toNat ki.bits))), by simp [binOp, Op.shift, hz'], by simp only [VR], forceI_spec hg⟩
  case shr => exact ⟨_, .int ki (a.fdiv (2 ^ (min b.toNat ki.bits))), by simp [binOp, Op.shift, hz'], by simp only [VR], forceI_spec hg⟩
omit hf in
theorem size_bytes (a : List UInt8) : (⟨a.toArray⟩ : ByteArray).size = a.length := by show a.toArray.size = _; simp
theorem binS_spec {op : BinOp} {t : TypeId} {a b : List UInt8} {k : EV → β} {σ : Sg} {w : World} (hg : G (binS fail op a b k)) :
 ∃ e e', (binOp op t (.string ⟨a.toArray⟩) (.string ⟨b.toArray⟩)).run P w = .ok e' w ∧ VR σ e e' ∧ G (k e) := by
 unfold binS at hg
 cases op <;> simp only at hg <;> first
  | exact absurd hg hf
  | skip
 case add =>
  cases hz : Nat.ble (Nat.add a.length b.length) 9223372036854775807 with
  | false => rw [hz] at hg; exact absurd hg hf
  | true =>
   rw [hz] at hg
   have hle := Nat.le_of_ble_eq_true hz
   refine ⟨_, .string ⟨(a ++ b).toArray⟩, ?_, by simp only [VR], hg⟩
   have h1 : ¬ (((⟨a.toArray⟩ : ByteArray).size + (⟨b.toArray⟩ : ByteArray).size : Nat) : Int) > IntKind.i64.max := by
    rw [size_bytes, size_bytes]
    have : IntKind.i64.max = 9223372036854775807 := by decide
    rw [this]
    have : a.length + b.length ≤ 9223372036854775807 := hle
    omega
   have h2 : (⟨a.toArray⟩ : ByteArray) ++ ⟨b.toArray⟩ = ⟨(a ++ b).toArray⟩ := by
    apply ByteArray.ext
    show ((⟨a.toArray⟩ : ByteArray).append ⟨b.toArray⟩).data = _
    simp
   simp only [binOp, Op.stringOp, h1, if_false, h2, Sem.run_pure]
 case eql => exact ⟨_, .bool (a == b), by simp [binOp, Op.stringOp, ByteArray.toList_eq], by simp only [VR, eqBytes_eq], hg⟩
 case neq => exact ⟨_, .bool (!(a == b)), by simp [binOp, Op.stringOp, ByteArray.toList_eq], by simp only [VR, eqBytes_eq], hg⟩
 case lss => exact ⟨_, .bool (Op.bytesLess a b), by simp [binOp, Op.stringOp, ByteArray.toList_eq], by simp only [VR, ltBytes_eq], hg⟩
 case leq => exact ⟨_, .bool (Op.bytesLess a b || a == b), by simp [binOp, Op.stringOp, ByteArray.toList_eq], by simp only [VR, ltBytes_eq, eqBytes_eq], hg⟩
 case gtr => exact ⟨_, .bool (!(Op.bytesLess a b || a == b)), by simp [binOp, Op.stringOp, ByteArray.toList_eq], by simp only [VR, ltBytes_eq, eqBytes_eq], hg⟩
 case geq => exact ⟨_, .bool (!(Op.bytesLess a b)), by simp [binOp, Op.stringOp, ByteArray.toList_eq], by simp only [VR, ltBytes_eq], hg⟩
omit hf in
def scalarK : EV → Bool
 | .int _ _ => true
 | .unkI _ => true
 | .rng _ _ _ => true
 | .str _ => true
 | .unkS => true
 | .iface0 => true
 | .unkV => true
 | _ => false
omit hf in
theorem VR.none_of {σ : Sg} {x : EV} {v : Value} (h : VR σ x v) (hx : scalarK x = false) :
 (∀ a b, v ≠ .int a b) ∧ (∀ a, v ≠ .string a) ∧ v ≠ .nilIface ∧ (∀ a b, v ≠ .float a b) ∧ ∀ a b c, v ≠ .complex a b c := by
 cases x <;> simp only [VR] at h <;> first
  | (cases hx; done)
  | (subst h; simp; done)
  | (obtain ⟨_, _, rfl⟩ := h; simp; done)
  | (obtain ⟨_, _, rfl, _⟩ := h; simp; done)
  | (obtain ⟨_, rfl, _⟩ := h; simp; done)
  | (obtain ⟨_, rfl⟩ := h; simp; done)
  | (obtain ⟨_, _, _, rfl⟩ := h; simp; done)
omit hf in
theorem cmpI_some {op : BinOp} {t : TypeId} {ki : IntKind} {a b : Int} {w : World} (hc : isCmp op = true) : ∃ r, (binOp op t (.int ki a) (.int ki b)).run P w = .ok (.bool r) w := by
 cases op <;> first
  | (cases hc; done)
  | exact ⟨_, by simp [binOp, Op.intCmp]; rfl⟩
omit hf in
theorem cmpS_some {op : BinOp} {t : TypeId} {a b : ByteArray} {w : World} (hc : isCmp op = true) : ∃ r, (binOp op t (.string a) (.string b)).run P w = .ok (.bool r) w := by
 cases op <;> first
  | (cases hc; done)
  | exact ⟨_, by simp only [binOp, Op.stringOp, Sem.run_pure]; rfl⟩
theorem unkOr_spec {c : Bool} {k : EV → β} (hg : G (unkOr fail c k)) : c = true ∧ G (k .unkB) := by
 unfold unkOr at hg
 cases c with
 | true => exact ⟨rfl, hg⟩
 | false => exact absurd hg hf
omit hf in
theorem run_eqGuard_int (op : BinOp) (t : TypeId) (x y : Operand) (ki kj : IntKind) (a b : Int) (w : World) : (eqGuard op t x y (.int ki a) (.int kj b)).run P w = .ok () w := by cases op <;> simp [eqGuard]
omit hf in
theorem run_eqGuard_string (op : BinOp) (t : TypeId) (x y : Operand) (a b : ByteArray) (w : World) : (eqGuard op t x y (.string a) (.string b)).run P w = .ok () w := by cases op <;> simp [eqGuard]
omit hf in
theorem ltO_spec {a b : Option Int} (h : ltO a b = true) : ∃ x y, a = some x ∧ b = some y ∧ x < y := by
 cases a <;> cases b <;> simp only [ltO] at h <;> try (cases h; done)
 exact ⟨_, _, rfl, rfl, by rw [ltInt_eq] at h; simpa using h⟩
omit hf in
theorem leO_spec {a b : Option Int} (h : leO a b = true) : ∃ x y, a = some x ∧ b = some y ∧ x ≤ y := by
 cases a <;> cases b <;> simp only [leO] at h <;> try (cases h; done)
 exact ⟨_, _, rfl, rfl, by rw [ltInt_eq] at h; simpa using h⟩
theorem cmpR_spec {op : BinOp} {t : TypeId} {xo yo : Operand} {ki kj : IntKind} {a b c d : Option Int} {n m : Int} {k : EV → β} {σ : Sg} {w : World} (hg : G (cmpR fail op ki kj a b c d k))
 (ha : ∀ x, a = some x → x ≤ n) (hb : ∀ x, b = some x → n ≤ x) (hc : ∀ x, c = some x → x ≤ m) (hd : ∀ x, d = some x → m ≤ x) :
 ∃ e e', (do eqGuard op t xo yo (.int ki n) (.int kj m); binOp op t (.int ki n) (.int kj m) : Sem Value).run P w = .ok e' w ∧ VR σ e e' ∧ G (k e) := by
 unfold cmpR at hg
 cases hk : ikEq ki kj with
 | false => rw [hk] at hg; exact absurd hg hf
 | true =>
  rw [hk] at hg
  simp only [cond_true] at hg
  have := ikEq_eq hk
  subst this
  have wrap : ∀ (v : Value), (binOp op t (.int ki n) (.int ki m)).run P w = .ok v w → (do eqGuard op t xo yo (.int ki n) (.int ki m); binOp op t (.int ki n) (.int ki m) : Sem Value).run P w = .ok v w := fun v h => by
   simp only [Sem.run_bind, run_eqGuard_int, Result.andThen_ok, h]
  have unk : ∀ (hcm : isCmp op = true), G (k .unkB) → ∃ e e', (do eqGuard op t xo yo (.int ki n) (.int ki m); binOp op t (.int ki n) (.int ki m) : Sem Value).run P w = .ok e' w ∧ VR σ e e' ∧ G (k e) := fun hcm hg => by
   obtain ⟨r, hr⟩ := cmpI_some (P := P) (t := t) (ki := ki) (a := n) (b := m) (w := w) hcm
   exact ⟨_, _, wrap _ hr, by simp only [VR]; exact ⟨_, rfl⟩, hg⟩
  have sure : ∀ (r : Bool), (binOp op t (.int ki n) (.int ki m)).run P w = .ok (.bool r) w → G (k (.bool r)) → ∃ e e', (do eqGuard op t xo yo (.int ki n) (.int ki m); binOp op t (.int ki n) (.int ki m) : Sem Value).run P w = .ok e' w ∧ VR σ e e' ∧ G (k e) :=
   fun r h hg => ⟨_, _, wrap _ h, by simp only [VR], hg⟩
  have lt1 : ltO b c = true → n < m := fun h => by
   obtain ⟨x, y, e1, e2, h⟩ := ltO_spec h
   have := hb x e1; have := hc y e2; omega
  have lt2 : ltO d a = true → m < n := fun h => by
   obtain ⟨x, y, e1, e2, h⟩ := ltO_spec h
   have := hd x e1; have := ha y e2; omega
  have le1 : leO b c = true → n ≤ m := fun h => by
   obtain ⟨x, y, e1, e2, h⟩ := leO_spec h
   have := hb x e1; have := hc y e2; omega
  have le2 : leO d a = true → m ≤ n := fun h => by
   obtain ⟨x, y, e1, e2, h⟩ := leO_spec h
   have := hd x e1; have := ha y e2; omega
  cases op <;> simp only at hg <;> first | exact absurd hg hf | skip
  case add => exact ⟨_, _, wrap _ (by simp [binOp]; rfl), by simp only [VR]; exact ⟨_, rfl⟩, hg⟩
  case sub => exact ⟨_, _, wrap _ (by simp [binOp]; rfl), by simp only [VR]; exact ⟨_, rfl⟩, hg⟩
  case mul => exact ⟨_, _, wrap _ (by simp [binOp]; rfl), by simp only [VR]; exact ⟨_, rfl⟩, hg⟩
  case lss =>
   cases h1 : ltO b c with
   | true => rw [h1] at hg; exact sure true (by have := lt1 h1; simp [binOp, Op.intCmp, this]) hg
   | false =>
    rw [h1] at hg
    cases h2 : leO d a with
    | true => rw [h2] at hg; exact sure false (by have := le2 h2; simp [binOp, Op.intCmp]; omega) hg
    | false => rw [h2] at hg; exact unk rfl hg
  case leq =>
   cases h1 : leO b c with
   | true => rw [h1] at hg; exact sure true (by have := le1 h1; simp [binOp, Op.intCmp, this]) hg
   | false =>
    rw [h1] at hg
    cases h2 : ltO d a with
    | true => rw [h2] at hg; exact sure false (by have := lt2 h2; simp [binOp, Op.intCmp]; omega) hg
    | false => rw [h2] at hg; exact unk rfl hg
  case gtr =>
   cases h1 : ltO d a with
   | true => rw [h1] at hg; exact sure true (by have := lt2 h1; simp [binOp, Op.intCmp, this]) hg
   | false =>
    rw [h1] at hg
    cases h2 : leO b c with
    | true => rw [h2] at hg; exact sure false (by have := le1 h2; simp [binOp, Op.intCmp]; omega) hg
    | false => rw [h2] at hg; exact unk rfl hg
  case geq =>
   cases h1 : leO d a with
   | true => rw [h1] at hg; exact sure true (by have := le2 h1; simp [binOp, Op.intCmp, this]) hg
   | false =>
    rw [h1] at hg
    cases h2 : ltO b c with
    | true => rw [h2] at hg; exact sure false (by have := lt1 h2; simp [binOp, Op.intCmp]; omega) hg
    | false => rw [h2] at hg; exact unk rfl hg
  case eql =>
   cases h1 : (ltO b c || ltO d a) with
   | true =>
    rw [h1] at hg
    refine sure false ?_ hg
    have : n ≠ m := by
     rw [Bool.or_eq_true] at h1; rcases h1 with h | h
     · have := lt1 h; omega
     · have := lt2 h; omega
    simp [binOp, Op.intCmp, this]
   | false => rw [h1] at hg; exact unk rfl hg
  case neq =>
   cases h1 : (ltO b c || ltO d a) with
   | true =>
    rw [h1] at hg
    refine sure true ?_ hg
    have : n ≠ m := by
     rw [Bool.or_eq_true] at h1; rcases h1 with h | h
     · have := lt1 h; omega
     · have := lt2 h; omega
    simp [binOp, Op.intCmp, this]
   | false => rw [h1] at hg; exact unk rfl hg
theorem binE_spec (hT : TabOk P tab) {op : BinOp} {t : TypeId} {xo yo : Operand} {x y : EV} {k : EV → β} {σ : Sg} {w : World} {x' y' : Value} (hg : G (binE tab fail op t x y k)) (hx : VR σ x x') (hy : VR σ y y') :
 ∃ e e', (do eqGuard op t xo yo x' y'; binOp op t x' y' : Sem Value).run P w = .ok e' w ∧ VR σ e e' ∧ G (k e) := by
 have other : ∀ (hgen : G (binG tab fail op t x y k)) (h1 : ∀ a b c d, x' = .int a b → y' = .int c d → False) (h2 : ∀ a b, x' = .string a → y' = .string b → False) (hi : x' = .nilIface → eqT tab 20 t x y = none)
  (hfl : ∀ a b c d, x' = .float a b → y' = .float c d → False) (hcx : ∀ a b c d e f, x' = .complex a b c → y' = .complex d e f → False), ∃ e e', (do eqGuard op t xo yo x' y'; binOp op t x' y' : Sem Value).run P w = .ok e' w ∧ VR σ e e' ∧ G (k e) := by
  intro hgen h1 h2 hi hfl hcx
  unfold binG at hgen
  cases hag : (isAggE x && eqgOf tab t) with
  | true => rw [hag] at hgen; exact absurd hgen hf
  | false =>
   rw [hag] at hgen
   simp only [cond_false] at hgen
   have key : ∀ b, eqT tab 20 t x y = some b → (op = .eql ∨ op = .neq) → (eqGuard op t xo yo x' y').run P w = .ok () w ∧ (Op.equal t x' y').run P w = .ok b w := by
    intro b hb hop
    refine ⟨?_, eqT_spec hT 20 t x y b hb σ Op.maxDepth x' y' w (by simp [Op.maxDepth]) hx hy⟩
    by_cases hxa : isAggE x = true
    · rw [hxa, Bool.true_and] at hag
      cases hti : tab.ty.get t with
      | none => simp only [eqgOf, hti] at hag; cases hag
      | some i =>
       simp only [eqgOf, hti] at hag
       have hq := (hT.ty t i hti).eqg hag
       cases x <;> first | (cases hxa; done) | skip
       simp only [VR] at hx
       obtain ⟨xs, rfl, _⟩ := hx
       cases y' <;> first
        | exact run_eqGuard_agg w op t xo yo _ _ hq
        | (rcases hop with rfl | rfl <;> simp [eqGuard])
    · have hna : ∀ l, x' ≠ .agg l := by
       intro l hl
       subst hl
       cases x <;> simp only [VR] at hx <;> first
        | (cases hx; done)
        | (exact absurd rfl hxa)
        | (obtain ⟨_, _, h⟩ := hx; cases h; done)
        | (obtain ⟨_, _, h, _⟩ := hx; cases h; done)
        | (obtain ⟨_, h, _⟩ := hx; cases h; done)
        | (obtain ⟨_, h⟩ := hx; cases h; done)
        | (obtain ⟨_, _, _, h⟩ := hx; cases h; done)
      have hni : x' ≠ .nilIface := fun h => by rw [hi h] at hb; cases hb
      rcases hop with rfl | rfl <;> cases x' <;> first
       | exact absurd rfl (hna _)
       | exact absurd rfl hni
       | (cases y' <;> simp [eqGuard])
   have hbin : ∀ b, (Op.equal t x' y').run P w = .ok b w → (binOp .eql t x' y').run P w = .ok (.bool b) w ∧ (binOp .neq t x' y').run P w = .ok (.bool (!b)) w := by
    intro b hb
    cases x' <;> cases y' <;> first
     | exact (h1 _ _ _ _ rfl rfl).elim
     | exact (h2 _ _ rfl rfl).elim
     | exact (hfl _ _ _ _ rfl rfl).elim
     | exact (hcx _ _ _ _ _ _ rfl rfl).elim
     | exact ⟨by simp only [binOp, Sem.run_bind, hb, Result.andThen_ok, Sem.run_pure], by simp only [binOp, Sem.run_bind, hb, Result.andThen_ok, Sem.run_pure]⟩
   cases op <;> simp only at hgen <;> first
    | exact absurd hgen hf
    | skip
   case eql =>
    cases hb : eqT tab 20 t x y with
    | none => simp only [hb] at hgen; exact absurd hgen hf
    | some b =>
     simp only [hb] at hgen
     obtain ⟨a1, a2⟩ := key b hb (.inl rfl)
     exact ⟨_, .bool b, by simp only [Sem.run_bind, a1, Result.andThen_ok, (hbin b a2).1], by simp only [VR], hgen⟩
   case neq =>
    cases hb : eqT tab 20 t x y with
    | none => simp only [hb] at hgen; exact absurd hgen hf
    | some b =>
     simp only [hb] at hgen
     obtain ⟨a1, a2⟩ := key b hb (.inr rfl)
     exact ⟨_, .bool (!b), by simp only [Sem.run_bind, a1, Result.andThen_ok, (hbin b a2).2], by simp only [VR], hgen⟩
 unfold binE at hg
 cases x with
 | int ki a =>
  simp only [VR] at hx
  subst hx
  cases y with
  | int kj b =>
   simp only [VR] at hy
   subst hy
   simp only at hg
   cases hs : isShift op with
   | true =>
    rw [hs] at hg
    simp only [cond_true] at hg
    obtain ⟨e, e', r, q, hg⟩ := binShift_spec (P := P) (t := t) (kj := kj) (σ := σ) (w := w) hf hg
    exact ⟨e, e', by simp only [Sem.run_bind, run_eqGuard_int, Result.andThen_ok, r], q, hg⟩
   | false =>
    rw [hs] at hg
    simp only [cond_false] at hg
    cases hk : ikEq ki kj with
    | false => rw [hk] at hg; exact absurd hg hf
    | true =>
     rw [hk] at hg
     simp only [cond_true] at hg
     have := ikEq_eq hk
     obtain ⟨e, e', r, q, hg2⟩ := binI_spec (P := P) (t := t) (σ := σ) (w := w) hf hs hg
     subst this
     exact ⟨e, e', by simp only [Sem.run_bind, run_eqGuard_int, Result.andThen_ok, r], q, hg2⟩
  | unkI kj =>
   simp only [VR] at hy
   obtain ⟨b, rfl⟩ := hy
   exact cmpR_spec hf hg (fun _ h => by cases h; exact Int.le_refl _) (fun _ h => by cases h; exact Int.le_refl _) (fun _ h => by cases h) (fun _ h => by cases h)
  | rng kj c d =>
   simp only [VR] at hy
   obtain ⟨b, rfl, h3, h4⟩ := hy
   exact cmpR_spec hf hg (fun _ h => by cases h; exact Int.le_refl _) (fun _ h => by cases h; exact Int.le_refl _) (fun _ h => by cases h; exact h3) (fun _ h => by cases h; exact h4)
  | _ => exact absurd hg hf
 | unkI ki =>
  simp only [VR] at hx
  obtain ⟨a, rfl⟩ := hx
  cases y with
  | int kj b =>
   simp only [VR] at hy
   subst hy
   exact cmpR_spec hf hg (fun _ h => by cases h) (fun _ h => by cases h) (fun _ h => by cases h; exact Int.le_refl _) (fun _ h => by cases h; exact Int.le_refl _)
  | unkI kj =>
   simp only [VR] at hy
   obtain ⟨b, rfl⟩ := hy
   exact cmpR_spec hf hg (fun _ h => by cases h) (fun _ h => by cases h) (fun _ h => by cases h) (fun _ h => by cases h)
  | rng kj c d =>
   simp only [VR] at hy
   obtain ⟨b, rfl, h3, h4⟩ := hy
   exact cmpR_spec hf hg (fun _ h => by cases h) (fun _ h => by cases h) (fun _ h => by cases h; exact h3) (fun _ h => by cases h; exact h4)
  | _ => exact absurd hg hf
 | rng ki lo hi =>
  simp only [VR] at hx
  obtain ⟨a, rfl, h1, h2⟩ := hx
  cases y with
  | int kj b =>
   simp only [VR] at hy
   subst hy
   exact cmpR_spec hf hg (fun _ h => by cases h; exact h1) (fun _ h => by cases h; exact h2) (fun _ h => by cases h; exact Int.le_refl _) (fun _ h => by cases h; exact Int.le_refl _)
  | unkI kj =>
   simp only [VR] at hy
   obtain ⟨b, rfl⟩ := hy
   exact cmpR_spec hf hg (fun _ h => by cases h; exact h1) (fun _ h => by cases h; exact h2) (fun _ h => by cases h) (fun _ h => by cases h)
  | rng kj c d =>
   simp only [VR] at hy
   obtain ⟨b, rfl, h3, h4⟩ := hy
   exact cmpR_spec hf hg (fun _ h => by cases h; exact h1) (fun _ h => by cases h; exact h2) (fun _ h => by cases h; exact h3) (fun _ h => by cases h; exact h4)
  | _ => exact absurd hg hf
 | str a =>
  simp only [VR] at hx
  subst hx
  cases y with
  | str b =>
   simp only [VR] at hy
   subst hy
   simp only at hg
   obtain ⟨e, e', r, q, hg⟩ := binS_spec (P := P) (t := t) (σ := σ) (w := w) hf hg
   exact ⟨e, e', by simp only [Sem.run_bind, run_eqGuard_string, Result.andThen_ok, r], q, hg⟩
  | unkS =>
   simp only [VR] at hy
   obtain ⟨b, rfl⟩ := hy
   simp only at hg
   obtain ⟨hc, hg2⟩ := unkOr_spec hf hg
   obtain ⟨r, hr⟩ := cmpS_some (P := P) (t := t) (a := ⟨a.toArray⟩) (b := b) (w := w) hc
   exact ⟨_, .bool r, by simp only [Sem.run_bind, run_eqGuard_string, Result.andThen_ok, hr], by simp only [VR]; exact ⟨_, rfl⟩, hg2⟩
  | _ => exact absurd hg hf
 | unkS =>
  simp only [VR] at hx
  obtain ⟨a, rfl⟩ := hx
  cases y with
  | str b =>
   simp only [VR] at hy
   subst hy
   simp only at hg
   obtain ⟨hc, hg2⟩ := unkOr_spec hf hg
   obtain ⟨r, hr⟩ := cmpS_some (P := P) (t := t) (a := a) (b := ⟨b.toArray⟩) (w := w) hc
   exact ⟨_, .bool r, by simp only [Sem.run_bind, run_eqGuard_string, Result.andThen_ok, hr], by simp only [VR]; exact ⟨_, rfl⟩, hg2⟩
  | unkS =>
   simp only [VR] at hy
   obtain ⟨b, rfl⟩ := hy
   simp only at hg
   obtain ⟨hc, hg2⟩ := unkOr_spec hf hg
   obtain ⟨r, hr⟩ := cmpS_some (P := P) (t := t) (a := a) (b := b) (w := w) hc
   exact ⟨_, .bool r, by simp only [Sem.run_bind, run_eqGuard_string, Result.andThen_ok, hr], by simp only [VR]; exact ⟨_, rfl⟩, hg2⟩
  | _ => exact absurd hg hf
 | iface0 => exact absurd hg hf
 | unkV => exact absurd hg hf
 | _ =>
  simp only at hg
  obtain ⟨o1, o2, o3, o4, o5⟩ := VR.none_of hx rfl
  exact other hg (fun _ _ _ _ h _ => o1 _ _ h) (fun _ _ h _ => o2 _ h) (fun h => absurd h o3) (fun _ _ _ _ h _ => o4 _ _ h) (fun _ _ _ _ _ _ h _ => o5 _ _ _ h)
theorem binO_spec (hT : TabOk P tab) {op : BinOp} {t : TypeId} {xo yo : Operand} {x y : EV} {k : EV → β} {σ : Sg} {w : World} {x' y' : Value} (hg : G (binO tab fail op t xo yo x y k)) (hx : VR σ x x') (hy : VR σ y y') :
 ∃ e e', (do eqGuard op t xo yo x' y'; binOp op t x' y' : Sem Value).run P w = .ok e' w ∧ VR σ e e' ∧ G (k e) := by
 unfold binO at hg
 split at hg
 · split at hg
   · rename_i i hi
     split at hg
     · rename_i ms hd
       have hu := (hT.ty t i hi).und
       rw [hd] at hu
       simp only [VR] at hx hy
       subst hx; subst hy
       cases hc : (isCst xo || isCst yo) with
       | false => rw [hc] at hg; exact absurd hg hf
       | true =>
        rw [hc] at hg
        simp only [cond_true] at hg
        have heq : (Op.equal t .nilIface .nilIface).run P w = .ok true w := by
         show (Op.equalIn Op.maxDepth t .nilIface .nilIface).run P w = .ok true w
         obtain ⟨d, hd'⟩ : ∃ d, Op.maxDepth = d + 1 := ⟨Op.maxDepth - 1, by simp [Op.maxDepth]⟩
         rw [hd']
         simp [Op.equalIn, run_underlying hu]
        have hgd : (op = .eql ∨ op = .neq) → (eqGuard op t xo yo .nilIface .nilIface).run P w = .ok () w := fun hop => by
         rcases hop with rfl | rfl <;> (cases xo <;> cases yo <;> first | (cases hc; done) | simp [eqGuard])
        cases op <;> simp only at hg <;> first
         | exact absurd hg hf
         | skip
        case eql => exact ⟨_, .bool true, by simp only [Sem.run_bind, hgd (.inl rfl), Result.andThen_ok, binOp, heq, Sem.run_pure], by simp only [VR], hg⟩
        case neq => exact ⟨_, .bool false, by simp only [Sem.run_bind, hgd (.inr rfl), Result.andThen_ok, binOp, heq, Sem.run_pure]; rfl, by simp only [VR], hg⟩
     · exact absurd hg hf
   · exact absurd hg hf
 · exact binE_spec hf hT hg hx hy
omit hf in
theorem run_len_string (t ty : TypeId) (s : ByteArray) (w : World) (h : P.underlying t = some .string) : (Builtin.len_ #[t] ty #[.string s]).run P w = .ok (.int .i64 s.size) w := by
 simp [Builtin.len_, run_underlying h, goInt]
theorem capE_spec {t ty : TypeId} {v : EV} {d : TypeDesc} {k : EV → β} {σ : Sg} {w : World} {v' : Value} (hu : P.underlying t = some d) (hg : G (capE fail v d k)) (hv : VR σ v v') :
 ∃ e e', (Builtin.cap_ #[t] ty #[v']).run P w = .ok e' w ∧ VR σ e e' ∧ G (k e) := by
 unfold capE at hg
 cases d with
 | slice el =>
  simp only at hg
  split at hg
  · simp only [VR] at hv; subst hv
    exact ⟨_, .int .i64 (Int.ofNat 0), by simp [Builtin.cap_, run_underlying hu, goInt], by simp only [VR], hg⟩
  · rename_i b off n c
    simp only [VR] at hv; obtain ⟨l, _, rfl, _⟩ := hv
    exact ⟨_, .int .i64 (Int.ofNat c), by simp [Builtin.cap_, run_underlying hu, goInt], by simp only [VR], hg⟩
  · exact absurd hg hf
 | _ => exact absurd hg hf
theorem lenE_spec {t ty : TypeId} {v : EV} {h : Tr EO} {d : TypeDesc} {k : EV → β} {σ : Sg} {w : World} {v' : Value} (hu : P.underlying t = some d) (hg : G (lenE fail v h d k)) (hv : VR σ v v') (H : Holds σ h w) :
 ∃ e e', (Builtin.len_ #[t] ty #[v']).run P w = .ok e' w ∧ VR σ e e' ∧ G (k e) := by
 unfold lenE at hg
 cases d with
 | string =>
  simp only at hg
  split at hg
  · rename_i s
    simp only [VR] at hv; subst hv
    exact ⟨_, .int .i64 (Int.ofNat s.length), by rw [run_len_string _ _ _ _ hu, size_bytes]; rfl, by simp only [VR], hg⟩
  · simp only [VR] at hv; obtain ⟨s, rfl⟩ := hv
    exact ⟨_, .int .i64 s.size, run_len_string _ _ _ _ hu, by simp only [VR]; exact ⟨_, rfl⟩, hg⟩
  · exact absurd hg hf
 | slice e =>
  simp only at hg
  split at hg
  · simp only [VR] at hv; subst hv
    exact ⟨_, .int .i64 0, by simp [Builtin.len_, run_underlying hu, goInt], by simp only [VR]; rfl, hg⟩
  · rename_i n _
    simp only [VR] at hv; obtain ⟨l, _, rfl, _⟩ := hv
    exact ⟨_, .int .i64 (Int.ofNat n), by simp [Builtin.len_, run_underlying hu, goInt], by simp only [VR], hg⟩
  · simp only [VR] at hv; obtain ⟨a, n, c, rfl⟩ := hv
    exact ⟨_, .int .i64 n, by simp [Builtin.len_, run_underlying hu, goInt], by simp only [VR]; exact ⟨_, rfl⟩, hg⟩
  · exact absurd hg hf
 | map a b =>
  simp only at hg
  split at hg
  · simp only [VR] at hv; subst hv
    exact ⟨_, .int .i64 0, by simp [Builtin.len_, run_underlying hu, goInt], by simp only [VR]; rfl, hg⟩
  · rename_i b
    split at hg
    · rename_i l clock ho
      obtain ⟨lc, ob, h1, h2, ms, rfl, h4⟩ := H.there b _ ho
      simp only [VR] at hv; obtain ⟨lc', h5, rfl⟩ := hv
      rw [h1] at h5; cases h5
      refine ⟨_, .int .i64 (Int.ofNat l.length), ?_, by simp only [VR], hg⟩
      have hl := h4.len
      have hgo : (getObj lc.blk).run P w = .ok (.map ms clock) w := by simp [getObj, Sem.run, h2]
      have hl' : ms.size = l.length := by rw [hl]; simp
      simp [Builtin.len_, run_underlying hu, goInt, hgo, hl']
    · exact absurd hg hf
  · exact absurd hg hf
 | _ => exact absurd hg hf
end
end Go.Proofs.YtendekbckfpmgaaGreat
namespace Go.Proofs.YtendekbckfpmgaaGreat
open Go Go.RowKit
def OptR (σ : Sg) : Option EV → Option Value → Prop
 | none, none => True
 | some e, some v => VR σ e v
 | _, _ => False
theorem run_bounds {P : Program} {w : World} {isSlice : Bool} {len cap l h m : Nat} {lo hi mx : Option Value}
 (hm : (mx = none ∧ m = cap) ∨ (∃ k, mx = some (.int k (Int.ofNat m)) ∧ m ≤ cap)) (hh : (hi = none ∧ mx = none ∧ h = len) ∨ (∃ k, hi = some (.int k (Int.ofNat h)) ∧ h ≤ m))
 (hl : (lo = none ∧ l = 0) ∨ (∃ k, lo = some (.int k (Int.ofNat l)) ∧ l ≤ h)) : (Instr.sliceBounds isSlice len cap lo hi mx).run P w = .ok (l, h, m) w := by
 have sb : ∀ (k : IntKind) (n y : Nat) (code : BoundsCode), n ≤ y → (Instr.sliceBound (.int k (Int.ofNat n)) y code).run P w = .ok n w := fun k n y code hle => by
  have : (0 : Int) ≤ Int.ofNat n ∧ Int.ofNat n ≤ (y : Int) := by constructor <;> simp <;> omega
  rw [run_sliceBound w k (Int.ofNat n) y code this.1 this.2]; rfl
 unfold Instr.sliceBounds
 rcases hm with ⟨rfl, rfl⟩ | ⟨k1, rfl, hm⟩ <;> rcases hh with ⟨rfl, h1, rfl⟩ | ⟨k2, rfl, hh⟩ <;> rcases hl with ⟨rfl, rfl⟩ | ⟨k3, rfl, hl⟩ <;> first
  | (cases h1; done)
  | (simp only [Sem.run_bind, Sem.run_pure, Result.andThen_ok]; done)
  | (simp only [Sem.run_bind, Sem.run_pure, Result.andThen_ok]; (try rw [sb _ _ _ _ hm]; simp only [Result.andThen_ok]); (try rw [sb _ _ _ _ hh]; simp only [Result.andThen_ok]); (try rw [sb _ _ _ _ hl]; simp only [Result.andThen_ok]))
section
variable {P : Program} {tab : Tab} {β : Type} {fail : β} {G : β → Prop} (hf : ¬ G fail)
include hf
theorem optN_spec {o : Option EV} {d : Nat} {k : Nat → β} {σ : Sg} {v : Option Value} (hg : G (optN fail o d k)) (hv : OptR σ o v) :
 ∃ n, G (k n) ∧ ((o = none ∧ v = none ∧ n = d) ∨ ∃ ki, v = some (.int ki (Int.ofNat n))) := by
 unfold optN at hg
 cases o with
 | none =>
  cases v with
  | none => exact ⟨d, hg, .inl ⟨rfl, rfl, rfl⟩⟩
  | some _ => exact hv.elim
 | some e =>
  cases v with
  | none => exact hv.elim
  | some v =>
   simp only at hg
   split at hg
   · rename_i ki n
     simp only [OptR, VR] at hv
     subst hv
     exact ⟨n, hg, .inr ⟨ki, rfl⟩⟩
   · exact absurd hg hf
omit hf in
theorem addr_keep {b off l m sz : Nat} : (if m = l then (⟨b, off, none⟩ : Addr) else (⟨b, off, none⟩ : Addr).add (l * sz)) = ⟨b, bif Nat.beq l m then off else off + l * sz, none⟩ := by
 by_cases h : m = l
 · subst h; simp
 · rw [if_neg h, addr_add']
   have : Nat.beq l m = false := by rw [Bool.eq_false_iff]; intro hb; exact h (Nat.eq_of_beq_eq_true hb).symm
   rw [this]; rfl
omit hf in
theorem run_sliceAt_parts {t e : TypeId} {a : Option Addr} {len cap l h m sz : Nat} {lo hi mx : Option Value} {w : World} (hu : P.underlying t = some (.slice e)) (hs : (sizeOf e).run P w = .ok sz w)
 (hb : (Instr.sliceBounds true len cap lo hi mx).run P w = .ok (l, h, m) w) :
 (Instr.sliceAt t (.slice a len cap) lo hi mx).run P w = .ok (.slice (if m = l then a else a.map (·.add (l * sz))) (h - l) (m - l)) w := by
 simp only [Instr.sliceAt, Sem.run_bind, run_underlying hu, Result.andThen_ok, Instr.slice, hb, hs, Sem.run_pure]
omit hf in
theorem run_sliceAt_str {t : TypeId} {s : ByteArray} {l h : Nat} {lo hi : Option Value} {w : World} (hu : P.underlying t = some .string) (hb : (Instr.sliceBounds false s.size s.size lo hi none).run P w = .ok (l, h, s.size) w) :
 (Instr.sliceAt t (.string s) lo hi none).run P w = .ok (.string (s.extract l h)) w := by
 simp [Instr.sliceAt, run_underlying hu, Instr.slice, hb]
omit hf in
theorem extract_bytes (s : List UInt8) (l r : Nat) : (⟨s.toArray⟩ : ByteArray).extract l r = ⟨((s.take r).drop l).toArray⟩ := by
 apply ByteArray.ext
 rw [ByteArray.data_extract]
 apply Array.ext'
 simp [List.extract_eq_take_drop, List.drop_take]
theorem sliceE_spec (hT : TabOk P tab) {t : TypeId} {v : EV} {lo hi mx : Option EV} {h : Tr EO} {k : EV → β} {σ : Sg} {w : World} {v' : Value} {lo' hi' mx' : Option Value} (hg : G (sliceE tab fail t v lo hi mx h k))
 (hv : VR σ v v') (h1 : OptR σ lo lo') (h2 : OptR σ hi hi') (h3 : OptR σ mx mx') (H : Holds σ h w) : ∃ e e', (Instr.sliceAt t v' lo' hi' mx').run P w = .ok e' w ∧ VR σ e e' ∧ G (k e) := by
 unfold sliceE at hg
 cases v with
 | str s =>
  simp only [VR] at hv
  subst hv
  simp only at hg
  split at hg
  · rename_i hty
    cases hti : tab.ty.get t with
    | none => simp only [hti] at hty; cases hty
    | some i =>
     simp only [hti] at hty
     have hu := (hT.ty t i hti).und
     cases hd : i.desc <;> simp only [hd] at hty <;> first | (cases hty; done) | skip
     rw [hd] at hu
     obtain ⟨l, hg, hl⟩ := optN_spec hf hg h1
     obtain ⟨r, hg, hr⟩ := optN_spec hf hg h2
     cases mx' with
     | some _ => exact h3.elim
     | none =>
      cases hb : (Nat.ble l r && Nat.ble r s.length) with
      | false => rw [hb] at hg; exact absurd hg hf
      | true =>
       rw [hb] at hg
       rw [Bool.and_eq_true] at hb
       have b1 := Nat.le_of_ble_eq_true hb.1
       have b2 := Nat.le_of_ble_eq_true hb.2
       refine ⟨_, .string ⟨((s.take r).drop l).toArray⟩, ?_, by simp only [VR], hg⟩
       rw [← extract_bytes]
       refine run_sliceAt_str hu (run_bounds (.inl ⟨rfl, rfl⟩) ?_ ?_)
       · rcases hr with ⟨_, rfl, rfl⟩ | ⟨ki, rfl⟩
         · exact .inl ⟨rfl, rfl, (size_bytes s).symm⟩
         · exact .inr ⟨ki, rfl, by rw [size_bytes]; exact b2⟩
       · rcases hl with ⟨_, rfl, rfl⟩ | ⟨ki, rfl⟩
         · exact .inl ⟨rfl, rfl⟩
         · exact .inr ⟨ki, rfl, b1⟩
  · exact absurd hg hf
 | slice0 =>
  simp only [VR] at hv
  subst hv
  simp only at hg
  obtain ⟨e, ei, hu, _, hty, hg⟩ := elemE_spec hf hT hg
  split at hg
  · obtain ⟨l, hg, hl⟩ := optN_spec hf hg h1
    obtain ⟨r, hg2, hr⟩ := optN_spec hf hg h2
    cases mx' with
    | some _ => exact h3.elim
    | none =>
     cases hb : (Nat.beq l 0 && Nat.beq r 0) with
     | false => rw [hb] at hg2; exact absurd hg2 hf
     | true =>
      rw [hb] at hg2
      rw [Bool.and_eq_true] at hb
      have b1 := Nat.eq_of_beq_eq_true hb.1
      have b2 := Nat.eq_of_beq_eq_true hb.2
      subst b1; subst b2
      refine ⟨_, .slice none 0 0, ?_, by simp only [VR], hg2⟩
      rw [run_sliceAt_parts (l := 0) (h := 0) (m := 0) hu (hty.run_size w) (run_bounds (.inl ⟨rfl, rfl⟩) ?_ ?_)]
      · simp
      · rcases hr with ⟨_, rfl, _⟩ | ⟨ki, rfl⟩
        · exact .inl ⟨rfl, rfl, rfl⟩
        · exact .inr ⟨ki, rfl, Nat.le_refl _⟩
      · rcases hl with ⟨_, rfl, _⟩ | ⟨ki, rfl⟩
        · exact .inl ⟨rfl, rfl⟩
        · exact .inr ⟨ki, rfl, Nat.le_refl _⟩
  · exact absurd hg hf
 | slice b off n cap =>
  simp only [VR] at hv
  obtain ⟨L, hL, rfl, hle⟩ := hv
  simp only at hg
  obtain ⟨e, ei, hu, _, hty, hg⟩ := elemE_spec hf hT hg
  cases mx with
  | some m =>
   cases mx' with
   | none => exact h3.elim
   | some m' =>
    cases hi with
    | none => cases cap <;> exact absurd hg hf
    | some hi =>
     cases hi' with
     | none => exact h2.elim
     | some hi' =>
      have fin : ∀ q, q ≤ cap.getD ((L.tot - off) / L.esz) → G (optN fail (some m) 0 fun m => optN fail lo 0 fun l => optN fail (some hi) n fun r =>
       bif Nat.ble l r && Nat.ble r m && Nat.ble m q then k (.slice b (bif Nat.beq l m then off else Nat.add off (Nat.mul l ei.size)) (Nat.sub r l) (some (Nat.sub m l))) else fail) →
       ∃ e e', (Instr.sliceAt t (.slice (some ⟨L.blk, off, none⟩) n (cap.getD ((L.tot - off) / L.esz))) lo' (some hi') (some m')).run P w = .ok e' w ∧ VR σ e e' ∧ G (k e) := by
       intro q hq hg
       obtain ⟨m, hg, hm⟩ := optN_spec hf hg (v := some m') h3
       obtain ⟨l, hg, hl⟩ := optN_spec hf hg h1
       obtain ⟨r, hg, hr⟩ := optN_spec hf hg (v := some hi') h2
       cases hb : (Nat.ble l r && Nat.ble r m && Nat.ble m q) with
       | false => rw [hb] at hg; exact absurd hg hf
       | true =>
        rw [hb] at hg
        rw [Bool.and_eq_true, Bool.and_eq_true] at hb
        have b1 := Nat.le_of_ble_eq_true hb.1.1
        have b2 := Nat.le_of_ble_eq_true hb.1.2
        have b3 := Nat.le_of_ble_eq_true hb.2
        refine ⟨_, _, run_sliceAt_parts (l := l) (h := r) (m := m) hu (hty.run_size w) (run_bounds ?_ ?_ ?_), ?_, hg⟩
        · rcases hm with ⟨_, h, _⟩ | ⟨ki, h⟩
          · cases h
          · exact .inr ⟨ki, h, by omega⟩
        · rcases hr with ⟨_, h, _⟩ | ⟨ki, h⟩
          · cases h
          · exact .inr ⟨ki, h, b2⟩
        · rcases hl with ⟨_, rfl, rfl⟩ | ⟨ki, rfl⟩
          · exact .inl ⟨rfl, rfl⟩
          · exact .inr ⟨ki, rfl, b1⟩
        · simp only [VR, Option.getD_some]
          refine ⟨L, hL, ?_, by show r - l ≤ m - l; omega⟩
          simp only [Option.map_some, ← apply_ite, addr_keep]
          rfl
      cases cap with
      | some q => exact fin q (Nat.le_refl _) hg
      | none => exact fin n hle hg
  | none =>
   cases mx' with
   | some _ => exact h3.elim
   | none =>
    simp only at hg
    obtain ⟨l, hg, hl⟩ := optN_spec hf hg h1
    obtain ⟨r, hg, hr⟩ := optN_spec hf hg h2
    have bnd : l ≤ r → r ≤ cap.getD ((L.tot - off) / L.esz) → (Instr.sliceAt t (.slice (some ⟨L.blk, off, none⟩) n (cap.getD ((L.tot - off) / L.esz))) lo' hi' none).run P w =
     .ok (.slice (some ⟨L.blk, bif Nat.beq l (cap.getD ((L.tot - off) / L.esz)) then off else off + l * ei.size, none⟩) (r - l) (cap.getD ((L.tot - off) / L.esz) - l)) w := by
     intro b1 b2
     rw [run_sliceAt_parts (l := l) (h := r) (m := cap.getD ((L.tot - off) / L.esz)) hu (hty.run_size w) (run_bounds (.inl ⟨rfl, rfl⟩) ?_ ?_)]
     · simp only [Option.map_some, ← apply_ite, addr_keep]
     · rcases hr with ⟨_, rfl, rfl⟩ | ⟨ki, rfl⟩
       · exact .inl ⟨rfl, rfl, rfl⟩
       · exact .inr ⟨ki, rfl, b2⟩
     · rcases hl with ⟨_, rfl, rfl⟩ | ⟨ki, rfl⟩
       · exact .inl ⟨rfl, rfl⟩
       · exact .inr ⟨ki, rfl, b1⟩
    cases cap with
    | some q =>
     simp only at hg
     cases hb : (Nat.ble l r && Nat.ble r q) with
     | false => rw [hb] at hg; exact absurd hg hf
     | true =>
      rw [hb] at hg
      rw [Bool.and_eq_true] at hb
      have b1 := Nat.le_of_ble_eq_true hb.1
      have b2 := Nat.le_of_ble_eq_true hb.2
      refine ⟨_, _, bnd b1 b2, ?_, hg⟩
      simp only [VR, Option.getD_some]
      exact ⟨L, hL, rfl, by show r - l ≤ q - l; omega⟩
    | none =>
     simp only at hg
     cases hb : (Nat.ble l r && Nat.ble r n && ((Nat.ble (Nat.succ l) n && Nat.beq (zB h b) ei.size && Nat.ble 1 ei.size) || Nat.beq l 0)) with
     | false => rw [hb] at hg; exact absurd hg hf
     | true =>
      rw [hb] at hg
      rw [Bool.and_eq_true, Bool.and_eq_true, Bool.or_eq_true, Bool.and_eq_true, Bool.and_eq_true] at hb
      have b1 := Nat.le_of_ble_eq_true hb.1.1
      have b2 := Nat.le_of_ble_eq_true hb.1.2
      simp only [Option.getD_none] at hle bnd
      have hrun := bnd b1 (Nat.le_trans b2 hle)
      rcases hb.2 with ⟨⟨b3, b4⟩, b5⟩ | b3
      · have b3 := Nat.le_of_ble_eq_true b3
        have b4 := Nat.eq_of_beq_eq_true b4
        have b5 := Nat.le_of_ble_eq_true b5
        have hesz : L.esz = ei.size := by
         unfold zB at b4
         cases ho : h.get b with
         | none => rw [ho] at b4; simp only at b4; omega
         | some o =>
          rw [ho] at b4
          obtain ⟨L', ob, e1, e2, e3⟩ := H.there b o ho
          rw [hL] at e1; cases e1
          cases o with
          | cells c m z => obtain ⟨_, _, _, _, _, _, h5, _⟩ := e3; simp only at b4; rw [h5 (by omega), b4]
          | ro c z => obtain ⟨_, _, _, _, _, h5, _⟩ := e3; simp only at b4; rw [h5 (by omega), b4]
          | map _ _ => simp only at b4; omega
          | loop _ _ _ _ _ _ _ => simp only at b4; omega
          | dfr => simp only at b4; omega
          | mit _ _ _ _ => simp only at b4; omega
        have hne : Nat.beq l ((L.tot - off) / L.esz) = false := by
         rw [Bool.eq_false_iff]; intro hq
         have := Nat.eq_of_beq_eq_true hq
         omega
        rw [hne] at hrun
        refine ⟨_, _, hrun, ?_, hg⟩
        have hcap : (L.tot - (off + l * ei.size)) / L.esz = (L.tot - off) / L.esz - l := by
         rw [hesz, Nat.sub_add_eq, Nat.mul_comm l, Nat.sub_mul_div]
        simp only [VR, Option.getD_none, cond_false]
        refine ⟨L, hL, ?_, ?_⟩
        · show _ = Value.slice _ (r - l) ((L.tot - (off + l * ei.size)) / L.esz)
          rw [hcap]; rfl
        · show r - l ≤ (L.tot - (off + l * ei.size)) / L.esz
          rw [hcap]; omega
      · have b3 := Nat.eq_of_beq_eq_true b3
        subst b3
        refine ⟨_, _, hrun, ?_, hg⟩
        simp only [VR, Option.getD_none]
        refine ⟨L, hL, ?_, ?_⟩
        · simp
        · show r - 0 ≤ (L.tot - (off + 0 * ei.size)) / L.esz
          simp; omega
 | _ => exact absurd hg hf
end
end Go.Proofs.YtendekbckfpmgaaGreat
