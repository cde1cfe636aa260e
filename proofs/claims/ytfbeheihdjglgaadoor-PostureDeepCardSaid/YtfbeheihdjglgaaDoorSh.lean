/- Part of a proof about calls of this program: an evaluator of the model's code on shadow values, and nothing is claimed of it here. No condition. -/
import Derived.Orders
set_option linter.unusedSectionVars false
set_option linter.unusedSimpArgs false
set_option linter.unusedVariables false
namespace Go.Sh

/-! ## shadow values -/
inductive SV where
  | bad
  | junk
  | bool (b : Bool)
  | int (k : IntKind) (n : Int)
  | flt (k : FloatKind) (n : Nat)
  | str (len n : Nat)
  | ptr (b off : Nat)
  | nilp
  | slc (b off len cap : Nat)
  | slo (b off len sz : Nat)
  | nils
  | capx (b off len sz : Nat)
  /-- a slice of length 0, not nil; where it lies is not known -/
  | emp
  | mp (b : Nat)
  | nilm
  | fn (f : Fn) (first cap : List SV)
  /-- what a range over a function hands to it: the record of the loop -/
  | yld (b : Nat)
  | nilf
  | ifc (t : Nat) (v : SV)
  | nili
  | agg (cs : List SV)
  | tup (vs : List SV)
  /-- a value that is not known: below 100 a string, below 200 a slice, else a whole number; that at i + 1000 is the length of that at i -/
  | opq (i : Nat)
  deriving Inhabited

/-- the frame's slots -/
inductive En where
  | e
  | n (l : En) (v : SV) (r : En)
  deriving Inhabited

noncomputable def En.get (t : En) : Nat → SV :=
  En.rec (motive := fun _ => Nat → SV) (fun _ => .bad)
    (fun _ v _ gl gr k => Bool.rec (motive := fun _ => SV) (Bool.rec (motive := fun _ => SV) (gr (Nat.pred (Nat.div k 2))) (gl (Nat.div k 2)) (Nat.beq (Nat.mod k 2) 1)) v (Nat.beq k 0)) t

noncomputable def En.mk (f : Nat) : Nat → SV → En :=
  Nat.rec (motive := fun _ => Nat → SV → En) (fun _ _ => .e)
    (fun _ ih k x => Bool.rec (motive := fun _ => En) (Bool.rec (motive := fun _ => En) (.n .e .bad (ih (Nat.pred (Nat.div k 2)) x)) (.n (ih (Nat.div k 2) x) .bad .e) (Nat.beq (Nat.mod k 2) 1)) (.n .e x .e) (Nat.beq k 0)) f

noncomputable def En.set (t : En) : Nat → SV → En :=
  En.rec (motive := fun _ => Nat → SV → En) (fun k x => En.mk 40 k x)
    (fun l v r sl sr k x => Bool.rec (motive := fun _ => En) (Bool.rec (motive := fun _ => En) (.n l v (sr (Nat.pred (Nat.div k 2)) x)) (.n (sl (Nat.div k 2) x) v r) (Nat.beq (Nat.mod k 2) 1)) (.n l x r) (Nat.beq k 0)) t

inductive SBlk where
  | none
  /-- a block whose cells are all known -/
  | cells (ty : Nat) (cs : List SV)
  /-- a block behind a growth: cells may follow that are not known; it has at most ub; those below fz are only read; st: it was made of a string -/
  | opn (ty : Nat) (cs : List SV) (ub fz : Nat) (st : Bool)
  /-- a block that is only read -/
  | ro (ty : Nat) (cs : List SV)
  | map (es : List (SV × SV × Nat)) (clock : Nat)
  | siter (len n pos : Nat)
  /-- the record of a range over a function: the slots (how many, and what is known of them), the parameters, the code, its state (0 ready, 1 busy, 2 done, 3 exhausted), the pending jump, the block for the rounds' deferred calls -/
  | lp (n : Nat) (env : En) (ps : Array Tmp) (assign body : Code) (st : Nat) (pend : Option Code) (dm : Nat)
  /-- the rounds' deferred calls: none -/
  | dm
  /-- a map that is being filled, in an order that is open: by which row, under which string, with what -/
  | mapp (es : List (Nat × Nat × Nat × SV))
  /-- a map that was filled in an order that is not known -/
  | mapx (es : List (Nat × Nat × SV))
  deriving Inhabited

inductive Hp where
  | e
  | n (l : Hp) (v : SBlk) (r : Hp)
  deriving Inhabited

noncomputable def Hp.get (t : Hp) : Nat → SBlk :=
  Hp.rec (motive := fun _ => Nat → SBlk) (fun _ => .none)
    (fun _ v _ gl gr k => Bool.rec (motive := fun _ => SBlk) (Bool.rec (motive := fun _ => SBlk) (gr (Nat.pred (Nat.div k 2))) (gl (Nat.div k 2)) (Nat.beq (Nat.mod k 2) 1)) v (Nat.beq k 0)) t

noncomputable def Hp.mk (f : Nat) : Nat → SBlk → Hp :=
  Nat.rec (motive := fun _ => Nat → SBlk → Hp) (fun _ _ => .e)
    (fun _ ih k x => Bool.rec (motive := fun _ => Hp) (Bool.rec (motive := fun _ => Hp) (.n .e .none (ih (Nat.pred (Nat.div k 2)) x)) (.n (ih (Nat.div k 2) x) .none .e) (Nat.beq (Nat.mod k 2) 1)) (.n .e x .e) (Nat.beq k 0)) f

noncomputable def Hp.set (t : Hp) : Nat → SBlk → Hp :=
  Hp.rec (motive := fun _ => Nat → SBlk → Hp) (fun k x => Hp.mk 40 k x)
    (fun l v r sl sr k x => Bool.rec (motive := fun _ => Hp) (Bool.rec (motive := fun _ => Hp) (.n l v (sr (Nat.pred (Nat.div k 2)) x)) (.n (sl (Nat.div k 2) x) v r) (Nat.beq (Nat.mod k 2) 1)) (.n l x r) (Nat.beq k 0)) t

noncomputable section
/-- the state: the heap; the next name; the least name written since the call began -/
structure St where
  h : Hp
  nx : Nat
  lo : Nat
  deriving Inhabited

def St.new (s : St) (b : SBlk) : St := ⟨s.h.set s.nx b, Nat.succ s.nx, s.lo⟩
def minN (a b : Nat) : Nat := cond (Nat.ble a b) a b
def St.put (s : St) (i : Nat) (b : SBlk) : St := ⟨s.h.set i b, s.nx, minN s.lo i⟩

def big : Nat := 1152921504606846976
/-! ## numbers and strings -/
def ltI : Int → Int → Bool
  | .ofNat a => fun | .ofNat b => Nat.ble (Nat.succ a) b | .negSucc _ => false
  | .negSucc a => fun | .ofNat _ => true | .negSucc b => Nat.ble (Nat.succ b) a
def eqI : Int → Int → Bool
  | .ofNat a => fun | .ofNat b => Nat.beq a b | .negSucc _ => false
  | .negSucc a => fun | .ofNat _ => false | .negSucc b => Nat.beq a b
def maxOf : IntKind → Nat
  | .i8 => 127 | .i16 => 32767 | .i32 => 2147483647 | .i64 => 9223372036854775807
  | .u8 => 255 | .u16 => 65535 | .u32 => 4294967295 | .u64 => 18446744073709551615
def wrapF (k : IntKind) : Int → Int
  | .ofNat n => cond (Nat.ble n (maxOf k)) (.ofNat n) (k.wrap (.ofNat n))
  | .negSucc n => cond (Nat.ble n (maxOf k)) (cond k.signed (.negSucc n) (k.wrap (.negSucc n))) (k.wrap (.negSucc n))
def eqK : IntKind → IntKind → Bool
  | .i8 => fun | .i8 => true | _ => false
  | .i16 => fun | .i16 => true | _ => false
  | .i32 => fun | .i32 => true | _ => false
  | .i64 => fun | .i64 => true | _ => false
  | .u8 => fun | .u8 => true | _ => false
  | .u16 => fun | .u16 => true | _ => false
  | .u32 => fun | .u32 => true | _ => false
  | .u64 => fun | .u64 => true | _ => false
def eqB : Bool → Bool → Bool
  | true => fun b => b
  | false => fun b => !b

def natOf : List UInt8 → Nat
  | [] => 0
  | c :: cs => Nat.add c.toNat (Nat.mul 256 (natOf cs))

def strCat (l1 n1 l2 n2 : Nat) : SV := .str (Nat.add l1 l2) (Nat.add n1 (Nat.mul n2 (Nat.pow 2 (Nat.mul 8 l1))))
def strAt (n i : Nat) : Nat := Nat.mod (Nat.div n (Nat.pow 2 (Nat.mul 8 i))) 256
def strCut (n l h : Nat) : SV := .str (Nat.sub h l) (Nat.mod (Nat.div n (Nat.pow 2 (Nat.mul 8 l))) (Nat.pow 2 (Nat.mul 8 (Nat.sub h l))))
def eqStr (la na lb nb : Nat) : Bool := cond (Nat.beq la lb) (Nat.beq na nb) false
/-- la is the fuel -/
def strLess : Nat → Nat → Nat → Nat → Bool
  | 0 => fun _ lb _ => !(Nat.beq lb 0)
  | la + 1 => fun na lb nb => cond (Nat.beq lb 0) false (cond (Nat.ble (Nat.succ (Nat.mod na 256)) (Nat.mod nb 256)) true
      (cond (Nat.beq (Nat.mod na 256) (Nat.mod nb 256)) (strLess la (Nat.div na 256) (Nat.pred lb) (Nat.div nb 256)) false))

/-! ## constants and operands -/
def ofV1 : Value → SV
  | .bool b => .bool b
  | .int k n => .int k n
  | .float k n => .flt k n
  | .string s => .str s.size (natOf s.data.toList)
  | .pointer none => .nilp
  | .slice none 0 0 => .nils
  | .map none => .nilm
  | .nilFunc => .nilf
  | .nilIface => .nili
  | .func f first cap => cond (first.isEmpty && cap.isEmpty) (.fn f [] []) .bad
  | _ => .bad
def isBad : SV → Bool
  | .bad => true
  | _ => false
def anyBad : List SV → Bool
  | [] => false
  | v :: vs => cond (isBad v) true (anyBad vs)
def aggV (l : List SV) : SV := cond (anyBad l) .bad (.agg l)
def ofV : Value → SV
  | .agg cs => aggV (cs.toList.map ofV1)
  | v => ofV1 v

def evO : Operand → En → SV
  | .tmp t => fun env => env.get t
  | .const v => fun _ => ofV v
  | .global g => fun _ => .ptr g 0
  | .func f => fun _ => .fn (.func f) [] []

def evOs (os : List Operand) (env : En) : List SV := os.map fun o => evO o env

inductive R where
  | v (x : SV) (s : St)
  | skip (s : St)
  | call (f : FuncId) (args : List SV) (s : St)
  | dfr (f : FuncId) (args : List SV) (s : St)
  | rnd (b : Nat) (args : List SV) (s : St)
  | rcv (s : St)
  | pan (v : SV) (s : St)
  | fork (x : SV) (s : St) (y : SV) (t : St)
  | bad (why : String)
  deriving Inhabited

/-- a value, if it is none that is bad -/
def rv (x : SV) (s : St) (why : String) : R := cond (isBad x) (.bad why) (.v x s)

/-! ## types -/
def size? (P : Program) (t : TypeId) : Option Nat := match P.info? t with | some i => some i.size | none => none
def zeroS (P : Program) (t : TypeId) : SV := match P.info? t with | some i => (match i.zero with | some z => ofV z | none => .bad) | none => .bad
def cellsOf : SV → List SV
  | .agg cs => cs
  | v => [v]
def zeroCs (P : Program) (t : TypeId) : Option (List SV) := match zeroS P t with | .bad => none | v => (match cellsOf v with | cs => cond (anyBad cs) none (some cs))
def isAggD : TypeDesc → Bool
  | .struct _ => true
  | .array _ _ => true
  | _ => false
def isAgg? (P : Program) (t : TypeId) : Option Bool := match P.underlying t with | some d => some (isAggD d) | none => none

/-! ## memory -/
def oneC : SV → Bool
  | .agg _ => false
  | .tup _ => false
  | .bad => false
  | .junk => false
  | .capx .. => false
  | _ => true
def allOne : List SV → Bool
  | [] => true
  | v :: vs => cond (oneC v) (allOne vs) false

def readB : SBlk → Option (List SV)
  | .cells _ cs => some cs
  | .opn _ cs _ _ _ => some cs
  | .ro _ cs => some cs
  | _ => none
def tyB : SBlk → Option Nat
  | .cells t _ => some t
  | .opn t _ _ _ _ => some t
  | .ro t _ => some t
  | _ => none
def dropN : Nat → List SV → List SV
  | 0 => fun l => l
  | n + 1 => fun | [] => [] | _ :: l => dropN n l
def takeN : Nat → List SV → Option (List SV)
  | 0 => fun _ => some []
  | n + 1 => fun | [] => none | x :: xs => (match takeN n xs with | some l => some (x :: l) | none => none)
def readN (s : St) (b off n : Nat) : Option (List SV) := match readB (s.h.get b) with | some cs => takeN n (dropN off cs) | none => none
def headC : List SV → SV
  | [] => .bad
  | x :: _ => x
def read1 (s : St) (b off : Nat) : SV := match readB (s.h.get b) with | some cs => headC (dropN off cs) | none => .bad

/-- the new cells over the old, from an offset on -/
def putAt : Nat → List SV → List SV → Option (List SV)
  | 0 => fun xs cs => put0 xs cs
  | k + 1 => fun xs => fun | [] => none | c :: cs => (match putAt k xs cs with | some l => some (c :: l) | none => none)
  where put0 : List SV → List SV → Option (List SV)
  | [] => fun cs => some cs
  | x :: xs => fun | [] => none | _ :: cs => (match put0 xs cs with | some l => some (x :: l) | none => none)

def writeB (off : Nat) (xs : List SV) : SBlk → SBlk
  | .cells t cs => (match putAt off xs cs with | some l => .cells t l | none => .none)
  | .opn t cs ub fz st => cond (Nat.ble fz off) (match putAt off xs cs with | some l => .opn t l ub fz st | none => .none) .none
  | _ => .none
def isNone : SBlk → Bool
  | .none => true
  | _ => false
def writeN (s : St) (b off : Nat) (xs : List SV) : Option St :=
  cond (allOne xs) (match writeB off xs (s.h.get b) with | .none => none | blk => some (s.put b blk)) none

def optAgg : Option (List SV) → SV
  | some l => .agg l
  | none => .bad
def loadS (P : Program) (s : St) (t : TypeId) : SV → SV
  | .ptr b off => (match P.underlying t with
    | some d => cond (isAggD d) (match size? P t with | some n => optAgg (readN s b off n) | none => .bad) (read1 s b off)
    | none => .bad)
  | _ => .bad

def fillS (place : Nat → Option (Nat × Nat)) : List (Nat × SV) → List SV → Option (List SV)
  | [] => fun cells => some cells
  | (i, v) :: rest => fun cells => (match place i with
    | some (off, size) => cond (Nat.beq (cellsOf v).length size) (cond (allOne (cellsOf v)) (match putAt off (cellsOf v) cells with | some cells => fillS place rest cells | none => none) none) none
    | none => none)

def repl (zs : List SV) : Nat → List SV
  | 0 => []
  | n + 1 => zs ++ repl zs n

/-! ## operators -/
def optV : Option Bool → SV
  | some b => .bool b
  | none => .bad
def notO : Option Bool → Option Bool
  | some b => some (!b)
  | none => none

def intOp : BinOp → IntKind → Int → Int → SV
  | .add => fun k a b => .int k (wrapF k (Int.add a b))
  | .sub => fun k a b => .int k (wrapF k (Int.sub a b))
  | .mul => fun k a b => .int k (wrapF k (Int.mul a b))
  | .quo => fun k a b => cond (eqI b 0) .bad (.int k (wrapF k (a.tdiv b)))
  | .rem => fun k a b => cond (eqI b 0) .bad (.int k (a.tmod b))
  | .and => fun k a b => .int k (k.wrap (BitVec.ofInt k.bits a &&& BitVec.ofInt k.bits b).toNat)
  | .or => fun k a b => .int k (k.wrap (BitVec.ofInt k.bits a ||| BitVec.ofInt k.bits b).toNat)
  | .xor => fun k a b => .int k (k.wrap (BitVec.ofInt k.bits a ^^^ BitVec.ofInt k.bits b).toNat)
  | .andNot => fun k a b => .int k (k.wrap (BitVec.ofInt k.bits a &&& ~~~ BitVec.ofInt k.bits b).toNat)
  | .eql => fun _ a b => .bool (eqI a b)
  | .neq => fun _ a b => .bool (!(eqI a b))
  | .lss => fun _ a b => .bool (ltI a b)
  | .leq => fun _ a b => .bool (!(ltI b a))
  | .gtr => fun _ a b => .bool (ltI b a)
  | .geq => fun _ a b => .bool (!(ltI a b))
  | _ => fun _ _ _ => .bad
def shlS (k : IntKind) (a : Int) : Int → SV
  | .ofNat n => .int k (wrapF k (Int.mul a (Int.ofNat (Nat.pow 2 (minN n k.bits)))))
  | .negSucc _ => .bad
def shrS (k : IntKind) (a : Int) : Int → SV
  | .ofNat n => .int k (a.fdiv (Int.ofNat (Nat.pow 2 (minN n k.bits))))
  | .negSucc _ => .bad
def intBin (op : BinOp) (k : IntKind) (a : Int) (k' : IntKind) (b : Int) : SV :=
  match op with
  | .shl => shlS k a b
  | .shr => shrS k a b
  | op => cond (eqK k k') (intOp op k a b) .bad
def strOp : BinOp → Nat → Nat → Nat → Nat → SV
  | .add => fun la na lb nb => cond (Nat.ble (Nat.add la lb) 1073741824) (strCat la na lb nb) .bad
  | .eql => fun la na lb nb => .bool (eqStr la na lb nb)
  | .neq => fun la na lb nb => .bool (!(eqStr la na lb nb))
  | .lss => fun la na lb nb => .bool (strLess la na lb nb)
  | .geq => fun la na lb nb => .bool (!(strLess la na lb nb))
  | .gtr => fun la na lb nb => .bool (strLess lb nb la na)
  | .leq => fun la na lb nb => .bool (!(strLess lb nb la na))
  | _ => fun _ _ _ _ => .bad

/-- what is known beforehand: the struct types that are compared; what operations on values that are not known give -/
structure EE where
  e : TypeId → Bool
  o : BinOp → SV → SV → SV := fun _ _ _ => .bad
  /-- a part of a string that is not known (no end: to its end) -/
  s : SV → Nat → Option Nat → SV := fun _ _ _ => .bad
  /-- a number that is not known, of another kind -/
  c : IntKind → SV → SV := fun _ _ => .bad
/-- a field's name that no comparison looks at -/
def fieldBlank (f : Field) : Bool := f.name == "_"
def partV (P : Program) (t : TypeId) (cs : List SV) (off : Nat) : SV := match P.underlying t with
  | some d => cond (isAggD d) (match size? P t with | some n => optAgg (takeN n (dropN off cs)) | none => .bad) (headC (dropN off cs))
  | none => .bad
def isCells : SBlk → Bool
  | .cells _ _ => true
  | _ => false
/-- a string, known or not -/
def strish : SV → Bool
  | .str _ _ => true
  | .opq i => Nat.ble (Nat.succ i) 100
  | _ => false
def boolO : SV → Option Bool
  | .bool b => some b
  | _ => none
/-- two strings of which one is not known -/
def strE (E : EE) (x y : SV) : Option Bool := cond (strish x) (cond (strish y) (boolO (E.o .eql x y)) none) none
def eqBoolS (x y : SV) : Option Bool := match x, y with | .bool a, .bool b => some (eqB a b) | _, _ => none
def eqIntS (x y : SV) : Option Bool := match x, y with | .int k a, .int k' b => cond (eqK k k') (some (eqI a b)) none | _, _ => none
def eqStrS (E : EE) (x y : SV) : Option Bool := match x, y with | .str la na, .str lb nb => some (eqStr la na lb nb) | .opq i, y => strE E (.opq i) y | .str la na, .opq j => strE E (.str la na) (.opq j) | _, _ => none
def eqPtrS (P : Program) (h : Hp) (e : TypeId) (x y : SV) : Option Bool := match x, y with
        | .nilp, .nilp => some true
        | .nilp, .ptr _ _ => some false
        | .ptr _ _, .nilp => some false
        | .ptr b o, .ptr b' o' => (match size? P e with | some (_ + 1) => cond (Nat.beq b b') (some (Nat.beq o o')) (cond (isCells (h.get b)) (cond (isCells (h.get b')) (some false) none) none) | _ => none)
        | _, _ => none
def eqIfcS (x y : SV) : Option Bool := match x, y with | .nili, .nili => some true | .nili, .ifc _ _ => some false | .ifc _ _, .nili => some false | _, _ => none
def eqSlcS (x y : SV) : Option Bool := match y with | .nils => (match x with | .nils => some true | .slc .. => some false | .slo .. => some false | .emp => some false | _ => none) | _ => none
def eqMapS (x y : SV) : Option Bool := match x, y with | .nilm, .nilm => some true | .mp _, .nilm => some false | _, _ => none
def eqFnS (x y : SV) : Option Bool := match x, y with | .nilf, .nilf => some true | .nilf, .fn .. => some false | .fn .. , .nilf => some false | _, _ => none
def eqAggS (k : List SV → List SV → Option Bool) (x y : SV) : Option Bool := match x, y with | .agg as, .agg bs => k as bs | _, _ => none
/-- equality of two values of a type; n: the levels of nesting -/
def eqT (E : EE) (P : Program) (h : Hp) : Nat → TypeId → SV → SV → Option Bool
  | 0 => fun _ _ _ => none
  | n + 1 => fun t x y => (match P.underlying t with
    | some d => (match d with
      | .bool => eqBoolS x y
      | .int _ => eqIntS x y
      | .string => eqStrS E x y
      | .pointer e => eqPtrS P h e x y
      | .interface _ => eqIfcS x y
      | .slice _ => eqSlcS x y
      | .map _ _ => eqMapS x y
      | .func _ _ _ => eqFnS x y
      | .struct fs => cond (E.e t) (eqAggS (fun as bs => eqFs (eqT E P h n) P as bs fs.toList) x y) none
      | _ => none)
    | none => none)
  where eqFs (eq : TypeId → SV → SV → Option Bool) (P : Program) (as bs : List SV) : List Field → Option Bool
  | [] => some true
  | f :: fs => (match eq f.type (partV P f.type as f.offset) (partV P f.type bs f.offset) with
    | some true => eqFs eq P as bs fs
    | some false => cond (fieldBlank f) none (some false)
    | none => none)
def eqOp (E : EE) (P : Program) (h : Hp) (t : TypeId) : BinOp → SV → SV → SV
  | .eql => fun x y => optV (eqT E P h 3 t x y)
  | .neq => fun x y => optV (notO (eqT E P h 3 t x y))
  | _ => fun _ _ => .bad
def isConst : Operand → Bool
  | .const _ => true
  | _ => false
/-- two nil values of an interface type: one of them is written as nil -/
def nilGuard (x y : Operand) : SV → SV → Bool
  | .nili => fun | .nili => isConst x || isConst y | _ => true
  | _ => fun _ => true
def binV (E : EE) (P : Program) (h : Hp) (t : TypeId) (x y : Operand) (op : BinOp) : SV → SV → SV
  | .int k a => fun | .int k' b => intBin op k a k' b | .opq j => E.o op (.int k a) (.opq j) | _ => .bad
  | .str la na => fun | .str lb nb => strOp op la na lb nb | .opq j => E.o op (.str la na) (.opq j) | _ => .bad
  | .opq i => fun vy => cond (isBad vy) .bad (E.o op (.opq i) vy)
  | vx => fun vy => cond (nilGuard x y vx vy) (eqOp E P h t op vx vy) .bad

def unV : UnOp → SV → SV
  | .neg => fun | .int k n => .int k (wrapF k (Int.neg n)) | _ => .bad
  | .not => fun | .bool b => .bool (!b) | _ => .bad
  | _ => fun _ => .bad

def encS (r : Int) : SV := ofV1 (.string (Utf8.encode r))
def bytesSV : Nat → Nat → List SV
  | 0 => fun _ => []
  | l + 1 => fun n => .int .u8 (.ofNat (Nat.mod n 256)) :: bytesSV l (Nat.div n 256)
def packSV : List SV → Option Nat
  | [] => some 0
  | c :: cs => (match c with
    | .int .u8 (.ofNat c) => cond (Nat.ble c 255) (match packSV cs with | some n => some (Nat.add c (Nat.mul 256 n)) | none => none) none
    | _ => none)
def decS (len n i : Nat) : Nat × Nat :=
  let at' (k : Nat) : Nat := strAt n (i + k)
  let cont (k : Nat) : Bool := Nat.ble (i + k + 1) len && Nat.beq (at' k / 64) 2
  let b0 := at' 0
  cond (Nat.ble (b0 + 1) 128) (b0, 1)
  (cond (Nat.beq (b0 / 32) 6 && cont 1)
    (let c := (b0 % 32) * 64 + at' 1 % 64
    cond (Nat.ble 128 c) (c, 2) (Utf8.runeError, 1))
  (cond (Nat.beq (b0 / 16) 14 && cont 1 && cont 2)
    (let c := (b0 % 16) * 4096 + (at' 1 % 64) * 64 + at' 2 % 64
    cond (Nat.ble 2048 c && Utf8.valid c) (c, 3) (Utf8.runeError, 1))
  (cond (Nat.beq (b0 / 8) 30 && cont 1 && cont 2 && cont 3)
    (let c := (b0 % 8) * 262144 + (at' 1 % 64) * 4096 + (at' 2 % 64) * 64 + at' 3 % 64
    cond (Nat.ble 65536 c && Utf8.valid c) (c, 4) (Utf8.runeError, 1))
  (Utf8.runeError, 1))))
/-- the runes of a string, from a place on -/
def runesSV (len n : Nat) : Nat → Nat → List SV
  | 0 => fun _ => []
  | f + 1 => fun i => cond (Nat.ble (Nat.succ i) len) (match decS len n i with | (c, w) => .int .i32 (.ofNat c) :: runesSV len n f (Nat.add i w)) []
def encAll : List SV → SV
  | [] => .str 0 0
  | v :: vs => (match v with
    | .int .i32 r => (match encS r, encAll vs with | .str a n, .str b m => strCat a n b m | _, _ => .bad)
    | _ => .bad)
def optEnc : Option (List SV) → SV
  | some l => encAll l
  | none => .bad
def strOf (len : Nat) : Option (List SV) → SV
  | some cs => (match packSV cs with | some n => .str len n | none => .bad)
  | none => .bad

/-- where a slice's cells lie: block, offset, length -/
def atS : SV → Option (Nat × Nat × Nat)
  | .slc b off len _ => some (b, off, len)
  | .slo b off len _ => some (b, off, len)
  | _ => none

/-- does a block hold a cell at an offset? -/
def inB (b : SBlk) (off : Nat) : Bool := match readB b with | some cs => Nat.ble (Nat.succ off) cs.length | none => false
def nzS : Option Nat → Bool
  | some (_ + 1) => true
  | _ => false
/-- does a block of a type's cells begin with a variable of that type? -/
def headB (u : Nat) (sz : Option Nat) (off : Nat) : SBlk → Bool
  | .cells t cs => cond (Nat.beq t u) (cond (Nat.beq off 0) (match sz with | some (n + 1) => Nat.ble (Nat.succ n) cs.length | _ => false) false) false
  | _ => false
def convS (E : EE) (P : Program) (s : St) (src dst : TypeId) (x : SV) : R :=
  match P.underlying src, P.underlying dst with
  | some _, some (.int k) => (match x with | .int _ n => .v (.int k (wrapF k n)) s | .opq i => rv (E.c k (.opq i)) s "conv opq" | _ => .bad "conv int")
  | some .string, some .string => (match x with | .str l n => .v (.str l n) s | _ => .bad "conv str")
  | some (.int _), some .string => (match x with | .int _ n => .v (encS n) s | _ => .bad "conv rune")
  | some .string, some (.slice e) => (match P.underlying e, x with
    | some (.int .u8), .str l n => .v (.slo s.nx 0 l 1) (s.new (.opn e (bytesSV l n) big 0 true))
    | some (.int .i32), .str l n => cond (Nat.ble l 1048576) (.v (.slo s.nx 0 (runesSV l n l 0).length 1) (s.new (.opn e (runesSV l n l 0) big 0 false))) (.bad "conv long")
    | _, _ => .bad "conv str to slice")
  | some (.slice e), some .string => (match P.underlying e with
    | some (.int .u8) => (match x with
      | .nils => .v (.str 0 0) s
      | x => (match atS x with | some (b, off, len) => rv (strOf len (readN s b off len)) s "conv bytes" | none => .bad "conv bytes"))
    | some (.int .i32) => (match x with
      | .nils => .v (.str 0 0) s
      | x => (match atS x with | some (b, off, len) => rv (optEnc (readN s b off len)) s "conv runes" | none => .bad "conv runes"))
    | _ => .bad "conv to string")
  | some (.pointer t), some .unsafePointer => (match x with
    | .ptr b off => cond (inB (s.h.get b) off && nzS (size? P t)) (.v (.ptr b off) s) (.bad "conv unsafe")
    | _ => .bad "conv unsafe")
  | some .unsafePointer, some (.pointer u) => (match x with
    | .ptr b off => cond (headB u (size? P u) off (s.h.get b)) (.v (.ptr b off) s) (.bad "conv unsafe")
    | _ => .bad "conv unsafe")
  | _, _ => .bad "convert"

def asN : SV → Option Nat
  | .int _ (.ofNat n) => some n
  | _ => none
def optN (d : Nat) (env : En) : Option Operand → Option Nat
  | none => some d
  | some o => asN (evO o env)

def leN (a b : Nat) : Bool := Nat.ble a b
def slcAt (b off sz l h m : Nat) : SV := cond (Nat.beq m l) (.slc b off (Nat.sub h l) (Nat.sub m l)) (.slc b (Nat.add off (Nat.mul l sz)) (Nat.sub h l) (Nat.sub m l))
def sliceStr (len n : Nat) (l h : Option Nat) : SV := match l, h with
  | some l, some h => cond (leN l h && leN h len) (strCut n l h) .bad
  | _, _ => .bad
def sliceC (b off cap sz : Nat) (l h m : Option Nat) : SV := match l, h, m with
  | some l, some h, some m => cond (leN l h && leN h m && leN m cap) (slcAt b off sz l h m) .bad
  | _, _, _ => .bad
/-- an open slice, no third index: known: how many elements the block is known to have behind the offset -/
def sliceO (b off len sz known : Nat) (l h : Option Nat) : SV := match l, h with
  | some l, some h => cond (leN l h && (leN h len || leN h known)) (cond (Nat.ble (Nat.succ l) len || Nat.beq l 0) (.slo b (Nat.add off (Nat.mul l sz)) (Nat.sub h l) sz) (cond (Nat.beq l h) .emp .bad)) .bad
  | _, _ => .bad
def knownIn (s : St) (b off sz : Nat) : Nat := match s.h.get b with
  | .opn _ cs _ _ _ => Nat.div (Nat.sub cs.length off) sz
  | _ => 0
def optH (env : En) : Option Operand → Option (Option Nat)
  | none => some none
  | some o => (match asN (evO o env) with | some n => some (some n) | none => none)
def sliceQ (E : EE) (x : SV) : Option Nat → Option (Option Nat) → SV
  | some l => fun | some h => E.s x l h | none => .bad
  | none => fun _ => .bad
def sliceS (E : EE) (P : Program) (env : En) (s : St) (t : TypeId) (x : SV) (lo hi mx : Option Operand) : SV :=
  match P.underlying t with
  | some .string => (match x, mx with
    | .str len n, none => sliceStr len n (optN 0 env lo) (optN len env hi)
    | .opq i, none => sliceQ E (.opq i) (optN 0 env lo) (optH env hi)
    | _, _ => .bad)
  | some (.slice e) => (match size? P e with
    | some sz => (match x with
      | .nils => (match optN 0 env lo, optN 0 env hi, optN 0 env mx with
        | some 0, some 0, some 0 => .nils
        | _, _, _ => .bad)
      | .emp => (match optN 0 env lo, optN 0 env hi, mx with
        | some 0, some 0, none => .emp
        | _, _, _ => .bad)
      | .slc b off len cap => sliceC b off cap sz (optN 0 env lo) (optN len env hi) (optN cap env mx)
      | .slo b off len sz' => cond (Nat.beq sz sz') (match mx with
        | none => sliceO b off len sz (knownIn s b off sz) (optN 0 env lo) (optN len env hi)
        | some m => sliceC b off len sz (optN 0 env lo) (optN len env hi) (asN (evO m env))) .bad
      | _ => .bad)
    | none => .bad)
  | some (.array n e) => (match size? P e, x with
    | some sz, .ptr b off => sliceC b off n sz (optN 0 env lo) (optN n env hi) (optN n env mx)
    | _, _ => .bad)
  | _ => .bad

def lenV (P : Program) (s : St) (t : TypeId) (x : SV) : Option Nat :=
  match P.underlying t with
  | some .string => (match x with | .str l _ => some l | _ => none)
  | some (.array n _) => some n
  | some (.pointer a) => (match P.underlying a with | some (.array n _) => some n | _ => none)
  | some (.slice _) => (match x with | .nils => some 0 | .emp => some 0 | .slc _ _ l _ => some l | .slo _ _ l _ => some l | _ => none)
  | some (.map _ _) => (match x with | .nilm => some 0 | .mp b => (match s.h.get b with | .map es _ => some es.length | _ => none) | _ => none)
  | _ => none
def lenQ (P : Program) (t : TypeId) (i : Nat) (s : St) : R := match P.underlying t with
  | some .string => cond (Nat.ble (Nat.succ i) 100) (.v (.opq (Nat.add i 1000)) s) (.bad "len opq")
  | some (.slice _) => cond (Nat.ble 100 i && Nat.ble (Nat.succ i) 200) (.v (.opq (Nat.add i 1000)) s) (.bad "len opq")
  | _ => .bad "len opq"
def rN (n : Option Nat) (s : St) (why : String) : R := match n with | some n => .v (.int .i64 (.ofNat n)) s | none => .bad why

/-- what is appended or copied: how many elements; their cells -/
def srcS (s : St) (sz : Nat) : SV → Option (Nat × List SV)
  | .nils => some (0, [])
  | .emp => some (0, [])
  | .slc b off len _ => (match readN s b off (Nat.mul len sz) with | some cs => some (len, cs) | none => none)
  | .slo b off len _ => (match readN s b off (Nat.mul len sz) with | some cs => some (len, cs) | none => none)
  | .str l n => cond (Nat.beq sz 1) (some (l, bytesSV l n)) none
  | _ => none
def isIntD : TypeDesc → Bool
  | .int _ => true
  | _ => false
def srcA (P : Program) (s : St) (e u : TypeId) (sz : Nat) (y : SV) : Option (Nat × List SV) := match P.underlying u with
  | some d => cond (isIntD d) (match y with
    | .int _ (.ofNat n) => cond (Nat.ble n 1048576) (match zeroCs P e with | some z => cond (Nat.beq z.length sz && Nat.ble 1 sz) (some (n, repl z n)) none | none => none) none
    | _ => none) (srcS s sz y)
  | none => none

def small (need bytes : Nat) : Bool := Nat.ble need 1048576 && Nat.ble bytes 1048576

/-- a type's zero value has as many cells as the type -/
def zokB (i : TypeInfo) : Bool := match i.zero with | some z => Nat.beq z.cells.size i.size | none => false
def appIn (s : St) (b off : Nat) (x : SV) (new : List SV) : R := match writeN s b off new with | some s => .v x s | none => .bad "append in place"
def appS (P : Program) (s : St) (t u : TypeId) (x y : SV) : R :=
  match P.underlying t with
  | some (.slice e) => (match P.info? e with
    | some i => (match srcA P s e u i.size y with
      | some (n, new) => cond (zokB i && (small n i.bytes && allOne new)) (match x with
        | .emp => cond (Nat.beq n 0) (.v .emp s) (.bad "append emp")
        | .nils => cond (Nat.beq n 0) (.v .nils s) (.v (.slo s.nx 0 n i.size) (s.new (.opn e new big 0 false)))
        | .slc b off len cap =>
          cond (Nat.ble (Nat.add len n) cap) (appIn s b (Nat.add off (Nat.mul len i.size)) (.slc b off (Nat.add len n) cap) new)
            (match readN s b off (Nat.mul len i.size) with
              | some old => cond (small len i.bytes) (.v (.slo s.nx 0 (Nat.add len n) i.size) (s.new (.opn e (old ++ new) big 0 false))) (.bad "append too long")
              | none => .bad "append grow")
        | .slo b off len sz => cond (Nat.beq sz i.size && small len i.bytes && Nat.ble 1 sz)
          (cond (Nat.beq n 0) (.v (.slo b off len sz) s) (match s.h.get b with
            | .opn ty cs ub fz st => cond (Nat.ble (Nat.add off (Nat.mul (Nat.add len n) sz)) cs.length) (appIn s b (Nat.add off (Nat.mul len sz)) (.slo b off (Nat.add len n) sz) new)
                (cond (Nat.ble (Nat.succ ub) (Nat.add off (Nat.mul (Nat.add len n) sz)) && Nat.ble (Nat.succ ub) big) (match takeN (Nat.mul len sz) (dropN off cs) with | some old => .v (.slo s.nx 0 (Nat.add len n) sz) (s.new (.opn e (old ++ new) big 0 false)) | none => .bad "append grow open")
                (cond (Nat.beq (Nat.add off (Nat.mul len sz)) cs.length && Nat.beq ty e && Nat.ble fz cs.length) (.v (.slo s.nx 0 (Nat.add len n) sz) ((s.put b .none).new (.opn e (dropN off cs ++ new) big (Nat.sub fz off) st))) (.bad "append past")))
            | _ => .bad "append blk")) (.bad "append size")
        | _ => .bad "append x") (.bad "append new")
      | none => .bad "append y")
    | none => .bad "append elem")
  | _ => .bad "append type"

def copyS (P : Program) (s : St) (t : TypeId) (x y : SV) : R :=
  match P.underlying t with
  | some (.slice e) => (match size? P e with
    | some sz => (match srcS s sz y with
      | some (n, cs) => (match x with
        | .nils => .v (.int .i64 (.ofNat 0)) s
        | .emp => .v (.int .i64 (.ofNat 0)) s
        | x => (match atS x with
          | some (b, off, dl) => (match takeN (Nat.mul (minN n dl) sz) cs with
            | some new => (match writeN s b off new with | some s => .v (.int .i64 (.ofNat (minN n dl))) s | none => .bad "copy write")
            | none => .bad "copy take")
          | none => .bad "copy dst"))
      | none => .bad "copy src")
    | none => .bad "copy size")
  | _ => .bad "copy type"

/-! ## maps -/
def keyFind (eq : SV → SV → Option Bool) (k : SV) : List (SV × SV × Nat) → Nat → Option (Option (Nat × SV × Nat × SV))
  | [] => fun _ => some none
  | (k', v, b) :: es => fun i => (match eq k k' with | some true => some (some (i, v, b, k')) | some false => keyFind eq k es (Nat.succ i) | none => none)
/-- two keys that are the same to the last bit -/
def sameC : SV → SV → Bool
  | .bool a => fun | .bool b => eqB a b | _ => false
  | .int k a => fun | .int k' b => cond (eqK k k') (eqI a b) false | _ => false
  | .str la na => fun | .str lb nb => eqStr la na lb nb | _ => false
  | .opq i => fun | .opq j => cond (Nat.ble (Nat.succ i) 100) (Nat.beq i j) false | _ => false
  | _ => fun _ => false
def sameCs : List SV → List SV → Bool
  | [] => fun | [] => true | _ :: _ => false
  | a :: as => fun | [] => false | b :: bs => cond (sameC a b) (sameCs as bs) false
def sameKey : SV → SV → Bool
  | .agg as => fun | .agg bs => sameCs as bs | _ => false
  | a => fun b => sameC a b
/-- a key that fits its type, and holds no interface's value -/
def keyOk (E : EE) (P : Program) (h : Hp) (t : TypeId) (k : SV) : Bool := cond (sameKey k k) (match eqT E P h 3 t k k with | some true => true | _ => false) false
def modAt : Nat → SV → List (SV × SV × Nat) → List (SV × SV × Nat)
  | 0 => fun v => fun | [] => [] | (k, _, b) :: es => (k, v, b) :: es
  | i + 1 => fun v => fun | [] => [] | e :: es => e :: modAt i v es

def entsOf (s : St) : SV → Option (List (SV × SV × Nat))
  | .nilm => some []
  | .mp b => (match s.h.get b with | .map es _ => some es | .mapx es => some (es.map fun x => (.str x.1 x.2.1, x.2.2, 0)) | _ => none)
  | _ => none
/-- in a map that was filled in an order that is not known, only known keys are looked up -/
def notOpq : SV → Bool
  | .opq _ => false
  | _ => true
def fitsM (s : St) : SV → SV → Bool
  | .mp b => fun k => (match s.h.get b with | .mapx _ => notOpq k | _ => true)
  | _ => fun _ => true
def lookV (E : EE) (P : Program) (s : St) (t : TypeId) (m k : SV) (ok : Bool) : SV :=
  match P.underlying t with
  | some (.map kt e) => cond (keyOk E P s.h kt k && fitsM s m k) (match entsOf s m with
      | some es => (match keyFind (eqT E P s.h 3 kt) k es 0 with
        | some (some (_, v, _, _)) => cond ok (.tup [v, .bool true]) v
        | some none => (match zeroS P e with | .bad => .bad | z => cond ok (.tup [z, .bool false]) z)
        | none => .bad)
      | none => .bad) .bad
  | _ => .bad
def mapPut (E : EE) (P : Program) (s : St) (t : TypeId) (m k v : SV) : R :=
  match P.underlying t, m with
  | some (.map kt _), .mp b => cond (keyOk E P s.h kt k) (match s.h.get b with
      | .map es clock => (match keyFind (eqT E P s.h 3 kt) k es 0 with
        | some (some (i, _, _, k')) => cond (sameKey k' k) (.skip (s.put b (.map (modAt i v es) clock))) (.bad "mapPut key stays")
        | some none => .skip (s.put b (.map (es ++ [(k, v, clock)]) (Nat.succ clock)))
        | none => .bad "mapPut find")
      | _ => .bad "mapPut blk") (.bad "mapPut key")
  | _, _ => .bad "mapPut"
def mapEnt (E : EE) (P : Program) (s : St) (t : TypeId) (m k : SV) : R :=
  match P.underlying t, m with
  | some (.map kt e), .mp b => cond (keyOk E P s.h kt k) (match s.h.get b with
      | .map es clock => (match keyFind (eqT E P s.h 3 kt) k es 0 with
        | some (some (_, v, born, k')) => cond (sameKey k' k) (.v (.tup [v, .int .i64 (.ofNat born)]) (s.put b (.map es clock))) (.bad "mapEnt key stays")
        | some none => (match zeroS P e with | .bad => .bad "mapEnt zero" | z => .v (.tup [z, .int .i64 (.ofNat clock)]) (s.put b (.map (es ++ [(k, z, clock)]) (Nat.succ clock))))
        | none => .bad "mapEnt find")
      | _ => .bad "mapEnt blk") (.bad "mapEnt key")
  | _, _ => .bad "mapEnt"
def setBorn (n : Nat) (v : SV) : List (SV × SV × Nat) → Option (List (SV × SV × Nat))
  | [] => none
  | (k, w, b) :: es => cond (Nat.beq b n) (some ((k, v, b) :: es)) (match setBorn n v es with | some l => some ((k, w, b) :: l) | none => none)
def entSt (s : St) (m st v : SV) : R :=
  match m, asN st with
  | .mp b, some n => (match s.h.get b with
    | .map es clock => (match setBorn n v es with | some es => .skip (s.put b (.map es clock)) | none => .bad "entSt")
    | _ => .bad "entSt blk")
  | _, _ => .bad "entSt"

/-! ## strings by characters -/
def nextS (s : St) (b : Nat) : R := match s.h.get b with
  | .siter len n pos => cond (Nat.ble (Nat.succ pos) len)
      (match decS len n pos with | (c, w) => .v (.tup [.bool true, .int .i64 (.ofNat pos), .int .i32 (.ofNat c)]) (s.put b (.siter len n (Nat.add pos w)))) (.v (.tup [.bool false]) s)
  | _ => .bad "next blk"

/-! ## calls of builtins -/
def minG (mx : Bool) (k : IntKind) : List SV → Int → SV
  | [] => fun x => .int k x
  | y :: rest => fun x => (match y with
    | .int _ y => minG mx k rest (cond mx (cond (ltI x y) y x) (cond (ltI y x) y x))
    | _ => .bad)
def minS (mx : Bool) : List SV → SV
  | [] => .bad
  | x :: rest => (match x with | .int k x => minG mx k rest x | _ => .bad)

def capS (P : Program) (s : St) (t : TypeId) (x : SV) : R := match P.underlying t with
  | some (.slice _) => (match x with
    | .nils => .v (.int .i64 (.ofNat 0)) s
    | .slc _ _ _ c => .v (.int .i64 (.ofNat c)) s
    | .slo b o l z => .v (.capx b o l z) s
    | _ => .bad "cap")
  | _ => .bad "cap type"

def sliceDataS (s : St) : SV → R
  | .nils => .v .nilp s
  | .slc b off _ c => cond (Nat.ble 1 c) (.v (.ptr b off) s) (.bad "slice data")
  | .slo b off l _ => cond (Nat.ble 1 l) (.v (.ptr b off) s) (.bad "slice data")
  | _ => .bad "slice data"
def maxN (a b : Nat) : Nat := cond (Nat.ble a b) b a
/-- a block of which the bytes before a place have become a string's -/
def freezeB (u n : Nat) : SBlk → Option SBlk
  | .cells t cs => cond (Nat.beq t u) (some (.opn t cs cs.length n false)) none
  | .opn t cs ub fz false => cond (Nat.beq t u) (some (.opn t cs ub (maxN fz n) false)) none
  | _ => none
def elemS (P : Program) : List TypeId → Option TypeId
  | t :: _ => (match P.underlying t with | some (.pointer e) => (match size? P e with | some 1 => some e | _ => none) | _ => none)
  | [] => none
def stringN (P : Program) (s : St) (ts : List TypeId) (b off n : Nat) : R :=
  cond (Nat.ble 1073741824 n) (.bad "unsafe string") (match elemS P ts with
    | some e => (match freezeB e (Nat.add off n) (s.h.get b) with
      | some blk => (match strOf n (readN s b off n) with | .str l m => .v (.str l m) (s.put b blk) | _ => .bad "unsafe string bytes")
      | none => .bad "unsafe string block")
    | none => .bad "unsafe string type")
def stringS (P : Program) (s : St) (ts : List TypeId) : SV → SV → R
  | .nilp => fun | .int .i64 (.ofNat 0) => .v (.str 0 0) s | _ => .bad "unsafe string"
  | .ptr b off => fun
    | .int .i64 (.ofNat 0) => .v (.str 0 0) s
    | .int .i64 (.ofNat (n + 1)) => stringN P s ts b off (Nat.succ n)
    | _ => .bad "unsafe string"
  | _ => fun _ => .bad "unsafe string"
def builtinS : Builtin → Program → St → List TypeId → List SV → R
  | .len => fun P s ts args => (match ts, args with | t :: _, [x] => (match x with | .opq i => lenQ P t i s | x => rN (lenV P s t x) s "len") | _, _ => .bad "len args")
  | .cap => fun P s ts args => (match ts, args with | t :: _, [x] => capS P s t x | _, _ => .bad "cap args")
  | .append => fun P s ts args => (match ts, args with | t :: u :: _, [x, y] => appS P s t u x y | _, _ => .bad "append args")
  | .copy => fun P s ts args => (match ts, args with | t :: _, [x, y] => copyS P s t x y | _, _ => .bad "copy args")
  | .min => fun _ s _ args => rv (minS false args) s "min"
  | .max => fun _ s _ args => rv (minS true args) s "max"
  | .recover => fun _ s _ _ => .rcv s
  | .unsafeSliceData => fun _ s _ args => (match args with | [x] => sliceDataS s x | _ => .bad "slice data args")
  | .unsafeString => fun P s ts args => (match ts, args with | _ :: _, [x, y] => stringS P s ts x y | _, _ => .bad "unsafe string args")
  | .panic => fun _ s _ args => (match args with | [.ifc t v] => .pan (.ifc t v) s | _ => .bad "panic arg")
  | _ => fun _ _ _ _ => .bad "builtin"

def callS (s : St) (f : SV) (args : List SV) : R :=
  match f with
  | .fn (.func g) first cap => .call g (first ++ args ++ cap) s
  | .yld b => .rnd b args s
  | _ => .bad "call value"

/-! ## one operation -/
def exPick (c a b : Operand) (_ : Program) (env : En) (s : St) : R := match evO c env with
  | .bool t => rv (cond t (evO a env) (evO b env)) s "pick"
  | _ => .bad "pick c"
def exMove (x : Operand) (_ : Program) (env : En) (s : St) : R := rv (evO x env) s "move"
def evParts (parts : List (Nat × Operand)) (env : En) : List (Nat × SV) := parts.map fun p => (p.1, evO p.2 env)
def placeF (P : Program) (fs : Array Field) (i : Nat) : Option (Nat × Nat) := match fs[i]? with | some f => (match size? P f.type with | some n => some (f.offset, n) | none => none) | none => none
def aggOk (l : Option (List SV)) (s : St) (why : String) : R := match l with | some l => .v (.agg l) s | none => .bad why
def hasSize (P : Program) (f : Field) : Bool := match size? P f.type with | some _ => true | none => false
/-- the fields' sizes are known -/
def fldB (P : Program) (fs : Array Field) : Bool := fs.toList.all (hasSize P)
def exBuild (t : TypeId) (parts : Array (Nat × Operand)) (P : Program) (env : En) (s : St) : R := match P.underlying t, zeroCs P t with
  | some (.struct fs), some z => cond (fldB P fs) (aggOk (fillS (placeF P fs) (evParts parts.toList env) z) s "build struct") (.bad "build fields")
  | some (.array _ e), some z => (match size? P e with | some sz => aggOk (fillS (fun i => some (Nat.mul i sz, sz)) (evParts parts.toList env) z) s "build array" | none => .bad "build size")
  | _, _ => .bad "build"
/-- an allocation: the kind of the value, and the block; nothing of it hangs on the heap -/
inductive Mk where | ptr | slc (len cap : Nat) | mp
  deriving Inhabited
def valOf : Mk → Nat → SV
  | .ptr => fun i => .ptr i 0
  | .slc l c => fun i => .slc i 0 l c
  | .mp => fun i => .mp i
def mkAlloc (e : TypeId) (P : Program) (_ : En) : Option (Mk × SBlk) := match zeroCs P e with
  | some cs => some (.ptr, .cells e cs)
  | none => none
def mkBox (e : TypeId) (x : Operand) (_ : Program) (env : En) : Option (Mk × SBlk) := match evO x env with
  | .bad => none
  | v => cond (allOne (cellsOf v)) (some (.ptr, .cells e (cellsOf v))) none
def mkBuildSlice (t : TypeId) (len : Nat) (parts : Array (Nat × Operand)) (P : Program) (env : En) : Option (Mk × SBlk) := match P.underlying t with
  | some (.slice e) => (match size? P e, zeroCs P e with
    | some (sz + 1), some z => cond (Nat.ble (Nat.mul len (Nat.succ sz)) 1048576 && Nat.beq z.length (Nat.succ sz)) (match fillS (fun i => some (Nat.mul i (Nat.succ sz), Nat.succ sz)) (evParts parts.toList env) (repl z len) with
      | some cs => some (.slc len len, .cells e cs)
      | none => none) none
    | _, _ => none)
  | _ => none
def mkMap (_ : TypeId) (r : Option Operand) (_ : Program) (_ : En) : Option (Mk × SBlk) := match r with
  | none => some (.mp, .map [] 0)
  | some _ => none
def mkMakeSlice (t : TypeId) (l c : Operand) (P : Program) (env : En) : Option (Mk × SBlk) := match P.underlying t with
  | some (.slice e) => (match P.info? e, zeroCs P e, asN (evO l env), asN (evO c env) with
    | some i, some z, some len, some cap => cond (Nat.ble len cap && small cap i.bytes && Nat.beq z.length i.size && Nat.ble 1 i.size) (some (.slc len cap, .cells e (repl z cap))) none
    | _, _, _, _ => none)
  | _ => none
def mkNo (_ : Program) (_ : En) : Option (Mk × SBlk) := none
def mkA : Op → Program → En → Option (Mk × SBlk)
  | .alloc e => mkAlloc e
  | .box e x => mkBox e x
  | .buildSlice t n ps => mkBuildSlice t n ps
  | .makeMap t r => mkMap t r
  | .makeSlice t l c => mkMakeSlice t l c
  | _ => mkNo
def newR (m : Option (Mk × SBlk)) (s : St) : R := match m with
  | some (mk, blk) => .v (valOf mk s.nx) (s.new blk)
  | none => .bad "alloc"
def exNew (op : Op) (P : Program) (env : En) (s : St) : R := newR (mkA op P env) s
def exLoad (t : TypeId) (a : Operand) (P : Program) (env : En) (s : St) : R := rv (loadS P s t (evO a env)) s "load"
def exStore (t : TypeId) (a x : Operand) (P : Program) (env : En) (s : St) : R := match evO a env, size? P t with
  | .ptr b off, some n => cond (Nat.beq (cellsOf (evO x env)).length n) (match writeN s b off (cellsOf (evO x env)) with | some s => .skip s | none => .bad "store") (.bad "store size")
  | _, _ => .bad "store addr"
def exNil (x : Operand) (_ : Program) (env : En) (s : St) : R := match evO x env with
  | .ptr b off => .v (.ptr b off) s
  | .fn (.func f) a b => .v (.fn (.func f) a b) s
  | .ifc t v => .v (.ifc t v) s
  | _ => .bad "nilCheck"
/-- a > cap(x) of an open slice: its capacity is not known -/
def forkGt (a : Int) (b off len sz : Nat) (s : St) : R := match a with
  | .negSucc _ => .v (.bool false) s
  | .ofNat n => cond (Nat.ble n len) (.v (.bool false) s) (match s.h.get b with
    | .opn ty cs ub fz st => cond (Nat.ble n 1048576 && Nat.ble 1 sz) (.fork (.bool true) (s.put b (.opn ty cs (minN ub (Nat.add off (Nat.mul (Nat.pred n) sz))) fz st)) (.bool false) (s.put b (.opn ty (cs ++ List.replicate (Nat.sub (Nat.add off (Nat.mul n sz)) cs.length) .junk) ub fz st))) (.bad "fork long")
    | _ => .bad "fork blk")
def exBin (E : EE) (op : BinOp) (t : TypeId) (x y : Operand) (_ : TypeId) (P : Program) (env : En) (s : St) : R := match evO y env with
  | .capx b off len sz => (match op, evO x env with | .gtr, .int .i64 a => forkGt a b off len sz s | _, _ => .bad "cap op")
  | v => rv (binV E P s.h t x y op (evO x env) v) s "binop"
def exUn (op : UnOp) (_ : TypeId) (x : Operand) (_ : Program) (env : En) (s : St) : R := rv (unV op (evO x env)) s "unop"
def exConv (E : EE) (src dst : TypeId) (x : Operand) (P : Program) (env : En) (s : St) : R := convS E P s src dst (evO x env)
def exIface (t : TypeId) (x : Operand) (P : Program) (env : En) (s : St) : R := match P.underlying t with
  | some (.interface _) => .bad "iface of iface"
  | some _ => (match evO x env with | .bad => .bad "iface x" | v => .v (.ifc t v) s)
  | none => .bad "iface type"
def exFunc (f : Fn) (first cap : Array Operand) (_ : Program) (env : En) (s : St) : R :=
  cond (anyBad (evOs first.toList env) || anyBad (evOs cap.toList env)) (.bad "makeFunc") (.v (.fn f (evOs first.toList env) (evOs cap.toList env)) s)
def exSlice (E : EE) (t : TypeId) (x : Operand) (lo hi mx : Option Operand) (P : Program) (env : En) (s : St) : R := match hi, mx with
  | none, some _ => .bad "slice3 high"
  | _, _ => rv (sliceS E P env s t (evO x env) lo hi mx) s "slice"
def exFieldAddr (t : TypeId) (x : Operand) (f : Nat) (P : Program) (env : En) (s : St) : R := match P.underlying t with
  | some (.struct fs) => (match placeF P fs f, evO x env with
    | some (o, _ + 1), .ptr b off => .v (.ptr b (Nat.add off o)) s
    | _, _ => .bad "fieldAddr")
  | _ => .bad "fieldAddr type"
def exField (t : TypeId) (x : Operand) (f : Nat) (P : Program) (env : En) (s : St) : R := match P.underlying t, evO x env with
  | some (.struct fs), .agg cs => (match fs[f]? with | some fd => rv (partV P fd.type cs fd.offset) s "field" | none => .bad "field none")
  | _, _ => .bad "field"
def ixAt (P : Program) (e : TypeId) (s : St) (b off len : Nat) (i : Option Nat) : R := match size? P e, i with
  | some sz, some i => cond (Nat.ble (Nat.succ i) len) (.v (.ptr b (Nat.add off (Nat.mul i sz))) s) (.bad "indexAddr bounds")
  | _, _ => .bad "indexAddr ops"
def exIndexAddr (t : TypeId) (x i : Operand) (P : Program) (env : En) (s : St) : R := match P.underlying t with
  | some (.array n e) => (match evO x env with | .ptr b off => ixAt P e s b off n (asN (evO i env)) | _ => .bad "indexAddr arr")
  | some (.slice e) => (match atS (evO x env) with | some (b, off, len) => ixAt P e s b off len (asN (evO i env)) | none => .bad "indexAddr sl")
  | _ => .bad "indexAddr"
def exIndex (t : TypeId) (x i : Operand) (P : Program) (env : En) (s : St) : R := match P.underlying t, asN (evO i env) with
  | some .string, some i => (match evO x env with | .str len n => cond (Nat.ble (Nat.succ i) len) (.v (.int .u8 (.ofNat (strAt n i))) s) (.bad "index bounds") | _ => .bad "index str")
  | some (.array len e), some i => (match evO x env, size? P e with | .agg cs, some n => cond (Nat.ble (Nat.succ i) len) (rv (partV P e cs (Nat.mul i n)) s "index arr") (.bad "index bounds") | _, _ => .bad "index arr")
  | _, _ => .bad "index"
def exLookup (E : EE) (t : TypeId) (x k : Operand) (ok : Bool) (P : Program) (env : En) (s : St) : R := rv (lookV E P s t (evO x env) (evO k env) ok) s "lookup"
def exMapUpdate (E : EE) (t : TypeId) (m k v : Operand) (P : Program) (env : En) (s : St) : R := match evO v env with | .bad => .bad "mapUpdate v" | v => mapPut E P s t (evO m env) (evO k env) v
def exMapEntry (E : EE) (t : TypeId) (m k : Operand) (P : Program) (env : En) (s : St) : R := mapEnt E P s t (evO m env) (evO k env)
def exEntryStore (_ : TypeId) (m st v : Operand) (_ : Program) (env : En) (s : St) : R := match evO v env with | .bad => .bad "entryStore v" | v => entSt s (evO m env) (evO st env) v
def exRange (t : TypeId) (x : Operand) (P : Program) (env : En) (s : St) : R := match P.underlying t, evO x env with
  | some .string, .str len n => .v (.ptr s.nx 0) (s.new (.siter len n 0))
  | _, _ => .bad "range map"
def exNext (it : Operand) (isStr : Bool) (_ : Program) (env : En) (s : St) : R := match evO it env, isStr with
  | .ptr b 0, true => nextS s b
  | _, _ => .bad "next"
def exAssert (x : Operand) (_ asserted : TypeId) (ok : Bool) (P : Program) (env : En) (s : St) : R := match P.underlying asserted with
  | some (.interface _) => .bad "typeAssert iface"
  | some _ => (match evO x env with
    | .ifc t v => cond (Nat.beq t asserted) (cond ok (.v (.tup [v, .bool true]) s) (.v v s)) (cond ok (match zeroS P asserted with | .bad => .bad "typeAssert zero" | z => .v (.tup [z, .bool false]) s) (.bad "typeAssert fails"))
    | .nili => cond ok (match zeroS P asserted with | .bad => .bad "typeAssert zero" | z => .v (.tup [z, .bool false]) s) (.bad "typeAssert nil")
    | _ => .bad "typeAssert x")
  | none => .bad "typeAssert"
def nthV : Nat → List SV → SV
  | 0 => fun | [] => .bad | x :: _ => x
  | n + 1 => fun | [] => .bad | _ :: l => nthV n l
def exExtract (t : Operand) (i : Nat) (_ : Program) (env : En) (s : St) : R := match evO t env with
  | .tup vs => rv (nthV i vs) s "extract"
  | _ => .bad "extract"
def exPanic (x : Operand) (_ : Program) (env : En) (s : St) : R := match evO x env with
  | .ifc t v => .pan (.ifc t v) s
  | _ => .bad "panic x"
def callWith (args : List SV) (c : Call) (P : Program) (env : En) (s : St) : R := match c.callee with
  | .builtin b => builtinS b P s c.argTypes.toList args
  | .value f => callS s (evO f env) args
  | .invoke _ m => .bad ("invoke " ++ m)
def exCall (c : Call) (P : Program) (env : En) (s : St) : R := match evOs c.args.toList env with
  | args => cond (anyBad args) (.bad "call args") (callWith args c P env s)
def dfrOf : R → R
  | .call f args s => .dfr f args s
  | _ => .bad "defer"
def exDefer (c : Call) (_ : Program) (env : En) (s : St) : R := match c.callee with
  | .value f => (match evOs c.args.toList env with | args => cond (anyBad args) (.bad "defer args") (dfrOf (callS s (evO f env) args)))
  | _ => .bad "defer callee"
def exNo (_ : Program) (_ : En) (_ : St) : R := .bad "op"

def exec (E : EE) : Op → Program → En → St → R
  | .move x => exMove x
  | .assign x => exMove x
  | .pick c a b => exPick c a b
  | .alloc e => exNew (.alloc e)
  | .box e x => exNew (.box e x)
  | .build t ps => exBuild t ps
  | .buildSlice t n ps => exNew (.buildSlice t n ps)
  | .load t a => exLoad t a
  | .store t a x => exStore t a x
  | .nilCheck x => exNil x
  | .binOp op t x y u => exBin E op t x y u
  | .unOp op t x => exUn op t x
  | .convert a b x => exConv E a b x
  | .makeInterface t x => exIface t x
  | .makeFunc f a b => exFunc f a b
  | .makeMap t r => exNew (.makeMap t r)
  | .makeSlice t l c => exNew (.makeSlice t l c)
  | .slice t x l h m => exSlice E t x l h m
  | .fieldAddr t x f => exFieldAddr t x f
  | .field t x f => exField t x f
  | .indexAddr t x i => exIndexAddr t x i
  | .index t x i => exIndex t x i
  | .lookup t x k ok => exLookup E t x k ok
  | .mapUpdate t m k v => exMapUpdate E t m k v
  | .insert t m k v => exMapUpdate E t m k v
  | .mapEntry t m k => exMapEntry E t m k
  | .entryStore t m st v => exEntryStore t m st v
  | .range t x => exRange t x
  | .next it b => exNext it b
  | .typeAssert x t u ok => exAssert x t u ok
  | .extract t i => exExtract t i
  | .panic x => exPanic x
  | .call c => exCall c
  | .defer c => exDefer c
  | _ => exNo

/-! ## regions, in the continuation's style -/
/-- what waits for the end of a call: a deferred call; a block of rounds' deferred calls -/
inductive Df where
  | fn (f : FuncId) (args : List SV)
  | mark (b : Nat)
structure Fr where
  env : En
  ds : List Df
  deriving Inhabited
def putD (env : En) : Option Tmp → SV → En
  | none => fun _ => env
  | some t => fun v => env.set t v
def Fr.put (fr : Fr) (dst : Option Tmp) (v : SV) : Fr := ⟨putD fr.env dst v, fr.ds⟩

inductive Ex where | exit (id : Nat) | ret | panic (v : SV)
  deriving Inhabited

abbrev KV := SV → St → Bool
abbrev KN := Fr → St → Bool
abbrev KX := Ex → Fr → St → Bool
structure CallF where
  f : FuncId → List SV → St → KV → KV → Bool
  r : Nat → List SV → St → KV → KV → Bool

def failB (_why : String) : Bool := false

def isBool (want : Bool) : SV → Option Bool
  | .bool b => some (eqB b want)
  | .bad => none
  | .junk => none
  | .capx .. => none
  | _ => some false
def dstOf (ops : Array Oper) (j : Nat) : Option Tmp := match ops[j]? with | some o => o.dst | none => none
def wantedS (g : Option (Nat × Bool)) (ops : Array Oper) (env : En) : Option Bool :=
  match g with
  | none => some true
  | some (j, want) => (match dstOf ops j with | some t => isBool want (env.get t) | none => none)

/-- what is done with an operation's outcome: go on with the frame, or leave -/
def outR (callF : CallF) (dst : Option Tmp) (pos : String) (r : R) (fr : Fr) (kN : KN) (kX : KX) : Bool :=
  match r with
  | .v x s => kN (fr.put dst x) s
  | .skip s => kN (fr.put dst (.tup [])) s
  | .call f args s => callF.f f args s (fun v s => kN (fr.put dst v) s) (fun v s => kX (.panic v) fr s)
  | .rnd b args s => callF.r b args s (fun v s => kN (fr.put dst v) s) (fun v s => kX (.panic v) fr s)
  | .dfr f args s => kN (Fr.put ⟨fr.env, .fn f args :: fr.ds⟩ dst (.tup [])) s
  | .pan v s => kX (.panic v) fr s
  | .fork x s y t => cond (kN (fr.put dst x) s) (kN (fr.put dst y) t) false
  | .rcv _ => failB ("recover here " ++ pos)
  | .bad w => failB (w ++ " @" ++ pos)

def evOps (E : EE) (P : Program) (callF : CallF) (ops : Array Oper) : List Oper → Fr → St → KN → KX → Bool
  | [] => fun fr s kN _ => kN fr s
  | o :: os => fun fr s kN kX =>
    (match wantedS o.guard ops fr.env with
    | some true => outR callF o.dst o.pos (exec E o.op P fr.env s) fr (fun fr s => evOps E P callF ops os fr s kN kX) kX
    | some false => evOps E P callF ops os (fr.put o.dst (.tup [])) s kN kX
    | none => failB ("guard @" ++ o.pos))

/-! ## a region that draws its order -/
/-- 0: may be done anywhere as long as it gives the same · 1: makes a block · 2: acts · 3: fills a map that is being made -/
def kindOp : Op → Nat
  | .alloc _ => 1 | .box .. => 1 | .buildSlice .. => 1 | .makeMap .. => 1 | .makeSlice .. => 1
  | .insert .. => 3 | .store .. => 2 | .mapUpdate .. => 2 | .mapEntry .. => 2 | .entryStore .. => 2 | .range .. => 2 | .next .. => 2 | .panic _ => 2 | .defer _ => 2
  | .call { callee := .builtin .len, .. } => 0
  | .call { callee := .builtin .cap, .. } => 0
  | .call { callee := .builtin .min, .. } => 0
  | .call { callee := .builtin .max, .. } => 0
  | .call _ => 2
  | _ => 0
structure Row where
  i : Nat
  o : Oper
  before : Nat
  kind : Nat
def maskOf (l : List Nat) (es : List Edge) : Nat := es.foldl (fun m e => cond (Region.binds .any e) (m ||| 2 ^ e.on ||| l.getD e.on 0) m) 0
def befores : List Oper → List Nat → List Nat
  | [], l => l
  | o :: os, l => befores os (l ++ [maskOf l o.after.toList])
def rowsFrom : Nat → List Oper → List Nat → List Row
  | i, o :: os, b :: bs => ⟨i, o, b, kindOp o.op⟩ :: rowsFrom (i + 1) os bs
  | _, _, _ => []
def rowsOf (ops : Array Oper) : List Row := rowsFrom 0 ops.toList (befores ops.toList [])
def isAct (r : Row) : Bool := Nat.beq r.kind 2
def dstNe : Option Tmp → Option Tmp → Bool
  | some x => fun | some y => !(Nat.beq x y) | none => true
  | none => fun _ => true
def notRead (ops : Array Oper) (d : Option Tmp) (o : Oper) : Bool := match d with
  | some d => !((o.looksAt ops).contains d)
  | none => true
/-- two rows: what is before is before by all edges, each writes a slot of its own, and what one reads of the other is ordered -/
def pairOk (ops : Array Oper) (q r : Row) : Bool :=
  cond (r.before.testBit q.i) (Nat.ble (Nat.succ q.i) r.i && Nat.beq (q.before ||| r.before) r.before) true &&
  cond (Nat.beq q.i r.i) true (dstNe q.o.dst r.o.dst && cond (r.before.testBit q.i || q.before.testBit r.i) true (notRead ops q.o.dst r.o))
def edgesOk (rows : List Row) (r : Row) : Bool := (r.o.after.toList.all fun e => cond (Region.binds .any e) (Nat.ble (Nat.succ e.on) r.i) true) && Nat.beq (maskOf (rows.map (·.before)) r.o.after.toList) r.before
def rowOk (ops : Array Oper) (rows : List Row) (r : Row) : Bool := edgesOk rows r && rows.all fun q => pairOk ops q r
/-- the stage of a row: how many of the acts must be done ahead of it -/
def levelOf (before : Nat) : List Row → Nat → Nat → Nat     -- acts, how many so far, the level so far
  | [], _, acc => acc
  | e :: es, n, acc => levelOf before es (n + 1) (cond (before.testBit e.i) (n + 1) acc)
def stageOf (acts rows : List Row) (n : Nat) : List Row := rows.filter fun r => !(isAct r) && Nat.beq (levelOf r.before acts 0 0) n
abbrev Sched := List (Row × List Row)
def stagesFrom (acts rows : List Row) : List Row → Nat → Sched
  | [], _ => []
  | e :: es, n => (e, stageOf acts rows n) :: stagesFrom acts rows es (n + 1)
def sched (rows : List Row) : List Row × Sched := match rows.filter isAct with | acts => (stageOf acts rows 0, stagesFrom acts rows acts 1)
/-- the rows of a stage, one after the other: which are done then; prev: the act ahead of the stage -/
def stageOk (prev : Nat) : List Row → Nat → Option Nat
  | [] => fun d => some d
  | r :: rs => fun d => cond (!(isAct r) && !(d.testBit r.i) && Nat.beq (r.before ||| d) d && Nat.beq (prev ||| r.before) r.before) (stageOk prev rs (d ||| 2 ^ r.i)) none
def laterOk (e : Row) (more : Sched) : Bool := more.all fun q => q.1.before.testBit e.i
def schedOk (full : Nat) : Sched → Nat → Bool
  | [] => fun d => Nat.beq d full
  | (e, st) :: more => fun d => cond (!(d.testBit e.i) && Nat.beq (e.before ||| d) d && laterOk e more) (match stageOk (2 ^ e.i) st (d ||| 2 ^ e.i) with
    | some d => schedOk full more d
    | none => false) false
def drawOk (ops : Array Oper) (rows : List Row) (sc : List Row × Sched) : Bool :=
  rows.all (rowOk ops rows) && (match stageOk 0 sc.1 0 with | some d => schedOk (2 ^ rows.length - 1) sc.2 d | none => false)

/-- are two values surely the same? (conservative) -/
def sameF : Nat → SV → SV → Bool
  | 0 => fun _ _ => false
  | f + 1 => fun x y => (match x, y with
    | .bool a, .bool b => eqB a b
    | .int k a, .int k' b => eqK k k' && eqI a b
    | .str la na, .str lb nb => eqStr la na lb nb
    | .ptr b o, .ptr b' o' => Nat.beq b b' && Nat.beq o o'
    | .nilp, .nilp => true | .nils, .nils => true | .emp, .emp => true | .capx b o l c, .capx b' o' l' c' => Nat.beq b b' && Nat.beq o o' && Nat.beq l l' && Nat.beq c c' | .flt j a, .flt k b => (match j, k with | .f64, .f64 => Nat.beq a b | .f32, .f32 => Nat.beq a b | _, _ => false) | .nilm, .nilm => true | .nilf, .nilf => true | .nili, .nili => true
    | .slc b o l c, .slc b' o' l' c' => Nat.beq b b' && Nat.beq o o' && Nat.beq l l' && Nat.beq c c'
    | .slo b o l c, .slo b' o' l' c' => Nat.beq b b' && Nat.beq o o' && Nat.beq l l' && Nat.beq c c'
    | .mp b, .mp b' => Nat.beq b b'
    | .opq i, .opq j => Nat.beq i j
    | .yld b, .yld b' => Nat.beq b b'
    | .fn g a c, .fn g' a' c' => decide (g = g') && samesF f a a' && samesF f c c'
    | .ifc t v, .ifc t' v' => Nat.beq t t' && sameF f v v'
    | .agg a, .agg b => samesF f a b
    | .tup a, .tup b => samesF f a b
    | _, _ => false)
  where samesF : Nat → List SV → List SV → Bool
  | 0 => fun _ _ => false
  | f + 1 => fun a b => (match a, b with
    | [], [] => true
    | x :: xs, y :: ys => sameF f x y && samesF f xs ys
    | _, _ => false)
/-- what has been done that may be done later: an operation, its frame, its value -/
structure Pend where
  i : Nat
  op : Op
  env : En
  v : SV
def again (E : EE) (P : Program) (p : Pend) (s : St) : Bool := match exec E p.op P p.env s with | .v x s' => cond (Nat.beq s'.nx s.nx) (sameF 1000 x p.v) false | _ => false
def pendOk (E : EE) (P : Program) (s : St) : List Pend → Bool
  | [] => true
  | p :: ps => cond (again E P p s) (pendOk E P s ps) (failB "pend")
def stillPend (before : Nat) (ps : List Pend) : List Pend := ps.filter fun p => !(before.testBit p.i)
abbrev KS := Fr → St → List Pend → Bool
/-- the rows of a stage: none acts -/
def evStage (E : EE) (P : Program) (ops : Array Oper) : List Row → Fr → St → List Pend → KS → Bool
  | [] => fun fr s ps k => cond (pendOk E P s ps) (k fr s ps) (failB "draw pend")
  | r :: rs => fun fr s ps k => (match wantedS r.o.guard ops fr.env with
    | some true => (match exec E r.o.op P fr.env s with
      | .v x s' => cond (Nat.beq r.kind 1) (evStage E P ops rs (fr.put r.o.dst x) s' ps k) (cond (Nat.beq s'.nx s.nx) (evStage E P ops rs (fr.put r.o.dst x) s (⟨r.i, r.o.op, fr.env, x⟩ :: ps) k) (failB ("draw makes @" ++ r.o.pos)))
      | .bad w => failB (w ++ " @" ++ r.o.pos)
      | _ => failB ("draw op @" ++ r.o.pos))
    | some false => evStage E P ops rs (fr.put r.o.dst (.tup [])) s ps k
    | none => failB ("guard @" ++ r.o.pos))
def noFork : R → Bool
  | .fork .. => false
  | _ => true
def evDraw (E : EE) (P : Program) (callF : CallF) (ops : Array Oper) : Sched → Fr → St → List Pend → KN → KX → Bool
  | [] => fun fr s _ kN _ => kN fr s
  | (e, st) :: more => fun fr s ps kN kX =>
    (match wantedS e.o.guard ops fr.env with
    | some true => (match exec E e.o.op P fr.env s with
      | r => cond (noFork r) (outR callF e.o.dst e.o.pos r fr (fun fr s => evStage E P ops st fr s (stillPend e.before ps) (fun fr s ps => evDraw E P callF ops more fr s ps kN kX)) kX) (failB "draw fork"))
    | some false => evStage E P ops st (fr.put e.o.dst (.tup [])) s (stillPend e.before ps) (fun fr s ps => evDraw E P callF ops more fr s ps kN kX)
    | none => failB ("guard @" ++ e.o.pos))
def wipe (env : En) : List Row → En
  | [] => env
  | r :: rs => (match r.o.dst with | some d => wipe (env.set d .bad) rs | none => wipe env rs)

/-! ### a region that makes maps and fills them in an open order: until all is in, it makes calls that write nothing older -/
def St.withH (s : St) (h : Hp) : St := ⟨h, s.nx, s.lo⟩
def isIns (r : Row) : Bool := Nat.beq r.kind 3
def insOf : List Row → Nat
  | [] => 0
  | r :: rs => cond (isIns r) (insOf rs ||| 2 ^ r.i) (insOf rs)
def isMk : Op → Bool
  | .makeMap _ none => true
  | _ => false
def isTmp (t : Tmp) : Option Tmp → Bool
  | some d => Nat.beq d t
  | none => false
/-- does a row that is before make the map of a slot? -/
def madeBefore (rows : List Row) (t : Tmp) (before : Nat) : Bool := rows.any fun q => isMk q.o.op && isTmp t q.o.dst && before.testBit q.i
def notKey (l n : Nat) (es : List (Nat × Nat × Nat × SV)) : Bool := es.all fun x => !(eqStr l n x.2.1 x.2.2.1)
def strT (P : Program) (t : TypeId) : Bool := match P.underlying t with
  | some (.map kt _) => (match P.underlying kt with | some .string => true | _ => false)
  | _ => false
def memN (b : Nat) (l : List Nat) : Bool := l.any (Nat.beq b)
def planIns (P : Program) (rows : List Row) (nx0 : Nat) (r : Row) (env : En) (s : St) (ms : List Nat) : Option (St × List Nat) := match r.o.op with
  | .insert t (.tmp tm) k v => cond (strT P t && madeBefore rows tm r.before && !(isBad (evO v env)) && r.o.guard.isNone) (match env.get tm, evO k env with
      | .mp b, .str l n => (match s.h.get b with
        | .map es _ => cond (es.isEmpty && Nat.ble nx0 b && Nat.ble (Nat.succ b) s.nx && !(memN b ms)) (some (s.withH (s.h.set b (.mapp [(r.i, l, n, evO v env)])), b :: ms)) none
        | .mapp es => cond (memN b ms && notKey l n es) (some (s.withH (s.h.set b (.mapp ((r.i, l, n, evO v env) :: es))), ms)) none
        | _ => none)
      | _, _ => none) none
  | _ => none
abbrev KQ := Fr → St → List Pend → List Nat → Bool
def evStageQ (E : EE) (P : Program) (ops : Array Oper) (rows : List Row) (nx0 : Nat) : List Row → Fr → St → List Pend → List Nat → KQ → Bool
  | [] => fun fr s ps ms k => cond (pendOk E P s ps) (k fr s ps ms) (failB "draw pend")
  | r :: rs => fun fr s ps ms k => (match wantedS r.o.guard ops fr.env with
    | some true => cond (isIns r) (match planIns P rows nx0 r fr.env s ms with
        | some (s', ms') => evStageQ E P ops rows nx0 rs (fr.put r.o.dst (.tup [])) s' ps ms' k
        | none => failB ("insert @" ++ r.o.pos)) (match exec E r.o.op P fr.env s with
      | .v x s' => cond (Nat.beq r.kind 1) (evStageQ E P ops rows nx0 rs (fr.put r.o.dst x) s' ps ms k) (cond (Nat.beq s'.nx s.nx) (evStageQ E P ops rows nx0 rs (fr.put r.o.dst x) s (⟨r.i, r.o.op, fr.env, x⟩ :: ps) ms k) (failB ("draw makes @" ++ r.o.pos)))
      | .bad w => failB (w ++ " @" ++ r.o.pos)
      | _ => failB ("draw op @" ++ r.o.pos))
    | some false => evStageQ E P ops rows nx0 rs (fr.put r.o.dst (.tup [])) s ps ms k
    | none => failB ("guard @" ++ r.o.pos))
def Hp.map (f : SBlk → SBlk) : Hp → Hp
  | .e => .e
  | .n l v r => .n (Hp.map f l) (f v) (Hp.map f r)
/-- a block, to be read only -/
def roB : SBlk → SBlk
  | .cells t cs => .ro t cs
  | .opn t cs _ _ _ => .ro t cs
  | .ro t cs => .ro t cs
  | .mapx es => .mapx es
  | _ => .none
def roAll (s : St) : St := ⟨s.h.map roB, s.nx, big⟩
def keepB : SBlk → SBlk
  | .cells t cs => .cells t cs
  | .opn t cs ub fz st => .opn t cs ub fz st
  | .map es c => .map es c
  | _ => .none
def addNew (h' : Hp) (a : Nat) : Nat → Hp → Hp
  | 0 => fun h => h
  | k + 1 => fun h => addNew h' a k (h.set (Nat.add a k) (keepB (h'.get (Nat.add a k))))
/-- what is new of a state, beside what was there -/
def mergeNew (s s' : St) : St := ⟨addNew s'.h s.nx (Nat.sub s'.nx s.nx) s.h, s'.nx, s.lo⟩
def sealB : SBlk → SBlk
  | .mapp es => .mapx (es.map fun x => (x.2.1, x.2.2.1, x.2.2.2))
  | b => b
def sealAll : List Nat → St → St
  | [] => fun s => s
  | b :: bs => fun s => sealAll bs (s.withH (s.h.set b (sealB (s.h.get b))))
def evDrawQ (E : EE) (P : Program) (callF : CallF) (ops : Array Oper) (rows : List Row) (ins nx0 : Nat) : Sched → Fr → St → List Pend → List Nat → KN → KX → Bool
  | [] => fun fr s _ ms kN _ => kN fr (sealAll ms s)
  | (e, st) :: more => fun fr s ps ms kN kX =>
    cond (Nat.beq (ins ||| e.before) e.before) (cond (pendOk E P (sealAll ms s) ps) (evDraw E P callF ops ((e, st) :: more) fr (sealAll ms s) ps kN kX) (failB "draw pend"))
      (match wantedS e.o.guard ops fr.env with
      | some true => (match exec E e.o.op P fr.env s with
        | .call f args _ => callF.f f args (roAll s) (fun v s' => evStageQ E P ops rows nx0 st (fr.put e.o.dst v) (mergeNew s s') (stillPend e.before ps) ms (fun fr s ps ms => evDrawQ E P callF ops rows ins nx0 more fr s ps ms kN kX)) (fun _ _ => failB "panic in a literal")
        | _ => failB ("draw quiet @" ++ e.o.pos))
      | _ => failB ("guard @" ++ e.o.pos))

def drawS (E : EE) (P : Program) (callF : CallF) (ops : Array Oper) (rows : List Row) (fr : Fr) (s : St) (kN : KN) (kX : KX) : Bool :=
  cond (drawOk ops rows (sched rows)) (cond (Nat.beq (insOf rows) 0) (evStage E P ops (sched rows).1 fr s [] (fun fr1 s ps => evDraw E P callF ops (sched rows).2 fr1 s ps kN (fun x fr' s => kX x ⟨wipe fr.env rows, fr'.ds⟩ s)))
    (evStageQ E P ops rows s.nx (sched rows).1 fr s [] [] (fun fr1 s1 ps ms => evDrawQ E P callF ops rows (insOf rows) s.nx (sched rows).2 fr1 s1 ps ms kN (fun x fr' s => kX x ⟨wipe fr.env rows, fr'.ds⟩ s)))) (failB "draw form")

/-! ## code -/
abbrev IH := Code → Fr → St → KN → KX → Bool
def afterBlock (id : Nat) (kN : KN) (kX : KX) : KX := fun x fr s => match x with
  | .exit i => cond (Nat.beq i id) (kN fr s) (kX (.exit i) fr s)
  | x => kX x fr s
def cdSkip (_ : Program) (_ : IH) (_ : CallF) (fr : Fr) (s : St) (kN : KN) (_ : KX) : Bool := kN fr s
def cdRegion (E : EE) (ops : Array Oper) (draw : Bool) (P : Program) (_ : IH) (callF : CallF) (fr : Fr) (s : St) (kN : KN) (kX : KX) : Bool :=
  cond draw (drawS E P callF ops (rowsOf ops) fr s kN kX) (evOps E P callF ops ops.toList fr s kN kX)
def cdSeq (a b : Code) (_ : Program) (ih : IH) (_ : CallF) (fr : Fr) (s : St) (kN : KN) (kX : KX) : Bool := ih a fr s (fun fr s => ih b fr s kN kX) kX
def cdCond (c : Operand) (a b : Code) (_ : Program) (ih : IH) (_ : CallF) (fr : Fr) (s : St) (kN : KN) (kX : KX) : Bool := match evO c fr.env with
  | .bool t => ih (cond t a b) fr s kN kX
  | _ => failB "cond"
def cdBlock (id : Nat) (c : Code) (_ : Program) (ih : IH) (_ : CallF) (fr : Fr) (s : St) (kN : KN) (kX : KX) : Bool := ih c fr s kN (afterBlock id kN kX)
def cdLoop (c : Code) (_ : Program) (ih : IH) (_ : CallF) (fr : Fr) (s : St) (kN : KN) (kX : KX) : Bool := ih c fr s (fun fr s => ih (.loop c) fr s kN kX) kX
def cdExit (id : Nat) (_ : Program) (_ : IH) (_ : CallF) (fr : Fr) (s : St) (_ : KN) (kX : KX) : Bool := kX (.exit id) fr s
def cdRet (_ : Program) (_ : IH) (_ : CallF) (fr : Fr) (s : St) (_ : KN) (kX : KX) : Bool := kX .ret fr s
def cdScope (c : Code) (_ : Program) (ih : IH) (_ : CallF) (fr : Fr) (s : St) (kN : KN) (kX : KX) : Bool := ih c fr s kN kX
def cdNo (_ : Program) (_ : IH) (_ : CallF) (_ : Fr) (_ : St) (_ : KN) (_ : KX) : Bool := failB "code"
/-- the end of a range over a function: the pending jump is what comes next -/
def endLoopS (b : Nat) (fr : Fr) (s : St) (kN : KN) (kX : KX) : Bool := match s.h.get b with
  | .lp _ _ _ _ _ st pend _ => cond (Nat.beq st 1) (failB "loop busy") (match pend with
    | none => kN fr (s.put b .none)
    | some .ret => kX .ret fr (s.put b .none)
    | some (.exit i) => kX (.exit i) fr (s.put b .none)
    | some _ => failB "loop jump")
  | _ => failB "loop record"
/-- has a function a body that a call enters? -/
def entersB (P : Program) (f : FuncId) : Bool := match P.funcs[f]? with | some fn => (match fn.body with | some _ => !(fn.name == "runtime.NumGoroutine") | none => false) | none => false
/-- a range over a function; rd: the loop in whose round this stands -/
def cdRange (rd : Option Nat) (n : Nat) (g : Operand) (ps : Array Tmp) (assign body : Code) (P : Program) (_ : IH) (callF : CallF) (fr : Fr) (s : St) (kX : KX) (kN : KN) : Bool :=
  match evO g fr.env with
  | .fn (.func f) first cap => cond (entersB P f) (match rd with
    | none => callF.f f (first ++ [.yld (Nat.succ s.nx)] ++ cap) ((s.new .dm).new (.lp n fr.env ps assign body 0 none s.nx)) (fun _ s' => endLoopS (Nat.succ s.nx) ⟨fr.env, .mark s.nx :: fr.ds⟩ s' kN kX) (fun v s' => kX (.panic v) ⟨fr.env, .mark s.nx :: fr.ds⟩ s')
    | some l => (match s.h.get l with
      | .lp _ _ _ _ _ _ _ dm => callF.f f (first ++ [.yld s.nx] ++ cap) (s.new (.lp n fr.env ps assign body 0 none dm)) (fun _ s' => endLoopS s.nx fr s' kN kX) (fun v s' => kX (.panic v) fr s')
      | _ => failB "outer loop")) (failB "range enters")
  | _ => failB "range over"
def stepC (rd : Option Nat) (n : Nat) (E : EE) : Code → Program → IH → CallF → Fr → St → KN → KX → Bool
  | .skip => cdSkip
  | .label _ => cdSkip
  | .region _ ops draw => cdRegion E ops draw
  | .seq a b => cdSeq a b
  | .cond c a b => cdCond c a b
  | .block id c => cdBlock id c
  | .loop c => cdLoop c
  | .exit id => cdExit id
  | .ret => cdRet
  | .scope c => cdScope c
  | .rangeFunc g ps assign body => fun P ih callF fr s kN kX => cdRange rd n g ps assign body P ih callF fr s kX kN
  | _ => cdNo

/-! ## a deferred function's code -/
def hasRec (ops : Array Oper) : Bool := ops.toList.any fun o => match o.op with | .call { callee := .builtin .recover, .. } => true | _ => false
abbrev KD := Fr → (SV × Bool) → St → Bool     -- the panic's value (.nili: none), and whether it was recovered
abbrev KDX := Ex → Fr → (SV × Bool) → St → Bool
def isNili : SV → Bool
  | .nili => true
  | _ => false
def evOpsD (E : EE) (P : Program) (callF : CallF) (ops : Array Oper) : List Oper → Fr → (SV × Bool) → St → KD → KDX → Bool
  | [] => fun fr u s kN _ => kN fr u s
  | o :: os => fun fr u s kN kX =>
    (match wantedS o.guard ops fr.env with
    | some true => (match exec E o.op P fr.env s with
      | .rcv s => cond (isNili u.1 || u.2) (evOpsD E P callF ops os (fr.put o.dst .nili) u s kN kX) (evOpsD E P callF ops os (fr.put o.dst u.1) (u.1, true) s kN kX)
      | .dfr .. => failB "defer in a deferred"
      | .rnd .. => failB "round in a deferred"
      | r => outR callF o.dst o.pos r fr (fun fr s => evOpsD E P callF ops os fr u s kN kX) (fun x fr s => kX x fr u s))
    | some false => evOpsD E P callF ops os (fr.put o.dst (.tup [])) u s kN kX
    | none => failB ("guard @" ++ o.pos))
def evD (E : EE) (P : Program) (ih : IH) (callF : CallF) : Code → Fr → (SV × Bool) → St → KD → KDX → Bool
  | .seq a b => fun fr u s kN kX => evD E P ih callF a fr u s (fun fr u s => evD E P ih callF b fr u s kN kX) kX
  | .region id ops draw => fun fr u s kN kX => cond (hasRec ops && !draw) (evOpsD E P callF ops ops.toList fr u s kN kX) (ih (.region id ops draw) fr s (fun fr s => kN fr u s) (fun x fr s => kX x fr u s))
  | c => fun fr u s kN kX => ih c fr s (fun fr s => kN fr u s) (fun x fr s => kX x fr u s)

/-! ## calls -/
def resS (P : Program) (env : En) (s : St) : List ResultVar → List SV
  | [] => []
  | .tmp t :: rs => env.get t :: resS P env s rs
  | .cell a t :: rs => loadS P s t (env.get a) :: resS P env s rs
def packR : List SV → SV
  | [v] => v
  | vs => .tup vs

def bindArgs : List SV → Nat → En → En
  | [] => fun _ env => env
  | v :: vs => fun i env => bindArgs vs (Nat.succ i) (env.set i v)

def scal : SV → Bool
  | .bool _ => true | .int .. => true | .flt .. => true | .str .. => true | .nilp => true | .nils => true | .nilm => true | .nilf => true | .nili => true | .opq _ => true
  | _ => false
def allScal : List SV → Bool
  | [] => true
  | v :: vs => cond (scal v) (allScal vs) false
def scalV : SV → Bool
  | .tup vs => allScal vs
  | .agg vs => allScal vs
  | v => scal v
/-- behind a call: if the result leads nowhere and nothing older was written, the heap is as it was -/
def backTo (s0 : St) (k : KV) : KV := fun v s => cond (scalV v && Nat.ble s0.nx s.lo) (k v s0) (k v ⟨s.h, s.nx, minN s0.lo s.lo⟩)

/-- operands' variables are variables; what is written is a slot of the frame -/
def opdOk (G : Nat) : Operand → Bool
  | .global g => Nat.ble (Nat.succ g) G
  | _ => true
def dstOk (n : Nat) : Option Tmp → Bool
  | some t => Nat.ble (Nat.succ t) n
  | none => true
def operOk (n G : Nat) (o : Oper) : Bool := dstOk n o.dst && o.op.operands.toList.all (opdOk G)
def codeOk (n G : Nat) : Code → Bool
  | .region _ ops _ => ops.toList.all (operOk n G)
  | .seq a b => codeOk n G a && codeOk n G b
  | .cond c a b => opdOk G c && (codeOk n G a && codeOk n G b)
  | .block _ c => codeOk n G c
  | .loop c => codeOk n G c
  | .scope c => codeOk n G c
  | .rangeFunc g ps a c => opdOk G g && (ps.toList.all (fun t => Nat.ble (Nat.succ t) n) && (codeOk n G a && codeOk n G c))
  | _ => true
def bodyOf (P : Program) (f : FuncId) : Option (Func × Code) := match P.funcs[f]? with | some fn => (match fn.body with | some c => cond (codeOk fn.ntmps P.globals.size c && !(fn.name == "runtime.NumGoroutine")) (some (fn, c)) none | none => none) | none => none

def settleS (u : SV × Bool) : SV × Bool := cond u.2 (.nili, false) u
def noDefers : List Df → Bool
  | [] => true
  | _ => false
/-- a deferred call has come to its end -/
def doneD (P : Program) (gn : Func) (k : (SV × Bool) → St → Bool) : KD := fun fr u s =>
  cond (noDefers fr.ds && !(anyBad (resS P fr.env s gn.results.toList))) (k (settleS u) s) (failB "deferred")
def doneX (P : Program) (gn : Func) (k : (SV × Bool) → St → Bool) : KDX := fun x fr u s => match x with
  | .ret => doneD P gn k fr u s
  | _ => failB "deferred exit"
def isDm : SBlk → Bool
  | .dm => true
  | _ => false
def leaveS (E : EE) (P : Program) (ih : Nat → IH) (callF : CallF) (fn : Func) (env : En) : List Df → (SV × Bool) → St → KV → KV → Bool
  | [] => fun u s kV kP => cond (isNili u.1) (match resS P env s fn.results.toList with | vs => cond (anyBad vs) (failB ("results " ++ fn.name)) (kV (packR vs) s)) (cond u.2 (failB "recovered") (kP u.1 s))
  | .mark b :: ds => fun u s kV kP => cond (isDm (s.h.get b)) (leaveS E P ih callF fn env ds u (s.put b .none) kV kP) (failB "mark")
  | .fn g args :: ds => fun u s kV kP => (match bodyOf P g with
    | some (gn, c) => cond (Nat.ble args.length gn.ntmps)
        (evD E P (ih gn.ntmps) callF c ⟨bindArgs args 0 .e, []⟩ u s (doneD P gn fun u s => leaveS E P ih callF fn env ds u s kV kP) (doneX P gn fun u s => leaveS E P ih callF fn env ds u s kV kP)) (failB "deferred args")
    | none => failB "deferred body")

/-- what a call is known to give: at how many names, from which arguments, with which blocks behind them, what -/
structure KRow where
  /-- 0: at any number of names -/
  nx : Nat
  args : List SV
  bs : List (Nat × Nat × List SV)
  res : SV
  /-- the blocks that it makes (none: the result leads nowhere, and what it made is forgotten) -/
  news : Option (List SBlk) := none
inductive XK where | indexByteStr | indexStr | countStr | cmpStr | same | overlaps (sz : Nat) | makeNoZero (e : Nat) | known (rows : List KRow)
  deriving Inhabited
def idxB (c : Nat) : Nat → Nat → Nat → Int   -- len n i
  | 0 => fun _ _ => .negSucc 0
  | l + 1 => fun n i => cond (Nat.beq (Nat.mod n 256) c) (.ofNat i) (idxB c l (Nat.div n 256) (Nat.succ i))
def cntB (c : Nat) : Nat → Nat → Nat → Nat
  | 0 => fun _ a => a
  | l + 1 => fun n a => cntB c l (Nat.div n 256) (cond (Nat.beq (Nat.mod n 256) c) (Nat.succ a) a)
def idxS (lb nb : Nat) : Nat → Nat → Nat → Int   -- tries n i
  | 0 => fun _ _ => .negSucc 0
  | k + 1 => fun n i => cond (Nat.beq (Nat.mod n (Nat.pow 2 (Nat.mul 8 lb))) nb) (.ofNat i) (idxS lb nb k (Nat.div n 256) (Nat.succ i))
def ovl (sz b o l b' o' l' : Nat) : Bool :=
  cond (Nat.beq l 0 || Nat.beq l' 0 || Nat.beq sz 0) false (Nat.beq b b' && Nat.ble (o + 1) (o' + l' * sz) && Nat.ble (o' + 1) (o + l * sz))
/-- a block of which no byte is a string's, from an offset on -/
def coolB (o : Nat) : SBlk → Bool
  | .cells _ _ => true
  | .opn _ cs _ fz st => !st && Nat.ble fz o && Nat.ble fz cs.length
  | _ => false
def extS (k : XK) (args : List SV) (s : St) (kV : KV) : Bool :=
  match k, args with
  | .indexByteStr, [.str l n, .int .u8 (.ofNat c)] => cond (Nat.ble c 255) (kV (.int .i64 (idxB c l n 0)) s) (failB "indexByteStr")
  | .countStr, [.str l n, .int _ (.ofNat c)] => kV (.int .i64 (.ofNat (cntB c l n 0))) s
  | .indexStr, [.str l n, .str lb nb] => cond (Nat.ble 2 lb && Nat.ble lb 63) (kV (.int .i64 (idxS lb nb (l + 1 - lb) n 0)) s) (failB "indexStr")
  | .cmpStr, [.str l n, .str lb nb] => kV (.int .i64 (cond (eqStr l n lb nb) 0 (cond (strLess l n lb nb) (.negSucc 0) 1))) s
  | .same, [x] => kV x s
  | .overlaps sz, [x, y] => (match x with
    | .nils => (match y with | .nils => kV (.bool false) s | y => (match atS y with | some _ => kV (.bool false) s | none => failB "overlaps"))
    | x => (match atS x with
      | some (b, o, l) => (match y with
        | .nils => kV (.bool false) s
        | y => (match atS y with
          | some (b', o', l') => cond (Nat.beq b b' || Nat.beq l 0 || Nat.beq l' 0 || (coolB o (s.h.get b) && coolB o' (s.h.get b'))) (kV (.bool (ovl sz b o l b' o' l')) s) (failB "overlaps")
          | none => failB "overlaps"))
      | none => failB "overlaps"))
  | .makeNoZero e, [.int .i64 (.ofNat n)] => cond (Nat.ble n 1048576) (kV (.slo s.nx 0 n 1) (s.new (.opn e (List.replicate n .junk) big 0 false))) (failB "makeNoZero")
  | _, _ => failB "ext args"

def leaveX (E : EE) (P : Program) (ih : Nat → IH) (callF : CallF) (fn : Func) (s : St) (kV kP : KV) : KX := fun x fr s' => match x with
  | .ret => leaveS E P ih callF fn fr.env fr.ds (.nili, false) s' (backTo s kV) (fun v s' => kP v ⟨s'.h, s'.nx, minN s.lo s'.lo⟩)
  | .panic v => cond (isNili v) (failB "nil panics") (leaveS E P ih callF fn fr.env fr.ds (v, false) s' (backTo s kV) (fun v s' => kP v ⟨s'.h, s'.nx, minN s.lo s'.lo⟩))
  | .exit _ => failB "exit"
def bodyS (E : EE) (P : Program) (ih : Nat → IH) (callF : CallF) (f : FuncId) (args : List SV) (s : St) (kV kP : KV) : Bool :=
  match bodyOf P f with
  | some (fn, c) => cond (Nat.ble args.length fn.ntmps) (ih fn.ntmps c ⟨bindArgs args 0 .e, []⟩ ⟨s.h, s.nx, big⟩ (fun fr s' => leaveX E P ih callF fn s kV kP .ret fr s') (leaveX E P ih callF fn s kV kP)) (failB "arguments")
  | none => failB "no body"
/-- does a block hold these cells? -/
def roFits (ty : Nat) (cs : List SV) : SBlk → Bool
  | .cells t ds => cond (Nat.beq t ty) (sameF.samesF 1000 ds cs) false
  | .opn t ds _ _ _ => cond (Nat.beq t ty) (sameF.samesF 1000 ds cs) false
  | .ro t ds => cond (Nat.beq t ty) (sameF.samesF 1000 ds cs) false
  | _ => false
def blocksFit (h : Hp) : List (Nat × Nat × List SV) → Bool
  | [] => true
  | b :: bs => cond (roFits b.2.1 b.2.2 (h.get b.1)) (blocksFit h bs) false
def rowFits (r : KRow) (args : List SV) (s : St) : Bool := cond (sameF.samesF 1000 args r.args) (blocksFit s.h r.bs) false
def nxFits (r : KRow) (s : St) : Bool := cond (Nat.beq r.nx 0) (match r.news with | none => true | some _ => false) (Nat.beq s.nx r.nx)
def findRow (args : List SV) (s : St) : List KRow → Option KRow
  | [] => none
  | r :: rs => cond (nxFits r s) (cond (rowFits r args s) (some r) (findRow args s rs)) (findRow args s rs)
def callK (X : Option XK) (args : List SV) (s : St) : Option KRow := match X with
  | some (.known rows) => findRow args s rows
  | _ => none
def pushAll : List SBlk → St → St
  | [] => fun s => s
  | b :: bs => fun s => pushAll bs (s.new b)
def callR (s : St) (kV : KV) : KRow → Bool
  | ⟨_, _, _, x, none⟩ => kV x s
  | ⟨_, _, _, x, some l⟩ => kV x (pushAll l s)
def sameEs : List (SV × SV × Nat) → List (SV × SV × Nat) → Bool
  | [] => fun | [] => true | _ => false
  | x :: xs => fun | [] => false | y :: ys => cond (sameF 1000 x.1 y.1) (cond (sameF 1000 x.2.1 y.2.1) (cond (Nat.beq x.2.2 y.2.2) (sameEs xs ys) false) false) false
/-- is a block what a row says (none: whatever it is)? -/
def sameBlk : SBlk → SBlk → Bool
  | .none => fun _ => true
  | .cells t cs => fun | .cells t' cs' => cond (Nat.beq t t') (sameF.samesF 1000 cs cs') false | _ => false
  | .opn t cs ub fz st => fun | .opn t' cs' ub' fz' st' => cond (Nat.beq t t' && Nat.beq ub ub' && Nat.beq fz fz' && eqB st st') (sameF.samesF 1000 cs cs') false | _ => false
  | .map es c => fun | .map es' c' => cond (Nat.beq c c') (sameEs es es') false | _ => false
  | _ => fun _ => false
def newsFit : List SBlk → Nat → St → Bool
  | [] => fun b s => Nat.beq s.nx b
  | blk :: l => fun b s => cond (sameBlk blk (s.h.get b)) (newsFit l (Nat.succ b) s) false
/-- what is asked of the end of a row's own run -/
def rowEnd (r : KRow) : KV := fun x s => cond (sameF 1000 x r.res) (match r.news with | none => true | some l => newsFit l r.nx s) false
def isKnown : XK → Bool
  | .known _ => true
  | _ => false
def callC (E : EE) (X : FuncId → Option XK) (P : Program) (ih : Nat → IH) (callF : CallF) (f : FuncId) (args : List SV) (s : St) (kV kP : KV) : Bool :=
  match X f with
  | some k => cond (isKnown k) (match callK (some k) args s with | some r => callR s kV r | none => bodyS E P ih callF f args s kV kP) (extS k args s kV)
  | none => bodyS E P ih callF f args s kV kP

/-- is an operation no defer statement? -/
def notDefer : Op → Bool
  | .defer _ => false
  | _ => true
/-- has a piece of code none? -/
def noDfr : Code → Bool
  | .region _ ops _ => ops.toList.all fun o => notDefer o.op
  | .seq a b => noDfr a && noDfr b
  | .cond _ a b => noDfr a && noDfr b
  | .block _ c => noDfr c
  | .loop c => noDfr c
  | .scope c => noDfr c
  | .rangeFunc _ _ a c => noDfr a && noDfr c
  | _ => true
def bindPs : List Tmp → List SV → En → Option En
  | [] => fun | [] => fun env => some env | _ => fun _ => none
  | t :: ts => fun | [] => fun _ => none | v :: vs => fun env => bindPs ts vs (env.set t v)
/-- a round has come to its end -/
def endRoundS (b : Nat) (jump : Option Code) (s : St) (kV : KV) : Bool := match s.h.get b with
  | .lp n env ps a c _ _ dm => (match jump with
    | none => kV (.bool true) (s.put b (.lp n env ps a c 0 none dm))
    | some j => kV (.bool false) (s.put b (.lp n env ps a c 2 (some j) dm)))
  | _ => failB "round record"
/-- a round: the assignments, then the body -/
def roundS (G : Nat) (ih : Nat → Nat → IH) (b : Nat) (args : List SV) (s : St) (kV : KV) : Bool := match s.h.get b with
  | .lp n env ps a c st _ _ => cond (Nat.beq st 0 && (noDfr a && noDfr c) && (codeOk n G a && codeOk n G c) && ps.toList.all (fun t => Nat.ble (Nat.succ t) n)) (match bindPs ps.toList args env with
    | some env' => ih b n a ⟨env', []⟩ s (fun fr1 s1 => (match s1.h.get b with
      | .lp n1 env ps a' c' st1 pend dm => cond (Nat.beq st1 0) (ih b n c fr1 (s1.put b (.lp n1 env ps a' c' 1 pend dm)) (fun _ s2 => endRoundS b none s2 kV) (fun x _ s2 => match x with
        | .ret => endRoundS b (some .ret) s2 kV
        | .exit i => endRoundS b (some (.exit i)) s2 kV
        | .panic _ => failB "panic in a round")) (failB "round again")
      | _ => failB "round record")) (fun _ _ _ => failB "round's assignments")
    | none => failB "round's arguments") (failB "round")
  | _ => failB "round of what"
structure Ev where
  c : Option Nat → Nat → IH
  f : CallF
def ev (E : EE) (X : FuncId → Option XK) (P : Program) : Nat → Ev
  | 0 => ⟨fun _ _ _ _ _ _ _ => failB "fuel", ⟨fun _ _ _ _ _ => failB "fuel", fun _ _ _ _ _ => failB "fuel"⟩⟩
  | m + 1 => ⟨fun rd n c fr s kN kX => stepC rd n E c P ((ev E X P m).c rd n) (ev E X P m).f fr s kN kX,
      ⟨fun f a s kV kP => callC E X P ((ev E X P m).c none) (ev E X P m).f f a s kV kP, fun b a s kV _ => roundS P.globals.size (fun l => (ev E X P m).c (some l)) b a s kV⟩⟩

end
end Go.Sh
