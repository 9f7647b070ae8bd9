/- An evaluator for the model's code over values and memory of its own, and that it is right; plain words for what the program computes. -/
import GoSem.Step
import Derived.WalkKit
import Derived.LoopN
import Derived.WalkLawsBesides
import Derived.Laws.Cells
import Derived.Laws.BytesString
import Derived.Laws.Tables
import Derived.Laws.Append
import Derived.Laws.MakeOwn
import Derived.ArgAppend
import Derived.Laws.AppendOwn
/- Core -/
/- A deterministic evaluator for the model's Code, over values and memory of its own. -/
set_option linter.unusedVariables false
noncomputable section
namespace Go.Den

/-! ### 1. A trie over numbers -/
inductive T (α : Type) where
  | nil
  | node (l : T α) (v : Option α) (r : T α)

/-- The road to a number. -/
inductive Pa where
  | here
  | l (p : Pa)
  | r (p : Pa)
  deriving DecidableEq
def pathF (f : Nat) : Nat → Pa :=
  @Nat.rec (fun _ => Nat → Pa) (fun _ => .here) (fun _ ih n => @Nat.rec (fun _ => Pa) .here (fun m _ => @Nat.rec (fun _ => Pa) (.l (ih (m / 2))) (fun _ _ => .r (ih (m / 2))) (m % 2)) n) f
def pathOf (n : Nat) : Pa := pathF (n + 1) n
def T.getP {α : Type} (p : Pa) : T α → Option α :=
  @Pa.rec (fun _ => T α → Option α) (fun t => @T.rec α (fun _ => Option α) none (fun _ v _ _ _ => v) t) (fun _ ih t => @T.rec α (fun _ => Option α) none (fun l _ _ _ _ => ih l) t) (fun _ ih t => @T.rec α (fun _ => Option α) none (fun _ _ r _ _ => ih r) t) p
def T.putP {α : Type} (u : Option α) (p : Pa) : T α → T α :=
  @Pa.rec (fun _ => T α → T α) (fun t => @T.rec α (fun _ => T α) (.node .nil u .nil) (fun l _ r _ _ => .node l u r) t) (fun _ ih t => @T.rec α (fun _ => T α) (.node (ih .nil) none .nil) (fun l v r _ _ => .node (ih l) v r) t) (fun _ ih t => @T.rec α (fun _ => T α) (.node .nil none (ih .nil)) (fun l v r _ _ => .node l v (ih r)) t) p
def T.get {α : Type} (t : T α) (n : Nat) : Option α := T.getP (pathOf n) t

/-! ### 2. Values, memory -/
/-- A number of which only the form is known. -/
inductive SE where
  | v (i : Nat)
  | n (z : Int)
  | wrap (k : IntKind) (a : SE)
  | bin (op : BinOp) (k : IntKind) (a b : SE)
  | lit (s : List UInt8)
  | app (f : Nat) (a b c : SE)
  deriving Inhabited
inductive Cmp where
  | eq | lt | le | seq | slt
/-- What is taken for granted of numbers of which only the form is known. -/
abbrev Asm := Cmp → SE → SE → Option Bool
inductive IV where
  | int (k : IntKind) (n : Int)
  | sint (k : IntKind) (s : SE)
  | optr (i : Nat)
  | bool (b : Bool)
  | str (s : List UInt8)
  | sstr (t : SE)
  | ptr (b o : Nat)
  | sptr (b sz : Nat) (i : SE) (j : Nat)
  | nilPtr
  | slice (b o len cap : Nat)
  | sslice (b sz : Nat) (o l c : SE)
  | nilSlice
  | map (b : Nat)
  | nilMap
  | func (fn : Fn) (first caps : List IV)
  | nilFunc
  | iface (t : TypeId) (v : IV)
  | nilIface
  | agg (cs : List IV)
  | tuple (vs : List IV)
  deriving Inhabited

/-- The capacity of a slice of which only its length is known. -/
def loose : Nat := 9223372036854775808

/-- what a cell of a row is, out of the row's own numbers and texts -/
inductive Form where
  | int (k : IntKind) (j : Nat)
  | str (j : Nat)
  | slc (b sz jo jl : Nat)
  | any
/-- is it known what such a cell holds? -/
def Form.vis (f : Form) : Bool := match f with
  | .any => false
  | _ => true
def visL (l : List Form) : Bool := @List.rec Form (fun _ => Bool) true (fun f _ ih => @Bool.rec (fun _ => Bool) false ih f.vis) l
/-- mode 0: capacities are known; 1: one row that may have more room than is used; 2: may not be written. Rows: as many as their term has, each of sz cells. -/
inductive Blk where
  | cells (elem : TypeId) (n : Nat) (z : List IV) (t : T IV) (mode : Nat)
  | rows (elem : TypeId) (sz : Nat) (fs : List Form) (r : SE) (mode : Nat)
  | siter (t : SE) (pos : SE)
  | map (es : List (IV × IV))
  | iter (s : List UInt8) (pos : Nat)

structure H where
  next : Nat
  m : T Blk
  asm : Asm

abbrev Tm := T IV

def ob {α β : Type} (x : Option α) (f : α → Option β) : Option β := @Option.rec α (fun _ => Option β) none f x

def T.put {α : Type} (t : T α) (n : Nat) (v : α) : T α := T.putP (some v) (pathOf n) t
def T.del {α : Type} (t : T α) (n : Nat) : T α := T.putP none (pathOf n) t

def ofScalar : Value → Option IV
  | .int k n => some (.int k n)
  | .bool b => some (.bool b)
  | .string s => some (.str s.data.toList)
  | .pointer none => some .nilPtr
  | .slice none 0 0 => some .nilSlice
  | .map none => some .nilMap
  | .nilFunc => some .nilFunc
  | .nilIface => some .nilIface
  | _ => none
def ofScalars (l : List Value) : Option (List IV) :=
  @List.rec Value (fun _ => Option (List IV)) (some []) (fun v _ ih => ob (ofScalar v) fun a => ob ih fun l => some (a :: l)) l
def ofValue : Value → Option IV
  | .agg cs => ob (ofScalars cs.toList) fun l => some (.agg l)
  | .tuple cs => ob (ofScalars cs.toList) fun l => some (.tuple l)
  | .iface t v => ob (ofScalar v) fun a => some (.iface t a)
  | v => ofScalar v

def IV.cells : IV → List IV
  | .agg cs => cs
  | v => [v]

def listT (l : List IV) : Nat → T IV → T IV :=
  @List.rec IV (fun _ => Nat → T IV → T IV) (fun _ t => t) (fun v _ ih i t => ih (i + 1) (t.put i v)) l
def H.put (h : H) (b : Nat) (x : Blk) : H := ⟨h.next, h.m.put b x, h.asm⟩
def H.new (h : H) (x : Blk) : H := ⟨h.next + 1, h.m.put h.next x, h.asm⟩

def Blk.cell (x : Blk) (o : Nat) : Option IV := match x with
  | .cells _ n z t _ => match Nat.blt o n with
    | true => match t.get o with
      | some v => some v
      | none => z[o % z.length]?
    | false => none
  | _ => none
def loadN (x : Blk) (o n : Nat) : Option (List IV) :=
  @Nat.rec (fun _ => Nat → Option (List IV)) (fun _ => some []) (fun _ ih o => ob (x.cell o) fun v => ob (ih (o + 1)) fun l => some (v :: l)) n o
/-- A value that takes one cell. -/
def one : IV → Bool
  | .agg _ => false
  | .tuple _ => false
  | _ => true
def storeT (n : Nat) (l : List IV) : T IV → Nat → Option (T IV) :=
  @List.rec IV (fun _ => T IV → Nat → Option (T IV)) (fun t _ => some t) (fun v _ ih t o => @Bool.rec (fun _ => Option (T IV)) none (@Bool.rec (fun _ => Option (T IV)) none (ih (t.put o v) (o + 1)) (one v)) (Nat.blt o n)) l
def H.store (h : H) (b o : Nat) (vs : List IV) : Option H := ob (h.m.get b) fun x => match x with
  | .cells e n z t md => match Nat.beq md 2 with
    | true => none
    | false => ob (storeT n vs t o) fun t => some (h.put b (.cells e n z t md))
  | _ => none

/-! ### 3. Numbers, texts -/
def leZ (a b : Int) : Bool :=
  @Int.rec (fun _ => Bool) (fun a => @Int.rec (fun _ => Bool) (fun b => Nat.ble a b) (fun _ => false) b) (fun a => @Int.rec (fun _ => Bool) (fun _ => true) (fun b => Nat.ble b a) b) a
def eqZ (a b : Int) : Bool :=
  @Int.rec (fun _ => Bool) (fun a => @Int.rec (fun _ => Bool) (fun b => Nat.beq a b) (fun _ => false) b) (fun a => @Int.rec (fun _ => Bool) (fun _ => false) (fun b => Nat.beq a b) b) a
def kindN (k : IntKind) : Nat := @IntKind.rec (fun _ => Nat) 0 1 2 3 4 5 6 7 k
def eqU (a : List UInt8) : List UInt8 → Bool :=
  @List.rec UInt8 (fun _ => List UInt8 → Bool) (fun b => @List.rec UInt8 (fun _ => Bool) true (fun _ _ _ => false) b)
    (fun x _ ih b => @List.rec UInt8 (fun _ => Bool) false (fun y r _ => @Bool.rec (fun _ => Bool) false (ih r) (Nat.beq x.toNat y.toNat)) b) a
def ltU (a : List UInt8) : List UInt8 → Bool :=
  @List.rec UInt8 (fun _ => List UInt8 → Bool) (fun b => @List.rec UInt8 (fun _ => Bool) false (fun _ _ _ => true) b)
    (fun x _ ih b => @List.rec UInt8 (fun _ => Bool) false (fun y r _ => @Bool.rec (fun _ => Bool) (@Bool.rec (fun _ => Bool) false (ih r) (Nat.beq x.toNat y.toNat)) true (Nat.blt x.toNat y.toNat)) b) a
def opN (o : BinOp) : Nat := @BinOp.rec (fun _ => Nat) 0 1 2 3 4 5 6 7 8 9 10 11 12 13 14 15 16 o
def eqSE (a : SE) : SE → Bool :=
  @SE.rec (fun _ => SE → Bool) (fun i b => @SE.rec (fun _ => Bool) (fun j => Nat.beq i j) (fun _ => false) (fun _ _ _ => false) (fun _ _ _ _ _ _ => false) (fun _ => false) (fun _ _ _ _ _ _ _ => false) b)
    (fun z b => @SE.rec (fun _ => Bool) (fun _ => false) (fun y => eqZ z y) (fun _ _ _ => false) (fun _ _ _ _ _ _ => false) (fun _ => false) (fun _ _ _ _ _ _ _ => false) b)
    (fun k _ ih b => @SE.rec (fun _ => Bool) (fun _ => false) (fun _ => false) (fun j c _ => @Bool.rec (fun _ => Bool) false (ih c) (Nat.beq (kindN k) (kindN j))) (fun _ _ _ _ _ _ => false) (fun _ => false) (fun _ _ _ _ _ _ _ => false) b)
    (fun o k _ _ ia ib b => @SE.rec (fun _ => Bool) (fun _ => false) (fun _ => false) (fun _ _ _ => false)
      (fun p j c d _ _ => @Bool.rec (fun _ => Bool) false (@Bool.rec (fun _ => Bool) false (@Bool.rec (fun _ => Bool) false (ib d) (ia c)) (Nat.beq (kindN k) (kindN j))) (Nat.beq (opN o) (opN p))) (fun _ => false) (fun _ _ _ _ _ _ _ => false) b)
    (fun s b => @SE.rec (fun _ => Bool) (fun _ => false) (fun _ => false) (fun _ _ _ => false) (fun _ _ _ _ _ _ => false) (fun u => eqU s u) (fun _ _ _ _ _ _ _ => false) b)
    (fun f _ _ _ ia ib ic b => @SE.rec (fun _ => Bool) (fun _ => false) (fun _ => false) (fun _ _ _ => false) (fun _ _ _ _ _ _ => false) (fun _ => false)
      (fun g c d e _ _ _ => @Bool.rec (fun _ => Bool) false (@Bool.rec (fun _ => Bool) false (@Bool.rec (fun _ => Bool) false (ic e) (ib d)) (ia c)) (Nat.beq f g)) b) a
/-! #### Terms -/
def tLen (t : SE) : SE := match t with
  | .lit s => .n s.length
  | t => .app 0 t (.n 0) (.n 0)
def tByte (t i : SE) : SE := .app 1 t i (.n 0)
def tSub (t lo hi : SE) : SE := .app 2 t lo hi
def tCat (a b : SE) : SE := .app 3 a b (.n 0)
def tChr (a : SE) : SE := .app 4 a (.n 0) (.n 0)
def tRows (a : SE) : SE := .app 5 a (.n 0) (.n 0)
def tCell (r i : SE) (j : Nat) : SE := .app 6 r i (.n j)
def tAdd (a b : SE) : SE := match a with
  | .n (.ofNat z) => match z with
    | 0 => b
    | _ => .app 7 a b (.n 0)
  | _ => .app 7 a b (.n 0)
def tMinus (a b : SE) : SE := match b with
  | .n (.ofNat z) => match z with
    | 0 => a
    | _ => .app 8 a b (.n 0)
  | _ => .app 8 a b (.n 0)
def tCatR (a b : SE) : SE := .app 9 a b (.n 0)
/-- a row, one cell longer -/
def tRow (a b : SE) : SE := .app 10 a b (.n 0)
/-- one row without cells -/
def tRow0 : SE := .app 11 (.n 0) (.n 0) (.n 0)
/-- no rows -/
def tRowN : SE := .app 12 (.n 0) (.n 0) (.n 0)
/-- the bytes of a text, each a row -/
def tBytes (a : SE) : SE := .app 99 a (.n 0) (.n 0)
/-- never below nought -/
def natT (t : SE) : Bool := match t with
  | .n (.ofNat _) => true
  | .app f _ _ _ => Nat.beq f 0 || Nat.beq f 1 || Nat.beq f 5
  | _ => false
def nonneg (asm : Asm) (t : SE) : Bool := @Bool.rec (fun _ => Bool) (match asm .lt t (.n 0) with
  | some false => true
  | _ => false) true (natT t)
def isZ (t : SE) : Bool := match t with
  | .n z => eqZ z 0
  | _ => false
def less (asm : Asm) (a b : SE) : Bool := match asm .lt a b with
  | some true => true
  | _ => false
def leq (asm : Asm) (a b : SE) : Bool := @Bool.rec (fun _ => Bool) (@Bool.rec (fun _ => Bool) (match asm .le a b with
  | some true => true
  | _ => false) true (eqSE a b)) (nonneg asm b) (isZ a)
def toSI : IV → Option SE
  | .int _ n => some (.n n)
  | .sint _ s => some s
  | _ => none
def toSS : IV → Option SE
  | .str s => some (.lit s)
  | .sstr t => some t
  | _ => none
def symEqS (asm : Asm) (a b : SE) : Option Bool := @Bool.rec (fun _ => Option Bool) (asm .seq a b) (some true) (eqSE a b)
def toSE : IV → Option (IntKind × SE)
  | .int k n => some (k, .n n)
  | .sint k s => some (k, s)
  | _ => none
def symEq (asm : Asm) (a b : SE) : Option Bool := @Bool.rec (fun _ => Option Bool) (asm .eq a b) (some true) (eqSE a b)
def symNZ (asm : Asm) (b : SE) : Bool := match b with
  | .n z => !(eqZ z 0)
  | b => match asm .eq b (.n 0) with
    | some false => true
    | _ => false
def symOp (asm : Asm) (op : BinOp) (k : IntKind) (a b : SE) : Option IV := match op with
  | .add => some (.sint k (.bin op k a b))
  | .sub => some (.sint k (.bin op k a b))
  | .mul => some (.sint k (.bin op k a b))
  | .and => some (.sint k (.bin op k a b))
  | .or => some (.sint k (.bin op k a b))
  | .xor => some (.sint k (.bin op k a b))
  | .andNot => some (.sint k (.bin op k a b))
  | .quo => match symNZ asm b with
    | true => some (.sint k (.bin op k a b))
    | false => none
  | .rem => match symNZ asm b with
    | true => some (.sint k (.bin op k a b))
    | false => none
  | .eql => ob (symEq asm a b) fun r => some (.bool r)
  | .neq => ob (symEq asm a b) fun r => some (.bool (!r))
  | .lss => ob (asm .lt a b) fun r => some (.bool r)
  | .leq => ob (asm .le a b) fun r => some (.bool r)
  | .gtr => ob (asm .lt b a) fun r => some (.bool r)
  | .geq => ob (asm .le b a) fun r => some (.bool r)
  | _ => none
section
variable (P : Program)
def tinfo (t : TypeId) : Option TypeInfo := P.info? t
def size (t : TypeId) : Option Nat := match P.info? t with
  | some i => some i.size
  | none => none
def zero (t : TypeId) : Option IV := match P.info? t with
  | some i => match i.zero with
    | some v => ofValue v
    | none => none
  | none => none
def isAgg (t : TypeId) : Option Bool := match P.underlying t with
  | some (.struct _) => some true
  | some (.array _ _) => some true
  | some _ => some false
  | none => none

def loadVar (h : H) (t : TypeId) (b o : Nat) : Option IV :=
  ob (h.m.get b) fun x => ob (isAgg P t) fun a => match a with
    | true => ob (size P t) fun n => ob (loadN x o n) fun l => some (.agg l)
    | false => x.cell o

def formV (r i : SE) (f : Form) : IV := match f with
  | .int k j => .sint k (tCell r i j)
  | .str j => .sstr (tCell r i j)
  | .slc b sz jo jl => .sslice b sz (tCell r i jo) (tCell r i jl) (tCell r i jl)
  | .any => .sptr 0 0 (.n (-1)) 0
def formsV (r i : SE) (l : List Form) : List IV := @List.rec Form (fun _ => List IV) [] (fun f _ ih => formV r i f :: ih) l
/-- where rows that may not be written begin: a catenation's third place -/
def shT (md : Nat) (r : SE) : SE := match Nat.beq md 2 with
  | true => match r with
    | .app f _ _ o => match Nat.beq f 9 with
      | true => o
      | false => .n 0
    | _ => .n 0
  | false => .n 0
/-- a place in rows, from where they begin -/
def unAdd (o i : SE) : Option SE := match eqSE o (.n 0) with
  | true => some i
  | false => match i with
    | .app f a k _ => match Nat.beq f 7, eqSE a o with
      | true, true => some k
      | _, _ => none
    | _ => none
def inWin (asm : Asm) (o k : SE) : Bool := @Bool.rec (fun _ => Bool) (@Bool.rec (fun _ => Bool) false (nonneg asm k) (nonneg asm o)) true (eqSE o (.n 0))
def loadVarS (h : H) (t : TypeId) (b sz : Nat) (i : SE) (j : Nat) : Option IV :=
  ob (h.m.get b) fun x => match x with
    | .rows _ sz' fs r md => ob (unAdd (shT md r) i) fun i => match Nat.beq sz sz', inWin h.asm (shT md r) i, less h.asm i (tRows r) with
      | true, true, true => ob (isAgg P t) fun a => match a with
        | true => ob (size P t) fun n => match Nat.ble (j + n) fs.length, visL ((fs.drop j).take n) with
          | true, true => some (.agg (formsV r i ((fs.drop j).take n)))
          | _, _ => none
        | false => ob fs[j]? fun f => match f.vis with
          | true => some (formV r i f)
          | false => none
      | _, _, _ => none
    | _ => none
def part (t : TypeId) (cs : List IV) (off : Nat) : Option IV := ob (isAgg P t) fun a => match a with
  | true => ob (size P t) fun n => some (.agg ((cs.drop off).take n))
  | false => cs[off]?

def eqFields (eq : TypeId → IV → IV → Option Bool) (l : List Field) (xs ys : List IV) : Option Bool :=
  @List.rec Field (fun _ => Option Bool) (some true) (fun f _ ih => @Bool.rec (fun _ => Option Bool)
    (ob (part P f.type xs f.offset) fun x => ob (part P f.type ys f.offset) fun y => ob (eq f.type x y) fun e => @Bool.rec (fun _ => Option Bool) (some false) ih e) ih (f.name == "_")) l
def eqvStep (asm : Asm) (self : TypeId → IV → IV → Option Bool) (t : TypeId) (x y : IV) : Option Bool :=
  ob (P.underlying t) fun u => match u, x, y with
    | .bool, .bool a, .bool b => some (a == b)
    | .int _, .int k a, .int k' b => match Nat.beq (kindN k) (kindN k') with
      | true => some (eqZ a b)
      | false => none
    | .int _, .sint k a, .sint k' b => match Nat.beq (kindN k) (kindN k') with
      | true => symEq asm a b
      | false => none
    | .int _, .sint k a, .int k' b => match Nat.beq (kindN k) (kindN k') with
      | true => symEq asm a (.n b)
      | false => none
    | .int _, .int k a, .sint k' b => match Nat.beq (kindN k) (kindN k') with
      | true => symEq asm (.n a) b
      | false => none
    | .pointer _, .nilPtr, .optr _ => some false
    | .pointer _, .optr _, .nilPtr => some false
    | .string, .str a, .str b => some (eqU a b)
    | .string, .str a, .sstr b => symEqS asm (.lit a) b
    | .string, .sstr a, .str b => symEqS asm a (.lit b)
    | .string, .sstr a, .sstr b => symEqS asm a b
    | .pointer _, .nilPtr, .nilPtr => some true
    | .pointer _, .nilPtr, .ptr _ _ => some false
    | .pointer _, .ptr _ _, .nilPtr => some false
    | .interface _, .nilIface, .nilIface => some true
    | .interface _, .nilIface, .iface _ _ => some false
    | .interface _, .iface _ _, .nilIface => some false
    | .interface _, .iface tx vx, .iface ty vy => match Nat.beq tx ty with
      | false => some false
      | true => ob (P.info? tx) fun i => match i.comparable with
        | true => self tx vx vy
        | false => none
    | .struct fields, .agg xs, .agg ys => match P.stoodInHeld t with
      | true => none
      | false => eqFields P self fields.toList xs ys
    | .slice _, .nilSlice, .nilSlice => some true
    | .slice _, .nilSlice, .slice .. => some false
    | .slice _, .slice .., .nilSlice => some false
    | .slice _, .nilSlice, .sslice .. => some false
    | .slice _, .sslice .., .nilSlice => some false
    | .pointer _, .nilPtr, .sptr .. => some false
    | .pointer _, .sptr .., .nilPtr => some false
    | .func _ _ _, .nilFunc, .nilFunc => some true
    | .func _ _ _, .nilFunc, .func .. => some false
    | .func _ _ _, .func .., .nilFunc => some false
    | .pointer el, .optr i, .optr j => match Nat.beq i j, size P el with
      | true, some _ => some true
      | _, _ => none
    | _, _, _ => none

def eqv (asm : Asm) (fuel : Nat) : TypeId → IV → IV → Option Bool := @Nat.rec (fun _ => TypeId → IV → IV → Option Bool) (fun _ _ _ => none) (fun _ ih => eqvStep P asm ih) fuel

def intOp (op : BinOp) (k : IntKind) (a b : Int) : Option IV :=
  match op with
  | .add => some (.int k (k.wrap (a + b)))
  | .sub => some (.int k (k.wrap (a - b)))
  | .mul => some (.int k (k.wrap (a * b)))
  | .quo => match eqZ b 0 with | true => none | false => some (.int k (k.wrap (a.tdiv b)))
  | .rem => match eqZ b 0 with | true => none | false => some (.int k (a.tmod b))
  | .and => some (.int k (k.wrap (BitVec.ofInt k.bits a &&& BitVec.ofInt k.bits b).toNat))
  | .or => some (.int k (k.wrap (BitVec.ofInt k.bits a ||| BitVec.ofInt k.bits b).toNat))
  | .xor => some (.int k (k.wrap (BitVec.ofInt k.bits a ^^^ BitVec.ofInt k.bits b).toNat))
  | .andNot => some (.int k (k.wrap (BitVec.ofInt k.bits a &&& ~~~ BitVec.ofInt k.bits b).toNat))
  | .eql => some (.bool (eqZ a b))
  | .neq => some (.bool (!eqZ a b))
  | .lss => some (.bool (!leZ b a))
  | .leq => some (.bool (leZ a b))
  | .gtr => some (.bool (!leZ a b))
  | .geq => some (.bool (leZ b a))
  | _ => none
def shiftOp (left : Bool) (k : IntKind) (a b : Int) : Option IV :=
  match b with
  | .negSucc _ => none
  | .ofNat m =>
    match left with
    | true => some (.int k (k.wrap (a * 2 ^ Nat.min m k.bits)))
    | false => some (.int k (a.fdiv (2 ^ Nat.min m k.bits)))
def strOp (op : BinOp) (a b : List UInt8) : Option IV :=
  match op with
  | .add => match Nat.ble (a.length + b.length) 9223372036854775807 with
    | true => some (.str (a ++ b))
    | false => none
  | .eql => some (.bool (eqU a b))
  | .neq => some (.bool (!eqU a b))
  | .lss => some (.bool (ltU a b))
  | .leq => some (.bool (ltU a b || eqU a b))
  | .gtr => some (.bool !(ltU a b || eqU a b))
  | .geq => some (.bool !(ltU a b))
  | _ => none
def strOpS (asm : Asm) (op : BinOp) (a b : SE) : Option IV := match op with
  | .add => match asm .le (.app 0 (tCat a b) (.n 0) (.n 0)) (.n 9223372036854775807) with
    | some true => some (.sstr (tCat a b))
    | _ => none
  | .eql => ob (symEqS asm a b) fun r => some (.bool r)
  | .neq => ob (symEqS asm a b) fun r => some (.bool (!r))
  | _ => none
def shiftS (asm : Asm) (op : BinOp) (k : IntKind) (a b : SE) : Option IV := match op with
  | .shl => match nonneg asm b with
    | true => some (.sint k (.bin .shl k a b))
    | false => none
  | .shr => match nonneg asm b with
    | true => some (.sint k (.bin .shr k a b))
    | false => none
  | _ => none
def isShift (op : BinOp) : Bool := match op with
  | .shl => true
  | .shr => true
  | _ => false
def binOpD (asm : Asm) (op : BinOp) (t : TypeId) (x y : IV) : Option IV :=
  match x, y with
  | .str a, .sstr b => strOpS asm op (.lit a) b
  | .sstr a, .str b => strOpS asm op a (.lit b)
  | .sstr a, .sstr b => strOpS asm op a b
  | .int k a, .int k' b => match op with
    | .shl => shiftOp true k a b
    | .shr => shiftOp false k a b
    | op => match Nat.beq (kindN k) (kindN k') with
      | true => intOp op k a b
      | false => none
  | .str a, .str b => strOp op a b
  | .sint k a, .int k' b => match op, b with
    | .shl, .ofNat m => some (.sint k (.bin .shl k a (.n m)))
    | .shr, .ofNat m => some (.sint k (.bin .shr k a (.n m)))
    | op, b => match Nat.beq (kindN k) (kindN k') with
      | true => symOp asm op k a (.n b)
      | false => none
  | .int k a, .sint k' b => match isShift op, Nat.beq (kindN k) (kindN k') with
    | true, _ => shiftS asm op k (.n a) b
    | false, true => symOp asm op k (.n a) b
    | false, false => none
  | .sint k a, .sint k' b => match isShift op, Nat.beq (kindN k) (kindN k') with
    | true, _ => shiftS asm op k a b
    | false, true => symOp asm op k a b
    | false, false => none
  | x, y => match op with
    | .eql => ob (eqv P asm 100 t x y) fun b => some (.bool b)
    | .neq => ob (eqv P asm 100 t x y) fun b => some (.bool (!b))
    | _ => none
def isConstOp : Operand → Bool
  | .const _ => true
  | _ => false
def eqGuardD (op : BinOp) (t : TypeId) (x y : Operand) (a b : IV) : Bool :=
  match a, b with
  | .nilIface, .nilIface => isConstOp x || isConstOp y
  | .agg _, .agg _ => !P.eqGuardType P.depth t
  | _, _ => true
def unOpD (op : UnOp) (x : IV) : Option IV :=
  match op, x with
  | .neg, .int k n => some (.int k (k.wrap (0 - n)))
  | .xor, .int k n => intOp .xor k (if k.signed then -1 else k.max) n
  | .not, .bool b => some (.bool (!b))
  | .neg, .sint k n => some (.sint k (.bin .sub k (.n 0) n))
  | .xor, .sint k n => some (.sint k (.bin .xor k (.n (if k.signed then -1 else k.max)) n))
  | _, _ => none

def bytesOf (l : List IV) : Option (List UInt8) :=
  @List.rec IV (fun _ => Option (List UInt8)) (some []) (fun v _ ih => match v with
    | .int .u8 n => ob ih fun l => some (UInt8.ofNat n.toNat :: l)
    | _ => none) l
/-- a text out of bytes of which only the form may be known -/
def bytesT (l : List IV) : Option SE :=
  @List.rec IV (fun _ => Option SE) (some (.lit [])) (fun v _ ih => match v with
    | .int .u8 n => ob ih fun l => some (tCat (tChr (.n n)) l)
    | .sint .u8 n => ob ih fun l => some (tCat (tChr n) l)
    | _ => none) l
def textOf (l : List IV) : Option IV := @Option.rec (List UInt8) (fun _ => Option IV) (ob (bytesT l) fun t => some (.sstr t)) (fun s => some (.str s)) (bytesOf l)
def ofBytes (l : List UInt8) : List IV :=
  @List.rec UInt8 (fun _ => List IV) [] (fun b _ ih => .int .u8 b.toNat :: ih) l
def convertD (h : H) (src dst : TypeId) (x : IV) : Option (IV × H) :=
  ob (P.underlying dst) fun d => match d, x with
  | .int k, .int _ n => match P.underlying src with
    | some _ => some (.int k (k.wrap n), h)
    | none => none
  | .int k, .sint _ n => match P.underlying src with
    | some _ => some (.sint k (.wrap k n), h)
    | none => none
  | .string, .str s => match P.underlying src with
    | some _ => some (.str s, h)
    | none => none
  | .slice e, .str s => match P.underlying src, P.underlying e with
    | some .string, some (.int .u8) => ob (size P e) fun sz => @Bool.rec (fun _ => Option (IV × H)) none (@Bool.rec (fun _ => Option (IV × H)) none
        (some (.slice h.next 0 s.length loose, h.new (.cells e s.length [] (listT (ofBytes s) 0 .nil) 1))) (Nat.ble s.length 9223372036854775807)) (Nat.beq sz 1)
    | _, _ => none
  | .string, .nilSlice => match P.underlying src with
    | some (.slice e) => match P.underlying e with
      | some (.int .u8) => some (.str [], h)
      | _ => none
    | _ => none
  | .string, .slice b o n _ => match P.underlying src with
    | some (.slice e) => match P.underlying e with
      | some (.int .u8) => ob (h.m.get b) fun x => ob (loadN x o n) fun l => ob (textOf l) fun s => some (s, h)
      | _ => none
    | _ => none
  | .string, .sstr s => match P.underlying src with
    | some _ => some (.sstr s, h)
    | none => none
  | .slice e, .sstr s => match P.underlying src, P.underlying e, less h.asm (tLen s) (.n 1000000) with
    | some .string, some (.int .u8), true => ob (size P e) fun sz => @Bool.rec (fun _ => Option (IV × H)) none
        (some (.sslice h.next 1 (.n 0) (tLen s) (.n 9223372036854775808), h.new (.rows e 1 [.int .u8 0] (tBytes s) 1))) (Nat.beq sz 1)
    | _, _, _ => none
  | _, _ => none

def bound (x : IV) (y : Nat) : Option Nat := match x with
  | .int _ (.ofNat i) => match Nat.ble i y with
    | true => some i
    | false => none
  | _ => none
def optBound (x : Option IV) (y d : Nat) : Option Nat := match x with
  | some v => bound v y
  | none => some d

/-- where a part of a row begins: at its end the base stays -/
def begins (m l o sz : Nat) : Nat := match Nat.beq m l with
  | true => o
  | false => o + l * sz
/-- a slice of a known capacity -/
def exactD (b o l c : Nat) : Option IV := match Nat.blt c loose with
  | true => some (.slice b o l c)
  | false => none
/-- a bound: what it is; what it is, if it is left out -/
def optT (x : Option IV) (d : SE) : Option SE := match x with
  | some v => toSI v
  | none => some d
/-- a part of a text of which only the form is known -/
def subS (asm : Asm) (t : SE) (lo hi : Option IV) : Option IV :=
  ob (optT hi (tLen t)) fun hh => ob (optT lo (.n 0)) fun l => match nonneg asm l, leq asm l hh, leq asm hh (tLen t) with
    | true, true, true => some (.sstr (tSub t l hh))
    | _, _, _ => none
/-- is a row's length within its room? -/
def capOK (h : H) (b sz : Nat) (o l c : SE) : Bool := match eqSE c (.n 9223372036854775808) with
  | true => match h.m.get b with
    | some (.rows _ sz' _ r md) => match Nat.beq sz sz', Nat.beq md 1 with
      | true, true => leq h.asm (tAdd o l) (tRows r)
      | _, _ => false
    | _ => false
  | false => match less h.asm c (.n 9223372036854775808) with
    | true => leq h.asm l c
    | false => false
/-- a part of rows of which only the form is known -/
def subR (h : H) (b sz : Nat) (o l c : SE) (lo hi mx : Option IV) : Option IV :=
  ob (optT hi l) fun hh => ob (optT lo (.n 0)) fun x => match capOK h b sz o l c, nonneg h.asm x, leq h.asm x hh, leq h.asm hh l with
    | true, true, true, true => match mx with
      | none => match (isZ x || less h.asm x l) with
        | true => match eqSE c (.n 9223372036854775808) with
          | true => some (.sslice b sz (tAdd o x) (tMinus hh x) (.n 9223372036854775808))
          | false => some (.sslice b sz (tAdd o x) (tMinus hh x) (tMinus c x))
        | false => none
      | some m => ob (toSI m) fun m => match leq h.asm hh m, leq h.asm m l, (isZ x || less h.asm x m), less h.asm m (.n 9223372036854775808) with
        | true, true, true, true => match hi with
          | some _ => some (.sslice b sz (tAdd o x) (tMinus hh x) (tMinus m x))
          | none => none
        | _, _, _, _ => none
    | _, _, _, _ => none
def sliceD (h : H) (t : TypeId) (x : IV) (lo hi mx : Option IV) : Option IV :=
  ob (P.underlying t) fun u => match u, x with
  | .string, .sstr s => match mx with
    | some _ => none
    | none => subS h.asm s lo hi
  | .slice e, .sslice b sz o l c => ob (size P e) fun z => match Nat.beq z sz with
    | true => subR h b sz o l c lo hi mx
    | false => none
  | .string, .str s => match mx with
    | some _ => none
    | none => @Option.rec IV (fun _ => Option IV) (subS h.asm (.lit s) lo hi) (fun v => some v) (ob (optBound hi s.length s.length) fun hh => ob (optBound lo hh 0) fun l => some (.str ((s.take hh).drop l)))
  | .slice e, .slice b o len cap => ob (size P e) fun sz =>
    match Nat.beq cap loose, mx with
    | true, mx => ob (h.m.get b) fun blk => match blk with
      | .cells e' n _ _ md => match Nat.beq md 1, Nat.beq e' e, Nat.ble (o + len * sz) n with
        | true, true, true => match mx with
          | none => ob (optBound hi len len) fun hh => ob (optBound lo hh 0) fun l =>
            match Nat.beq l 0, Nat.blt l len with
            | true, _ => some (.slice b (o + l * sz) (hh - l) loose)
            | false, true => some (.slice b (o + l * sz) (hh - l) loose)
            | false, false => none
          | some mv => ob (bound mv len) fun m => match hi with
            | none => none
            | some hv => ob (bound hv m) fun hh => ob (optBound lo hh 0) fun l => exactD b (begins m l o sz) (hh - l) (m - l)
        | _, _, _ => none
      | _ => none
    | false, some mv => ob (bound mv cap) fun m => match hi with
      | none => none
      | some hv => ob (bound hv m) fun hh => ob (optBound lo hh 0) fun l => exactD b (begins m l o sz) (hh - l) (m - l)
    | false, none => ob (optBound hi cap len) fun hh => ob (optBound lo hh 0) fun l => exactD b (begins cap l o sz) (hh - l) (cap - l)
  | .slice e, .nilSlice => ob (size P e) fun _ => match mx with
    | none => ob (optBound hi 0 0) fun hh => ob (optBound lo hh 0) fun _ => some .nilSlice
    | some mv => match hi with
      | none => none
      | some hv => ob (bound mv 0) fun m => ob (bound hv m) fun hh => ob (optBound lo hh 0) fun _ => some .nilSlice
  | .array n e, .ptr b o => match mx with
    | some _ => none
    | none => ob (size P e) fun sz => ob (optBound hi n n) fun hh => ob (optBound lo hh 0) fun l => exactD b (begins n l o sz) (hh - l) (n - l)
  | _, _ => none

/-- within: not below nought, below that -/
def inB (asm : Asm) (i l : SE) : Bool := @Bool.rec (fun _ => Bool) false (less asm i l) (nonneg asm i)
/-- which of some numbers a term is granted to be -/
def whichN (asm : Asm) (i : SE) (n : Nat) : Option Nat := @Nat.rec (fun _ => Option Nat) none (fun k ih => match asm .eq i (.n (.ofNat k)) with
  | some true => some k
  | _ => ih) n
def indexAddrS (asm : Asm) (t : TypeId) (x ix : IV) : Option IV := ob (toSI ix) fun i => ob (P.underlying t) fun u => match u, x with
  | .slice e, .sslice b sz o l _ => ob (size P e) fun z => match Nat.beq z sz, inB asm i l with
    | true, true => some (.sptr b sz (tAdd o i) 0)
    | _, _ => none
  | .slice e, .slice b o len _ => ob (whichN asm i len) fun k => ob (size P e) fun sz => some (.ptr b (o + k * sz))
  | .array len e, .ptr b o => ob (whichN asm i len) fun k => ob (size P e) fun sz => some (.ptr b (o + k * sz))
  | _, _ => none
def indexS (asm : Asm) (t : TypeId) (x ix : IV) : Option IV := ob (toSI ix) fun i => ob (P.underlying t) fun u => match u with
  | .string => ob (toSS x) fun s => match inB asm i (tLen s) with
    | true => some (.sint .u8 (tByte s i))
    | false => none
  | _ => none
def indexAddrD (t : TypeId) (x ix : IV) : Option IV :=
  match ix with
  | .int _ (.ofNat i) => ob (P.underlying t) fun u => match u, x with
    | .array len e, .ptr b o => match Nat.blt i len with
      | true => ob (size P e) fun sz => some (.ptr b (o + i * sz))
      | false => none
    | .slice e, .slice b o len _ => match Nat.blt i len with
      | true => ob (size P e) fun sz => some (.ptr b (o + i * sz))
      | false => none
    | _, _ => none
  | _ => none
def indexD (t : TypeId) (x ix : IV) : Option IV :=
  match ix with
  | .int _ (.ofNat i) => ob (P.underlying t) fun u => match u, x with
    | .string, .str s => ob s[i]? fun b => some (.int .u8 b.toNat)
    | .array len e, .agg cs => match Nat.blt i len with
      | true => ob (size P e) fun sz => part P e cs (i * sz)
      | false => none
    | _, _ => none
  | _ => none
def fieldD (t : TypeId) (f : Nat) : Option Field := match P.underlying t with
  | some (.struct fs) => fs[f]?
  | _ => none

def lenD (h : H) (t : TypeId) (x : IV) : Option IV := ob (P.underlying t) fun u => match u, x with
  | .string, .str s => some (.int .i64 s.length)
  | .string, .sstr t => some (.sint .i64 (tLen t))
  | .slice _, .slice _ _ n _ => some (.int .i64 n)
  | .slice _, .sslice _ _ _ l _ => some (.sint .i64 l)
  | .slice _, .nilSlice => some (.int .i64 0)
  | .map _ _, .nilMap => some (.int .i64 0)
  | .map _ _, .map b => ob (h.m.get b) fun x => match x with
    | .map es => some (.int .i64 es.length)
    | _ => none
  | _, _ => none
def firstCells (h : H) (sz n : Nat) : IV → Option (List IV)
  | .nilSlice => match n with
    | 0 => some []
    | _ => none
  | .slice b o _ _ => ob (h.m.get b) fun x => loadN x o (n * sz)
  | .str s => @Bool.rec (fun _ => Option (List IV)) none (some (ofBytes (s.take n))) (Nat.beq sz 1)
  | _ => none
def lenOf : IV → Option Nat
  | .nilSlice => some 0
  | .slice _ _ n _ => some n
  | .str s => some s.length
  | _ => none
def zeros (z : List IV) (n : Nat) : List IV := @Nat.rec (fun _ => List IV) [] (fun _ ih => z ++ ih) n
/-- what is appended: how many elements, their cells -/
def appendedD (h : H) (e : TypeId) (i : TypeInfo) (t : TypeId) (x : IV) : Option (Nat × List IV) := ob (P.underlying t) fun u => match u, x with
  | .int _, .int _ (.ofNat l) => match Nat.ble l 1000000, Nat.ble (l * i.bytes) 140737488355328 with
    | true, true => ob (zero P e) fun z => match Nat.beq z.cells.length i.size with
      | true => some (l, zeros z.cells l)
      | false => none
    | _, _ => none
  | .slice _, x => ob (lenOf x) fun n => ob (firstCells h i.size n x) fun cs => some (n, cs)
  | .string, x => ob (lenOf x) fun n => ob (firstCells h i.size n x) fun cs => some (n, cs)
  | _, _ => none
def fits (i : TypeInfo) (m : Nat) : Bool := @Bool.rec (fun _ => Bool) false (Nat.ble m 9223372036854775807) (Nat.ble (m * i.bytes) 140737488355328)
def rowStep (f : Form) (ih : Nat → List IV → SE → Option SE) (n : Nat) (cs : List IV) (acc : SE) : Option SE := match f, cs with
  | .int k j, .int k' z :: r => match Nat.beq j n, Nat.beq (kindN k) (kindN k') with
    | true, true => ih (n + 1) r (tRow acc (.n z))
    | _, _ => none
  | .int k j, .sint k' z :: r => match Nat.beq j n, Nat.beq (kindN k) (kindN k') with
    | true, true => ih (n + 1) r (tRow acc z)
    | _, _ => none
  | .str j, .str s :: r => match Nat.beq j n with
    | true => ih (n + 1) r (tRow acc (.lit s))
    | _ => none
  | .str j, .sstr s :: r => match Nat.beq j n with
    | true => ih (n + 1) r (tRow acc s)
    | _ => none
  | .slc b sz jo jl, .sslice b' sz' o l c :: r => match Nat.beq b b', Nat.beq sz sz', Nat.beq jo n, Nat.beq jl (n + 1), eqSE l c with
    | true, true, true, true, true => ih (n + 2) r (tRow (tRow acc o) l)
    | _, _, _, _, _ => none
  | .any, v :: r => match one v with
    | true => ih (n + 1) r (tRow acc (.n 0))
    | false => none
  | _, _ => none
/-- do cells fit a row's forms (its columns in order)? the row. -/
def rowT (fs : List Form) : Nat → List IV → SE → Option SE :=
  @List.rec Form (fun _ => Nat → List IV → SE → Option SE) (fun _ cs acc => match cs with
    | [] => some acc
    | _ => none) (fun f _ ih => rowStep f ih) fs
/-- one row more -/
def appendS (h : H) (e : TypeId) (i : TypeInfo) (b sz : Nat) (o l c : SE) (n : Nat) (new : List IV) : Option (IV × H) :=
  match Nat.beq n 1, isZ o, eqSE c (.n 9223372036854775808), Nat.beq sz i.size with
  | true, true, true, true => ob (h.m.get b) fun x => match x with
    | .rows e' sz' fs r md => match Nat.beq md 1, Nat.beq e' e, Nat.beq sz' sz, eqSE l (tRows r) with
      | true, true, true, true => match Nat.ble i.bytes 1000, less h.asm l (.n 1000000) with
        | true, true => ob (rowT fs 0 new tRow0) fun row => some (.sslice h.next sz (.n 0) (tRows (tCatR r row)) (.n 9223372036854775808), ⟨h.next + 1, (h.m.del b).put h.next (.rows e sz fs (tCatR r row) 1), h.asm⟩)
        | _, _ => none
      | _, _, _, _ => none
    | _ => none
  | _, _, _, _ => none
/-- nothing, and rows behind it: a copy -/
def emptyS : IV → Bool
  | .nilSlice => true
  | .slice _ _ l c => Nat.beq l 0 && Nat.beq c 0
  | _ => false
def appendC (h : H) (e : TypeId) (i : TypeInfo) (s : IV) (b sz : Nat) (o l : SE) : Option (IV × H) :=
  match emptyS s, isZ o, Nat.beq sz i.size with
  | true, true, true => ob (h.m.get b) fun x => match x with
    | .rows e' sz' fs r md => match Nat.beq md 1, Nat.beq e' e, Nat.beq sz' sz, eqSE l (tRows r) with
      | true, true, true, true => match Nat.ble i.bytes 1000, less h.asm l (.n 1000000), less h.asm (.n 0) l with
        | true, true, true => some (.sslice h.next sz (.n 0) l (.n 9223372036854775808), h.new (.rows e sz fs r 1))
        | _, _, _ => none
      | _, _, _, _ => none
    | _ => none
  | _, _, _ => none
def isSS : IV → Bool
  | .sslice .. => true
  | _ => false
def appendX (h : H) (t t2 : TypeId) (s x : IV) : Option (IV × H) :=
  ob (P.underlying t) fun u => match u with
  | .slice e => ob (P.info? e) fun i => ob (zero P e) fun zz => match Nat.beq zz.cells.length i.size with
    | false => none
    | true => ob (P.underlying t2) fun u2 => match u2, x with
      | .slice _, .sslice b sz o l c => appendC h e i s b sz o l
      | _, _ => none
  | _ => none
def appendD (h : H) (t t2 : TypeId) (s x : IV) : Option (IV × H) := @Bool.rec (fun _ => Option (IV × H))
  (ob (P.underlying t) fun u => match u with
  | .slice e => ob (P.info? e) fun i => ob (zero P e) fun zz => ob (appendedD P h e i t2 x) fun (n, new) =>
    match Nat.beq zz.cells.length i.size with
    | false => none
    | true => match s with
    | .sslice b sz o l c => appendS h e i b sz o l c n new
    | .nilSlice => match n with
      | 0 => some (.nilSlice, h)
      | _ => match fits i n, Nat.blt 0 i.size with
        | true, true => some (.slice h.next 0 n loose, h.new (.cells e (n * i.size) [] (listT new 0 .nil) 1))
        | _, _ => none
    | .slice b o len cap => match Nat.beq cap loose with
      | true => ob (h.m.get b) fun blk => match blk with
        | .cells e' m z t md => match Nat.beq md 1, Nat.beq o 0, Nat.beq (len * i.size) m, Nat.beq e' e with
          | true, true, true, true => match fits i (len + n), Nat.blt 0 i.size with
            | true, true => ob (storeT (m + n * i.size) new t m) fun t => some (.slice h.next 0 (len + n) loose, ⟨h.next + 1, (h.m.del b).put h.next (.cells e (m + n * i.size) z t 1), h.asm⟩)
            | _, _ => none
          | _, _, _, _ => none
        | _ => none
      | false => match Nat.ble (len + n) cap with
        | true => match n * i.size with
          | 0 => some (.slice b o (len + n) cap, h)
          | _ => ob (h.store b (o + len * i.size) new) fun h => some (.slice b o (len + n) cap, h)
        | false => match fits i (len + n), Nat.blt 0 i.size with
          | true, true => ob (firstCells h i.size len s) fun old => some (.slice h.next 0 (len + n) loose, h.new (.cells e ((len + n) * i.size) [] (listT (old ++ new) 0 .nil) 1))
          | _, _ => none
    | _ => none
  | _ => none) (appendX P h t t2 s x) (isSS x)
def copyD (h : H) (t : TypeId) (d s : IV) : Option (IV × H) :=
  ob (P.underlying t) fun u => match u with
  | .slice e => ob (size P e) fun sz => ob (lenOf s) fun ls => match d with
    | .nilSlice => some (.int .i64 0, h)
    | .slice b o ld _ => ob (firstCells h sz (Nat.min ls ld) s) fun cs => match cs with
      | [] => some (.int .i64 (Nat.min ls ld), h)
      | _ => ob (h.store b o cs) fun h => some (.int .i64 (Nat.min ls ld), h)
    | _ => none
  | _ => none
def clearD (h : H) (t : TypeId) (x : IV) : Option H :=
  ob (P.underlying t) fun u => match u, x with
  | .slice _, .nilSlice => some h
  | .slice e, .slice b o n _ => match n with
    | 0 => some h
    | _ => ob (zero P e) fun z => h.store b o (zeros z.cells n)
  | _, _ => none

def fillL (cs : List IV) : Nat → List IV → Option (List IV) :=
  @List.rec IV (fun _ => Nat → List IV → Option (List IV)) (fun _ vs => @List.rec IV (fun _ => Option (List IV)) (some []) (fun _ _ _ => none) vs)
    (fun c cs ih n vs => @List.rec IV (fun _ => Option (List IV)) (some (c :: cs))
      (fun v r _ => @Nat.rec (fun _ => Option (List IV)) (ob (ih 0 r) fun l => some (v :: l)) (fun m _ => ob (ih m (v :: r)) fun l => some (c :: l)) n) vs) cs
def buildStruct (fs : Array Field) (l : List (Nat × IV)) : List IV → Option (List IV) :=
  @List.rec (Nat × IV) (fun _ => List IV → Option (List IV)) (fun cs => some cs) (fun p _ ih cs => ob fs[p.1]? fun f => ob (size P f.type) fun n =>
    @Nat.rec (fun _ => Option (List IV)) none (fun _ _ => @Bool.rec (fun _ => Option (List IV)) none (ob (fillL cs f.offset p.2.cells) ih) (Nat.beq p.2.cells.length n)) n) l
def sizesD (fs : List Field) : Bool :=
  @List.rec Field (fun _ => Bool) true (fun f _ ih => @Option.rec Nat (fun _ => Bool) false (fun _ => ih) (size P f.type)) fs
def buildArr (sz : Nat) (l : List (Nat × IV)) : List IV → Option (List IV) :=
  @List.rec (Nat × IV) (fun _ => List IV → Option (List IV)) (fun cs => some cs) (fun p _ ih cs =>
    @Nat.rec (fun _ => Option (List IV)) none (fun _ _ => @Bool.rec (fun _ => Option (List IV)) none (ob (fillL cs (p.1 * sz) p.2.cells) ih) (Nat.beq p.2.cells.length sz)) sz) l
def hasM (name : String) (sig : TypeId) (l : List Method) : Bool := @List.rec Method (fun _ => Bool) false (fun m _ ih => @Bool.rec (fun _ => Bool) ih (@Bool.rec (fun _ => Bool) ih true (m.name == name)) (Nat.beq m.sig sig)) l
def lacks (want : List (String × TypeId)) (got : List Method) : Bool := @List.rec (String × TypeId) (fun _ => Bool) false (fun p _ ih => @Bool.rec (fun _ => Bool) true ih (hasM p.1 p.2 got)) want
def assertD (x : IV) (asserted : TypeId) : Option (Option IV) :=   -- none: cannot be told; some none: it does not hold
  ob (P.underlying asserted) fun u => match u, x with
  | .interface _, .nilIface => some none
  | .interface want, .iface t v => ob (P.info? t) fun i => match lacks want.toList i.methods.toList with
    | false => some (some (.iface t v))
    | true => some none
  | _, .nilIface => some none
  | _, .iface t v => match Nat.beq t asserted with
    | true => some (some v)
    | false => some none
  | _, _ => none

def findKey (k : List UInt8) (l : List (IV × IV)) : Option (Option IV) :=
  @List.rec (IV × IV) (fun _ => Option (Option IV)) (some none) (fun p _ ih => match p.1 with
    | .str y => @Bool.rec (fun _ => Option (Option IV)) ih (some (some p.2)) (eqU k y)
    | _ => none) l
def putKey (k : List UInt8) (v : IV) (l : List (IV × IV)) : Option (List (IV × IV)) :=
  @List.rec (IV × IV) (fun _ => Option (List (IV × IV))) (some [(.str k, v)]) (fun p r ih => match p.1 with
    | .str y => @Bool.rec (fun _ => Option (List (IV × IV))) (ob ih fun l => some (p :: l)) (some ((p.1, v) :: r)) (eqU k y)
    | _ => none) l
def lookupD (h : H) (t : TypeId) (x k : IV) (ok : Bool) : Option IV :=
  match P.underlying t, k with
  | some (.map kt e), .str k => match P.underlying kt with
    | some .string =>
      ob (match x with
        | .nilMap => some []
        | .map b => ob (h.m.get b) fun x => match x with
          | .map es => some es
          | _ => none
        | _ => none) fun es => ob (findKey k es) fun r => match r with
        | some v => match ok with
          | true => some (.tuple [v, .bool true])
          | false => some v
        | none => ob (zero P e) fun z => match ok with
          | true => some (.tuple [z, .bool false])
          | false => some z
    | _ => none
  | _, _ => none

/-! ### 4. Operations -/
def ev (tm : Tm) (x : Operand) : Option IV :=
  @Operand.rec (fun _ => Option IV) (fun t => tm.get t) (fun v => ofValue v) (fun g => @Bool.rec (fun _ => Option IV) none (some (.ptr g 0)) (Nat.blt g P.globals.size)) (fun f => some (.func (.func f) [] [])) x
def evs (tm : Tm) (l : List Operand) : Option (List IV) :=
  @List.rec Operand (fun _ => Option (List IV)) (some []) (fun x _ ih => ob (ev P tm x) fun a => ob ih fun l => some (a :: l)) l
def evo (tm : Tm) : Option Operand → Option (Option IV)
  | none => some none
  | some x => ob (ev P tm x) fun a => some (some a)
def evp (tm : Tm) (l : List (Nat × Operand)) : Option (List (Nat × IV)) :=
  @List.rec (Nat × Operand) (fun _ => Option (List (Nat × IV))) (some []) (fun p _ ih => ob (ev P tm p.2) fun a => ob ih fun l => some ((p.1, a) :: l)) l
/-- What an operation comes to: a value and memory, or a call. -/
inductive Out where
  | val (v : IV) (h : H)
  | call (f : FuncId) (args : List IV)

def undefIV : IV := .tuple []

def callD (tm : Tm) (h : H) (c : Call) : Option Out :=
  ob (evs P tm c.args.toList) fun args => match c.callee with
  | .builtin b => match b, args with
    | .len, [x] => ob c.argTypes[0]? fun t => ob (lenD P h t x) fun v => some (.val v h)
    | .append, [s, x] => ob c.argTypes[0]? fun t => ob c.argTypes[1]? fun t2 => ob (appendD P h t t2 s x) fun (v, h) => some (.val v h)
    | .copy, [s, x] => ob c.argTypes[0]? fun t => ob (copyD P h t s x) fun (v, h) => some (.val v h)
    | .clear, [x] => ob c.argTypes[0]? fun t => ob (clearD P h t x) fun h => some (.val undefIV h)
    | .max, [.int k a, .int _ b] => some (.val (.int k (match leZ b a with | true => a | false => b)) h)
    | .max, [.int k a, .sint _ b] => ob (h.asm .le b (.n a)) fun r => some (.val (match r with | true => .int k a | false => .sint k b) h)
    | .max, [.sint k a, .int _ b] => ob (h.asm .le (.n b) a) fun r => some (.val (match r with | true => .sint k a | false => .int k b) h)
    | .min, [.int k a, .sint _ b] => ob (h.asm .le (.n a) b) fun r => some (.val (match r with | true => .int k a | false => .sint k b) h)
    | .min, [.sint k a, .int _ b] => ob (h.asm .le a (.n b)) fun r => some (.val (match r with | true => .sint k a | false => .int k b) h)
    | .max, [.sint k a, .sint _ b] => ob (h.asm .le b a) fun r => some (.val (.sint k (match r with | true => a | false => b)) h)
    | .min, [.sint k a, .sint _ b] => ob (h.asm .le a b) fun r => some (.val (.sint k (match r with | true => a | false => b)) h)
    | .min, [.int k a, .int _ b] => some (.val (.int k (match leZ a b with | true => a | false => b)) h)
    | _, _ => none
  | .value f => ob (ev P tm f) fun g => match g with
    | .func (.func f) first caps => some (.call f (first ++ args ++ caps))
    | _ => none
  | .invoke r name => ob (ev P tm r) fun x => match x with
    | .iface t v => ob (P.info? t) fun i => ob (i.methods.find? (fun m => m.name == name)) fun m => match m.path.isEmpty, m.func with
      | true, some (f, true) => match P.underlying t, v with
        | some (.pointer _), .ptr b o => some (.call f (.ptr b o :: args))
        | _, _ => none
      | true, some (f, false) => match P.underlying t with
        | some (.int _) => some (.call f (v :: args))
        | some (.struct _) => some (.call f (v :: args))
        | _ => none
      | _, _ => none
    | _ => none

def doMove (tm : Tm) (h : H) (x : Operand) : Option Out :=
  ob (ev P tm x) fun v => some (.val v h)
def doAssign (tm : Tm) (h : H) (x : Operand) : Option Out :=
  ob (ev P tm x) fun v => some (.val v h)
def doPick (tm : Tm) (h : H) (c : Operand) (a : Operand) (b : Operand) : Option Out :=
  ob (ev P tm c) fun c => match c with
    | .bool true => ob (ev P tm a) fun v => some (.val v h)
    | .bool false => ob (ev P tm b) fun v => some (.val v h)
    | _ => none
def doAlloc (tm : Tm) (h : H) (e : TypeId) : Option Out :=
  ob (zero P e) fun z => some (.val (.ptr h.next 0) (h.new (.cells e z.cells.length [] (listT z.cells 0 .nil) 0)))
def doBox (tm : Tm) (h : H) (e : TypeId) (x : Operand) : Option Out :=
  ob (ev P tm x) fun v => some (.val (.ptr h.next 0) (h.new (.cells e v.cells.length [] (listT v.cells 0 .nil) 0)))
def doBuild (tm : Tm) (h : H) (t : TypeId) (parts : Array (Nat × Operand)) : Option Out :=
  ob (zero P t) fun z => ob (evp P tm parts.toList) fun ps => match P.underlying t with
    | some (.struct fs) => @Bool.rec (fun _ => Option Out) none (ob (buildStruct P fs ps z.cells) fun cs => some (.val (.agg cs) h)) (sizesD P fs.toList)
    | some (.array _ e) => ob (size P e) fun sz => ob (buildArr sz ps z.cells) fun cs => some (.val (.agg cs) h)
    | _ => none
def doBuildSlice (tm : Tm) (h : H) (t : TypeId) (len : Nat) (parts : Array (Nat × Operand)) : Option Out :=
  match P.underlying t with
    | some (.slice e) => ob (size P e) fun sz => ob (zero P e) fun z => ob (evp P tm parts.toList) fun ps => ob (buildArr sz ps (zeros z.cells len)) fun cs =>
      match Nat.ble (len * sz) 16777216, Nat.beq z.cells.length sz, Nat.blt len loose with
      | true, true, true => some (.val (.slice h.next 0 len len) (h.new (.cells e (len * sz) [] (listT cs 0 .nil) 0)))
      | _, _, _ => none
    | _ => none
def doLoad (tm : Tm) (h : H) (t : TypeId) (a : Operand) : Option Out :=
  ob (ev P tm a) fun p => match p with
    | .ptr b o => ob (loadVar P h t b o) fun v => some (.val v h)
    | .sptr b sz i j => ob (loadVarS P h t b sz i j) fun v => some (.val v h)
    | _ => none
def doStore (tm : Tm) (h : H) (t : TypeId) (a : Operand) (x : Operand) : Option Out :=
  ob (ev P tm a) fun p => match p with
    | .ptr b o => ob (ev P tm x) fun v => ob (size P t) fun n => match Nat.beq v.cells.length n with
      | true => match v.cells with
        | [] => some (.val undefIV h)
        | cs => ob (h.store b o cs) fun h => some (.val undefIV h)
      | false => none
    | _ => none
def doNilCheck (tm : Tm) (h : H) (x : Operand) : Option Out :=
  ob (ev P tm x) fun v => match v with
    | .ptr b o => some (.val (.ptr b o) h)
    | .sptr b sz i j => some (.val (.sptr b sz i j) h)
    | .func (.func f) a c => some (.val (.func (.func f) a c) h)
    | _ => none
def doBinOp (tm : Tm) (h : H) (op : BinOp) (t : TypeId) (x : Operand) (y : Operand) : Option Out :=
  ob (ev P tm x) fun a => ob (ev P tm y) fun b => match eqGuardD P op t x y a b with
    | true => ob (binOpD P h.asm op t a b) fun v => some (.val v h)
    | false => none
def doUnOp (tm : Tm) (h : H) (op : UnOp) (x : Operand) : Option Out :=
  ob (ev P tm x) fun a => ob (unOpD op a) fun v => some (.val v h)
def doConvert (tm : Tm) (h : H) (s : TypeId) (d : TypeId) (x : Operand) : Option Out :=
  ob (ev P tm x) fun a => ob (convertD P h s d a) fun (v, h) => some (.val v h)
def doSliceToArrayPointer (tm : Tm) (h : H) (arr : TypeId) (x : Operand) : Option Out :=
  ob (ev P tm x) fun a => match P.underlying arr, a with
    | some (.array n _), .slice b o len _ => match Nat.ble n len with
      | true => some (.val (.ptr b o) h)
      | false => none
    | _, _ => none
def doMakeInterface (tm : Tm) (h : H) (t : TypeId) (x : Operand) : Option Out :=
  match P.underlying t with
    | some (.interface _) => none
    | none => none
    | _ => ob (ev P tm x) fun v => some (.val (.iface t v) h)
def doMakeFunc (tm : Tm) (h : H) (fn : Fn) (first : Array Operand) (caps : Array Operand) : Option Out :=
  ob (evs P tm first.toList) fun a => ob (evs P tm caps.toList) fun c => some (.val (.func fn a c) h)
def doMakeMap (tm : Tm) (h : H) (r : Option Operand) : Option Out :=
  match r with
    | none => some (.val (.map h.next) (h.new (.map [])))
    | some _ => none
def doMakeSlice (tm : Tm) (h : H) (t : TypeId) (l : Operand) (c : Operand) : Option Out :=
  match P.underlying t with
    | some (.slice e) => ob (ev P tm l) fun l => ob (ev P tm c) fun c => match l, c with
      | .int _ (.ofNat l), .int _ (.ofNat c) => match Nat.ble l c, Nat.ble c 1000000 with
        | true, true => ob (P.info? e) fun i => ob (zero P e) fun z => match Nat.ble i.bytes 1000000, Nat.beq z.cells.length i.size with
          | true, true => some (.val (.slice h.next 0 l c) (h.new (.cells e (c * i.size) z.cells .nil 0)))
          | _, _ => none
        | _, _ => none
      | _, _ => none
    | _ => none
def doSlice (tm : Tm) (h : H) (t : TypeId) (x : Operand) (lo : Option Operand) (hi : Option Operand) (mx : Option Operand) : Option Out :=
  ob (ev P tm x) fun a => ob (evo P tm lo) fun lo => ob (evo P tm hi) fun hi => ob (evo P tm mx) fun mx => ob (sliceD P h t a lo hi mx) fun v => some (.val v h)
def doFieldAddr (tm : Tm) (h : H) (s : TypeId) (x : Operand) (f : Nat) : Option Out :=
  ob (ev P tm x) fun p => match p with
    | .ptr b o => ob (fieldD P s f) fun fd => ob (size P fd.type) fun n => @Nat.rec (fun _ => Option Out) none (fun _ _ => some (.val (.ptr b (o + fd.offset)) h)) n
    | .sptr b sz i j => ob (fieldD P s f) fun fd => ob (size P fd.type) fun n => @Nat.rec (fun _ => Option Out) none (fun _ _ => some (.val (.sptr b sz i (j + fd.offset)) h)) n
    | _ => none
def doField (tm : Tm) (h : H) (s : TypeId) (x : Operand) (f : Nat) : Option Out :=
  ob (ev P tm x) fun a => match a with
    | .agg cs => ob (fieldD P s f) fun fd => ob (part P fd.type cs fd.offset) fun v => some (.val v h)
    | _ => none
def doIndexAddr (tm : Tm) (h : H) (t : TypeId) (x : Operand) (ix : Operand) : Option Out :=
  ob (ev P tm x) fun a => ob (ev P tm ix) fun i => ob (@Option.rec IV (fun _ => Option IV) (indexAddrS P h.asm t a i) (fun v => some v) (indexAddrD P t a i)) fun v => some (.val v h)
def doIndex (tm : Tm) (h : H) (t : TypeId) (x : Operand) (ix : Operand) : Option Out :=
  ob (ev P tm x) fun a => ob (ev P tm ix) fun i => ob (@Option.rec IV (fun _ => Option IV) (indexS P h.asm t a i) (fun v => some v) (indexD P t a i)) fun v => some (.val v h)
def doLookup (tm : Tm) (h : H) (t : TypeId) (x : Operand) (k : Operand) (ok : Bool) : Option Out :=
  ob (ev P tm x) fun a => ob (ev P tm k) fun k => ob (lookupD P h t a k ok) fun v => some (.val v h)
def doMapUpdate (tm : Tm) (h : H) (t : TypeId) (m : Operand) (k : Operand) (x : Operand) : Option Out :=
  ob (ev P tm m) fun m => ob (ev P tm k) fun k => ob (ev P tm x) fun x => match m, k with
    | .map b, .str k => match P.underlying t with
      | some (.map kt _) => match P.underlying kt with
        | some .string => ob (h.m.get b) fun blk => match blk with
          | .map es => ob (putKey k x es) fun es => some (.val undefIV (h.put b (.map es)))
          | _ => none
        | _ => none
      | _ => none
    | _, _ => none
def doRange (tm : Tm) (h : H) (t : TypeId) (x : Operand) : Option Out :=
  ob (ev P tm x) fun a => match P.underlying t, a with
    | some .string, .str s => some (.val (.ptr h.next 0) (h.new (.iter s 0)))
    | some .string, .sstr t => some (.val (.ptr h.next 0) (h.new (.siter t (.n 0))))
    | _, _ => none
def doNext (tm : Tm) (h : H) (it : Operand) (isStr : Bool) : Option Out :=
  match isStr with
    | true => ob (ev P tm it) fun p => match p with
      | .ptr b 0 => ob (h.m.get b) fun blk => match blk with
        | .iter s p => match s[p]? with
          | some c => match Nat.blt c.toNat 128 with
            | true => some (.val (.tuple [.bool true, .int .i64 p, .int .i32 c.toNat]) (h.put b (.iter s (p + 1))))
            | false => none
          | none => some (.val (.tuple [.bool false]) h)
        | .siter t p => match nonneg h.asm p with
          | true => ob (h.asm .lt p (tLen t)) fun x => match x with
            | true => match less h.asm (tByte t p) (.n 128) with
              | true => some (.val (.tuple [.bool true, .sint .i64 p, .sint .i32 (tByte t p)]) (h.put b (.siter t (tAdd p (.n 1)))))
              | false => none
            | false => some (.val (.tuple [.bool false]) h)
          | false => none
        | _ => none
      | _ => none
    | false => none
def doTypeAssert (tm : Tm) (h : H) (x : Operand) (t : TypeId) (ok : Bool) : Option Out :=
  ob (ev P tm x) fun a => ob (assertD P a t) fun r => match r, ok with
    | some v, true => some (.val (.tuple [v, .bool true]) h)
    | some v, false => some (.val v h)
    | none, true => ob (zero P t) fun z => some (.val (.tuple [z, .bool false]) h)
    | none, false => none
def doExtract (tm : Tm) (h : H) (t : Operand) (i : Nat) : Option Out :=
  ob (ev P tm t) fun a => match a with
    | .tuple vs => ob vs[i]? fun v => some (.val v h)
    | _ => none
def doCall (tm : Tm) (h : H) (c : Call) : Option Out :=
  callD P tm h c

def opDo (tm : Tm) (h : H) (op : Op) : Option Out :=
  match op with
  | .move x => doMove P tm h x
  | .assign x => doAssign P tm h x
  | .pick c a b => doPick P tm h c a b
  | .alloc e => doAlloc P tm h e
  | .box e x => doBox P tm h e x
  | .build t parts => doBuild P tm h t parts
  | .buildSlice t len parts => doBuildSlice P tm h t len parts
  | .load t a => doLoad P tm h t a
  | .store t a x => doStore P tm h t a x
  | .nilCheck x => doNilCheck P tm h x
  | .binOp op t x y _ => doBinOp P tm h op t x y
  | .unOp op _ x => doUnOp P tm h op x
  | .convert s d x => doConvert P tm h s d x
  | .sliceToArrayPointer arr x => doSliceToArrayPointer P tm h arr x
  | .makeInterface t x => doMakeInterface P tm h t x
  | .makeFunc fn first caps => doMakeFunc P tm h fn first caps
  | .makeMap _ r => doMakeMap tm h r
  | .makeSlice t l c => doMakeSlice P tm h t l c
  | .slice t x lo hi mx => doSlice P tm h t x lo hi mx
  | .fieldAddr s x f => doFieldAddr P tm h s x f
  | .field s x f => doField P tm h s x f
  | .indexAddr t x ix => doIndexAddr P tm h t x ix
  | .index t x ix => doIndex P tm h t x ix
  | .lookup t x k ok => doLookup P tm h t x k ok
  | .mapUpdate t m k x => doMapUpdate P tm h t m k x
  | .range t x => doRange P tm h t x
  | .next it isStr => doNext P tm h it isStr
  | .typeAssert x _ t ok => doTypeAssert P tm h x t ok
  | .extract t i => doExtract P tm h t i
  | .call c => doCall P tm h c
  | _ => none

/-! ### 5. Code -/
inductive Ex where
  | normal
  | exit (id : Nat)
  | ret

def wantedD (tm : Tm) (ops : Array Oper) (o : Oper) : Option Bool :=
  @Option.rec (Nat × Bool) (fun _ => Option Bool) (some true) (fun p => ob ops[p.1]? fun g => ob g.dst fun d => match tm.get d with
    | some (.bool b) => some (b == p.2)
    | some (.tuple []) => some false
    | _ => none) o.guard
def putD (tm : Tm) (sz : Nat) (d : Option Tmp) (v : IV) : Option Tm :=
  @Option.rec Tmp (fun _ => Option Tm) (some tm) (fun d => @Bool.rec (fun _ => Option Tm) none (some (tm.put d v)) (Nat.blt d sz)) d
abbrev CallFn := FuncId → List IV → H → Option (IV × H)

def stepOp (call : CallFn) (sz : Nat) (ops : Array Oper) (o : Oper) (next : Tm → H → Option (Tm × H)) (tm : Tm) (h : H) : Option (Tm × H) :=
  ob (wantedD tm ops o) fun w => @Bool.rec (fun _ => Option (Tm × H))
    (ob (putD tm sz o.dst undefIV) fun tm => next tm h)
    (ob (opDo P tm h o.op) fun x => @Out.rec (fun _ => Option (Tm × H)) (fun v h => ob (putD tm sz o.dst v) fun tm => next tm h)
      (fun f args => ob (call f args h) fun r => ob (putD tm sz o.dst r.1) fun tm => next tm r.2) x) w
def opsD (call : CallFn) (sz : Nat) (ops : Array Oper) (l : List Oper) : Tm → H → Option (Tm × H) :=
  @List.rec Oper (fun _ => Tm → H → Option (Tm × H)) (fun tm h => some (tm, h)) (fun o _ ih => stepOp P call sz ops o ih) l

/-! A region whose order is drawn: it is run in the order of its text; what any other order would see is looked at. -/
mutual
def eqIV : IV → IV → Bool
  | .int k n, .int k' n' => match Nat.beq (kindN k) (kindN k') with
    | true => eqZ n n'
    | false => false
  | .sint k n, .sint k' n' => match Nat.beq (kindN k) (kindN k') with
    | true => eqSE n n'
    | false => false
  | .optr i, .optr j => Nat.beq i j
  | .bool true, .bool true => true
  | .bool false, .bool false => true
  | .str a, .str b => eqU a b
  | .sstr a, .sstr b => eqSE a b
  | .sptr b z i j, .sptr b' z' i' j' => match Nat.beq b b', Nat.beq z z', Nat.beq j j' with
    | true, true, true => eqSE i i'
    | _, _, _ => false
  | .sslice b z o l c, .sslice b' z' o' l' c' => match Nat.beq b b', Nat.beq z z', eqSE o o', eqSE l l' with
    | true, true, true, true => eqSE c c'
    | _, _, _, _ => false
  | .ptr b o, .ptr b' o' => match Nat.beq b b' with
    | true => Nat.beq o o'
    | false => false
  | .nilPtr, .nilPtr => true
  | .slice b o l c, .slice b' o' l' c' => match Nat.beq b b', Nat.beq o o', Nat.beq l l' with
    | true, true, true => Nat.beq c c'
    | _, _, _ => false
  | .nilSlice, .nilSlice => true
  | .map b, .map b' => Nat.beq b b'
  | .nilMap, .nilMap => true
  | .func (.func f) a c, .func (.func f') a' c' => match Nat.beq f f', eqIVs a a' with
    | true, true => eqIVs c c'
    | _, _ => false
  | .nilFunc, .nilFunc => true
  | .iface t v, .iface t' v' => match Nat.beq t t' with
    | true => eqIV v v'
    | false => false
  | .nilIface, .nilIface => true
  | .agg l, .agg l' => eqIVs l l'
  | .tuple l, .tuple l' => eqIVs l l'
  | _, _ => false
def eqIVs : List IV → List IV → Bool
  | [], [] => true
  | a :: l, b :: r => match eqIV a b with
    | true => eqIVs l r
    | false => false
  | _, _ => false
end
/-- p: it looks at temporaries alone; l: it reads memory; a: it makes a block; x: it acts. -/
inductive Cls where
  | p | l | a | x
def cls (op : Op) : Cls := match op with
  | .alloc _ => .a
  | .box _ _ => .a
  | .buildSlice _ _ _ => .a
  | .makeMap _ _ => .a
  | .makeSlice _ _ _ => .a
  | .range _ _ => .a
  | .convert _ d _ => match P.underlying d with
    | some (.slice _) => .a
    | _ => .l
  | .load _ _ => .l
  | .slice _ _ _ _ _ => .l
  | .lookup _ _ _ _ => .l
  | .call c => match c.callee with
    | .builtin .len => .l
    | .builtin .max => .l
    | .builtin .min => .l
    | _ => .x
  | .store _ _ _ => .x
  | .mapUpdate _ _ _ _ => .x
  | .next _ _ => .x
  | _ => .p
def bit (m i : Nat) : Bool := Nat.beq (Nat.land (Nat.shiftRight m i) 1) 1
def edgeM (acc : T Nat) (e : Edge) (s : Nat) : Nat := match e.ground with
  | .textOnly _ => s
  | .gcOnly _ => s
  | _ => Nat.lor s (Nat.lor (Nat.shiftLeft 1 e.on) (@Option.rec Nat (fun _ => Nat) 0 (fun m => m) (acc.get e.on)))
def maskL (acc : T Nat) (l : List Edge) : Nat := @List.rec Edge (fun _ => Nat) 0 (fun e _ ih => edgeM acc e ih) l
/-- a reading: its place, what is before it, the temporaries, what it yielded -/
structure LR where
  i : Nat
  m : Nat
  tm : Tm
  op : Op
  v : IV
/-- an act: its place, what is before it, memory behind it -/
structure XR where
  i : Nat
  m : Nat
  g : H
structure DS where
  tm : Tm
  g : H
  acc : T Nat
  pend : List (Nat × Blk)
  xs : List XR
  ls : List LR
def matH (N m : Nat) (l : List (Nat × Blk)) (g : H) : H := @List.rec (Nat × Blk) (fun _ => H) g (fun p _ ih => @Bool.rec (fun _ => H) ih (ih.put (N + p.1) p.2) (bit m p.1)) l
def restP (m : Nat) (l : List (Nat × Blk)) : List (Nat × Blk) := @List.rec (Nat × Blk) (fun _ => List (Nat × Blk)) [] (fun p _ ih => @Bool.rec (fun _ => List (Nat × Blk)) (p :: ih) ih (bit m p.1)) l
def allH (N : Nat) (l : List (Nat × Blk)) (g : H) : H := @List.rec (Nat × Blk) (fun _ => H) g (fun p _ ih => ih.put (N + p.1) p.2) l
def xsBefore (m : Nat) (l : List XR) : Bool := @List.rec XR (fun _ => Bool) true (fun x _ ih => @Bool.rec (fun _ => Bool) false ih (bit m x.i)) l
def actD (call : CallFn) (tm : Tm) (g : H) (op : Op) : Option (IV × H) :=
  ob (opDo P tm g op) fun x => @Out.rec (fun _ => Option (IV × H)) (fun v h => some (v, h)) (fun f args => call f args g) x
def valD (tm : Tm) (g : H) (op : Op) : Option (IV × H) :=
  ob (opDo P tm g op) fun x => @Out.rec (fun _ => Option (IV × H)) (fun v h => some (v, h)) (fun _ _ => none) x
def drawStep (call : CallFn) (sz N : Nat) (A : Asm) (ops : Array Oper) (i : Nat) (o : Oper) (s : DS) : Option DS :=
  ob (wantedD s.tm ops o) fun w => @Bool.rec (fun _ => Option DS)
    (ob (putD s.tm sz o.dst undefIV) fun tm => some ⟨tm, s.g, s.acc.put i (maskL s.acc o.after.toList), s.pend, s.xs, s.ls⟩)
    (@Cls.rec (fun _ => Option DS)
      (ob (valD P s.tm ⟨0, .nil, A⟩ o.op) fun r => ob (putD s.tm sz o.dst r.1) fun tm => some ⟨tm, s.g, s.acc.put i (maskL s.acc o.after.toList), s.pend, s.xs, s.ls⟩)
      (ob (valD P s.tm s.g o.op) fun r => ob (putD s.tm sz o.dst r.1) fun tm =>
        some ⟨tm, s.g, s.acc.put i (maskL s.acc o.after.toList), s.pend, s.xs, ⟨i, maskL s.acc o.after.toList, s.tm, o.op, r.1⟩ :: s.ls⟩)
      (ob (valD P s.tm ⟨N + i, .nil, A⟩ o.op) fun r => ob (r.2.m.get (N + i)) fun b => ob (putD s.tm sz o.dst r.1) fun tm =>
        some ⟨tm, s.g, s.acc.put i (maskL s.acc o.after.toList), (i, b) :: s.pend, s.xs, s.ls⟩)
      (@Bool.rec (fun _ => Option DS) none
        (ob (actD P call s.tm (matH N (maskL s.acc o.after.toList) s.pend s.g) o.op) fun r => ob (putD s.tm sz o.dst r.1) fun tm =>
          some ⟨tm, r.2, s.acc.put i (maskL s.acc o.after.toList), restP (maskL s.acc o.after.toList) s.pend, ⟨i, maskL s.acc o.after.toList, r.2⟩ :: s.xs, s.ls⟩)
        (xsBefore (maskL s.acc o.after.toList) s.xs))
      (cls P o.op)) w
def drawList (call : CallFn) (sz N : Nat) (A : Asm) (ops : Array Oper) (l : List Oper) : Nat → DS → Option DS :=
  @List.rec Oper (fun _ => Nat → DS → Option DS) (fun _ s => some s) (fun o _ ih i s => ob (drawStep P call sz N A ops i o s) fun s => ih (i + 1) s) l
/-- May a reading stand where the acts below c are done, and no others? -/
def mayStand (xs : List XR) (r : LR) (c : Nat) : Bool := @List.rec XR (fun _ => Bool) true (fun y _ ih =>
  @Bool.rec (fun _ => Bool)
    (@Bool.rec (fun _ => Bool) ih false (bit r.m y.i))      -- y is not done
    (@Bool.rec (fun _ => Bool) ih false (bit y.m r.i))      -- y is done
    (Nat.blt y.i c)) xs
def readsSame (xs : List XR) (r : LR) (c : Nat) (g : H) : Bool := @Bool.rec (fun _ => Bool) true
  (@Option.rec (IV × H) (fun _ => Bool) false (fun x => eqIV r.v x.1) (valD P r.tm g r.op)) (mayStand xs r c)
def allStages (xs0 : List XR) (r : LR) (l : List XR) : Bool := @List.rec XR (fun _ => Bool) true (fun x _ ih => @Bool.rec (fun _ => Bool) false ih (readsSame P xs0 r (x.i + 1) x.g)) l
def allReads (xs : List XR) (g0 : H) (l : List LR) : Bool := @List.rec LR (fun _ => Bool) true (fun r _ ih => @Bool.rec (fun _ => Bool) false (@Bool.rec (fun _ => Bool) false ih (allStages P xs r xs)) (readsSame P xs r 0 g0)) l
def drawD (call : CallFn) (sz : Nat) (ops : Array Oper) (tm : Tm) (h : H) : Option (Tm × H) :=
  ob (drawList P call sz h.next h.asm ops ops.toList 0 ⟨tm, ⟨h.next + ops.toList.length, h.m, h.asm⟩, .nil, [], [], []⟩) fun s =>
    @Bool.rec (fun _ => Option (Tm × H)) none (some (s.tm, allH h.next s.pend s.g))
      (@List.rec XR (fun _ => Bool) true (fun _ _ _ => allReads P s.xs ⟨h.next + ops.toList.length, h.m, h.asm⟩ s.ls) s.xs)

/-- What a piece of code comes to. -/
inductive Res where
  | bad
  | to (e : Ex) (tm : Tm) (h : H)
abbrev Run := Tm → H → Res
def loopD (body : Run) (fuel : Nat) : Run :=
  @Nat.rec (fun _ => Run) (fun _ _ => .bad) (fun _ ih tm h => @Res.rec (fun _ => Res) .bad (fun e tm h => @Ex.rec (fun _ => Res) (ih tm h) (fun i => .to (.exit i) tm h) (.to .ret tm h) e) (body tm h)) fuel
def seqD (a b : Run) (tm : Tm) (h : H) : Res :=
  @Res.rec (fun _ => Res) .bad (fun e tm h => @Ex.rec (fun _ => Res) (b tm h) (fun i => .to (.exit i) tm h) (.to .ret tm h) e) (a tm h)
def condD (c : Operand) (a b : Run) (tm : Tm) (h : H) : Res := match ev P tm c with
  | some (.bool x) => @Bool.rec (fun _ => Res) (b tm h) (a tm h) x
  | _ => .bad
def blockD (id : Nat) (b : Run) (tm : Tm) (h : H) : Res :=
  @Res.rec (fun _ => Res) .bad (fun e tm h => @Ex.rec (fun _ => Res) (.to .normal tm h) (fun i => @Bool.rec (fun _ => Res) (.to (.exit i) tm h) (.to .normal tm h) (Nat.beq i id)) (.to .ret tm h) e) (b tm h)
def regionD (call : CallFn) (sz : Nat) (ops : Array Oper) (draw : Bool) (tm : Tm) (h : H) : Res :=
  @Option.rec (Tm × H) (fun _ => Res) .bad (fun r => .to .normal r.1 r.2) (@Bool.rec (fun _ => Option (Tm × H)) (opsD P call sz ops ops.toList tm h) (drawD P call sz ops tm h) draw)
def execD (call : CallFn) (sz fuel : Nat) (c : Code) : Run :=
  @Code.rec (fun _ => Run)
    (fun tm h => .to .normal tm h)
    (fun _ ops draw => regionD P call sz ops draw)
    (fun _ _ ea eb => seqD ea eb)
    (fun c _ _ ea eb => condD P c ea eb)
    (fun id _ eb => blockD id eb)
    (fun _ eb => loopD eb fuel)
    (fun _ _ _ _ _ _ _ _ => .bad)
    (fun i tm h => .to (.exit i) tm h)
    (fun _ _ _ _ => .bad)
    (fun _ _ _ => .bad)
    (fun _ _ _ => .bad)
    (fun tm h => .to .ret tm h)
    (fun _ _ _ => .bad) c

def resD (tm : Tm) (h : H) : ResultVar → Option IV
  | .tmp t => tm.get t
  | .cell a t => ob (tm.get a) fun p => match p with
    | .ptr b o => loadVar P h t b o
    | _ => none
def resL (tm : Tm) (h : H) (l : List ResultVar) : Option (List IV) :=
  @List.rec ResultVar (fun _ => Option (List IV)) (some []) (fun r _ ih => ob (resD P tm h r) fun v => ob ih fun vs => some (v :: vs)) l
def resultsD (fn : Func) (tm : Tm) (h : H) : Option IV := match fn.results.toList with
  | [] => some (.tuple [])
  | [r] => resD P tm h r
  | l => ob (resL P tm h l) fun vs => some (.tuple vs)
def enterD (l : List IV) (n : Nat) : Nat → Tm → Option Tm :=
  @List.rec IV (fun _ => Nat → Tm → Option Tm) (fun _ t => some t) (fun v _ ih i t => @Bool.rec (fun _ => Option Tm) none (ih (i + 1) (t.put i v)) (Nat.blt i n)) l

/-- What is known of some calls beforehand. -/
abbrev Known := FuncId → Option (List IV → H → Option (IV × H))
def endD (fn : Func) (r : Res) : Option (IV × H) :=
  @Res.rec (fun _ => Option (IV × H)) none (fun e tm h => @Ex.rec (fun _ => Option (IV × H)) (ob (resultsD P fn tm h) fun v => some (v, h)) (fun _ => none) (ob (resultsD P fn tm h) fun v => some (v, h)) e) r
def bodyD (self : CallFn) (f : FuncId) (args : List IV) (h : H) : Option (IV × H) :=
  ob P.funcs[f]? fun fn => ob fn.body fun c => ob (enterD args fn.ntmps 0 .nil) fun tm => endD P fn (execD P self fn.ntmps 100000 c tm h)
def runD (known : Known) (fuel : Nat) : CallFn :=
  @Nat.rec (fun _ => CallFn) (fun _ _ _ => none) (fun _ self f args h => @Option.rec (List IV → H → Option (IV × H)) (fun _ => Option (IV × H)) (bodyD P self f args h) (fun g => g args h) (known f)) fuel
end
end Go.Den

/- D1 -/
set_option linter.unusedVariables false
set_option linter.unusedSimpArgs false
set_option linter.unusedSectionVars false
namespace Go.Den
/-! ### The trie -/
def Pa.back : Pa → Nat
  | .here => 0
  | .l p => 2 * p.back + 1
  | .r p => 2 * p.back + 2
theorem pathF_back : ∀ (f n : Nat), n < f → (pathF f n).back = n
  | 0, n, h => by omega
  | f + 1, 0, _ => rfl
  | f + 1, m + 1, h => by
    have h1 : pathF (f + 1) (m + 1) = @Nat.rec (fun _ => Pa) (.l (pathF f (m / 2))) (fun _ _ => .r (pathF f (m / 2))) (m % 2) := rfl
    rw [h1]
    have h2 := pathF_back f (m / 2) (by omega)
    rcases Nat.mod_two_eq_zero_or_one m with h0 | h0
    · rw [h0]; show 2 * (pathF f (m / 2)).back + 1 = _; rw [h2]; omega
    · rw [h0]; show 2 * (pathF f (m / 2)).back + 2 = _; rw [h2]; omega
theorem pathOf_back (n : Nat) : (pathOf n).back = n := pathF_back _ _ (Nat.lt_succ_self n)
theorem pathOf_inj {m n : Nat} (h : pathOf m = pathOf n) : m = n := by rw [← pathOf_back m, ← pathOf_back n, h]
theorem getP_nil {α : Type} (p : Pa) : T.getP (α := α) p .nil = none := by cases p <;> rfl
theorem getP_putP {α : Type} (u : Option α) : ∀ (p q : Pa) (t : T α), T.getP q (T.putP u p t) = if q = p then u else T.getP q t
  | .here, q, t => by
    cases t with
    | nil =>
      show T.getP q (.node .nil u .nil) = _
      cases q with
      | here => rfl
      | l q => show T.getP q .nil = _; rw [getP_nil, getP_nil]; simp
      | r q => show T.getP q .nil = _; rw [getP_nil, getP_nil]; simp
    | node a v b =>
      show T.getP q (.node a u b) = _
      cases q <;> rfl
  | .l p, q, t => by
    cases t with
    | nil =>
      show T.getP q (.node (T.putP u p .nil) none .nil) = _
      cases q with
      | here => rfl
      | l q => show T.getP q (T.putP u p .nil) = _; rw [getP_putP u p q .nil, getP_nil, getP_nil]; simp
      | r q => show T.getP q .nil = _; rw [getP_nil, getP_nil]; simp
    | node a v b =>
      show T.getP q (.node (T.putP u p a) v b) = _
      cases q with
      | here => rfl
      | l q => show T.getP q (T.putP u p a) = _; rw [getP_putP u p q a]; simp only [Pa.l.injEq]; rfl
      | r q => rfl
  | .r p, q, t => by
    cases t with
    | nil =>
      show T.getP q (.node .nil none (T.putP u p .nil)) = _
      cases q with
      | here => rfl
      | r q => show T.getP q (T.putP u p .nil) = _; rw [getP_putP u p q .nil, getP_nil, getP_nil]; simp
      | l q => show T.getP q .nil = _; rw [getP_nil, getP_nil]; simp
    | node a v b =>
      show T.getP q (.node a v (T.putP u p b)) = _
      cases q with
      | here => rfl
      | r q => show T.getP q (T.putP u p b) = _; rw [getP_putP u p q b]; simp only [Pa.r.injEq]; rfl
      | l q => rfl
theorem get_nil {α : Type} (n : Nat) : (T.nil : T α).get n = none := getP_nil _
theorem get_put {α : Type} (t : T α) (n m : Nat) (v : α) : (t.put n v).get m = if m = n then some v else t.get m := by
  unfold T.get T.put
  rw [getP_putP]
  by_cases h : m = n
  · subst h; simp
  · rw [if_neg (fun e => h (pathOf_inj e)), if_neg h]
theorem get_del {α : Type} (t : T α) (n m : Nat) : (t.del n).get m = if m = n then none else t.get m := by
  unfold T.get T.del
  rw [getP_putP]
  by_cases h : m = n
  · subst h; simp
  · rw [if_neg (fun e => h (pathOf_inj e)), if_neg h]

theorem ob_some {α β : Type} {x : Option α} {f : α → Option β} {b : β} (h : ob x f = some b) : ∃ a, x = some a ∧ f a = some b := by
  cases x with
  | none => exact absurd h (by simp [ob])
  | some a => exact ⟨a, rfl, h⟩
theorem ob_mk {α β : Type} {x : Option α} {f : α → Option β} {a : α} (h : x = some a) : ob x f = f a := by rw [h]; rfl

/-! ### What a value is in the model -/
def binV (op : BinOp) (k : IntKind) (a b : Int) : Int := match op with
  | .add => k.wrap (a + b)
  | .sub => k.wrap (a - b)
  | .mul => k.wrap (a * b)
  | .quo => k.wrap (a.tdiv b)
  | .rem => a.tmod b
  | .and => k.wrap (BitVec.ofInt k.bits a &&& BitVec.ofInt k.bits b).toNat
  | .or => k.wrap (BitVec.ofInt k.bits a ||| BitVec.ofInt k.bits b).toNat
  | .xor => k.wrap (BitVec.ofInt k.bits a ^^^ BitVec.ofInt k.bits b).toNat
  | .andNot => k.wrap (BitVec.ofInt k.bits a &&& ~~~ BitVec.ofInt k.bits b).toNat
  | .shl => k.wrap (a * 2 ^ Nat.min b.toNat k.bits)
  | .shr => a.fdiv (2 ^ Nat.min b.toNat k.bits)
  | _ => 0
/-- What a term is: a number, a text, rows. -/
structure Dy where
  i : Int
  s : List UInt8
  r : List (List (Int × List UInt8))
  deriving Inhabited
def dyI (z : Int) : Dy := ⟨z, [], []⟩
def dyS (s : List UInt8) : Dy := ⟨0, s, []⟩
def dyR (r : List (List (Int × List UInt8))) : Dy := ⟨0, [], r⟩
/-- What a proof's own functions are. -/
class Interp where
  Φ : Nat → Dy → Dy → Dy → Dy
def cellAt (r : List (List (Int × List UInt8))) (i j : Nat) : Int × List UInt8 := ((r[i]?).getD [])[j]?.getD (0, [])
def phi [Interp] (f : Nat) (a b c : Dy) : Dy := match f with
  | 0 => dyI a.s.length
  | 1 => dyI ((a.s[b.i.toNat]?).getD 0).toNat
  | 2 => dyS ((a.s.take c.i.toNat).drop b.i.toNat)
  | 3 => dyS (a.s ++ b.s)
  | 4 => dyS [UInt8.ofNat a.i.toNat]
  | 5 => dyI a.r.length
  | 6 => ⟨(cellAt a.r b.i.toNat c.i.toNat).1, (cellAt a.r b.i.toNat c.i.toNat).2, []⟩
  | 7 => dyI (a.i + b.i)
  | 8 => dyI (a.i - b.i)
  | 9 => dyR (a.r ++ b.r)
  | 10 => dyR (a.r.map fun x => x ++ [(b.i, b.s)])
  | 11 => dyR [[]]
  | 12 => dyR []
  | 99 => dyR (a.s.map fun b => [((b.toNat : Int), [])])
  | n => Interp.Φ n a b c
def SE.D [Interp] (ρ : Nat → Dy) : SE → Dy
  | .v i => ρ i
  | .n z => dyI z
  | .wrap k a => dyI (k.wrap (a.D ρ).i)
  | .bin op k a b => dyI (binV op k (a.D ρ).i (b.D ρ).i)
  | .lit s => dyS s
  | .app f a b c => phi f (a.D ρ) (b.D ρ) (c.D ρ)
variable [Interp]
def SE.den (ρ : Nat → Dy) (t : SE) : Int := (t.D ρ).i
def SE.str (ρ : Nat → Dy) (t : SE) : List UInt8 := (t.D ρ).s
def SE.row (ρ : Nat → Dy) (t : SE) : List (List (Int × List UInt8)) := (t.D ρ).r
theorem den_n (ρ : Nat → Dy) (z : Int) : (SE.n z).den ρ = z := rfl
theorem str_lit (ρ : Nat → Dy) (s : List UInt8) : (SE.lit s).str ρ = s := rfl
theorem den_wrap (ρ : Nat → Dy) (k : IntKind) (a : SE) : (SE.wrap k a).den ρ = k.wrap (a.den ρ) := rfl
theorem den_bin (ρ : Nat → Dy) (op : BinOp) (k : IntKind) (a b : SE) : (SE.bin op k a b).den ρ = binV op k (a.den ρ) (b.den ρ) := rfl
def cmpV (c : Cmp) (a b : Dy) : Bool := match c with
  | .eq => a.i == b.i
  | .lt => decide (a.i < b.i)
  | .le => decide (a.i ≤ b.i)
  | .seq => a.s == b.s
  | .slt => Op.bytesLess a.s b.s
/-- What is taken for granted is so. -/
def AsmOK (asm : Asm) (ρ : Nat → Dy) : Prop := ∀ c a b r, asm c a b = some r → cmpV c (a.D ρ) (b.D ρ) = r
/-- What the numbers of blocks stand for; the numbers of which only the form is known; some addresses. -/
structure Env where
  f : Nat → Option (Nat × (Nat → Nat))
  ρ : Nat → Dy
  ω : Nat → Addr
instance : CoeFun Env (fun _ => Nat → Option (Nat × (Nat → Nat))) := ⟨Env.f⟩
mutual
def conc (e : Env) : IV → Option Value
  | .int k n => some (.int k n)
  | .sint k s => some (.int k (s.den e.ρ))
  | .optr i => some (.pointer (some (e.ω i)))
  | .bool b => some (.bool b)
  | .str s => some (.string ⟨s.toArray⟩)
  | .sstr t => some (.string ⟨(t.str e.ρ).toArray⟩)
  | .ptr b o => match e b with
    | some p => some (.pointer (some ⟨p.1, o, none⟩))
    | none => none
  | .sptr b sz i j => match e b with
    | some p => if 0 ≤ i.den e.ρ then some (.pointer (some ⟨p.1, (i.den e.ρ).toNat * sz + j, none⟩)) else none
    | none => none
  | .nilPtr => some (.pointer none)
  | .slice b o l c => match e b with
    | some p => some (.slice (some ⟨p.1, o, none⟩) l (if c = loose then p.2 o else c))
    | none => none
  | .sslice b sz o l c => match e b with
    | some p => if 0 ≤ o.den e.ρ ∧ 0 ≤ l.den e.ρ ∧ 0 ≤ c.den e.ρ ∧ c.den e.ρ ≤ 9223372036854775808 then some (.slice (some ⟨p.1, (o.den e.ρ).toNat * sz, none⟩) (l.den e.ρ).toNat (if c.den e.ρ = 9223372036854775808 then p.2 ((o.den e.ρ).toNat * sz) else (c.den e.ρ).toNat)) else none
    | none => none
  | .nilSlice => some (.slice none 0 0)
  | .map b => match e b with
    | some p => some (.map (some p.1))
    | none => none
  | .nilMap => some (.map none)
  | .func fn a c => match concL e a, concL e c with
    | some a, some c => some (.func fn a.toArray c.toArray)
    | _, _ => none
  | .nilFunc => some .nilFunc
  | .iface t v => match conc e v with
    | some v => some (.iface t v)
    | none => none
  | .nilIface => some .nilIface
  | .agg cs => match concL e cs with
    | some l => some (.agg l.toArray)
    | none => none
  | .tuple cs => match concL e cs with
    | some l => some (.tuple l.toArray)
    | none => none
def concL (e : Env) : List IV → Option (List Value)
  | [] => some []
  | v :: r => match conc e v, concL e r with
    | some v, some r => some (v :: r)
    | _, _ => none
end

theorem conc_ptr {e : Env} {b o : Nat} {V : Value} (h : conc e (.ptr b o) = some V) : ∃ p, e b = some p ∧ V = .pointer (some ⟨p.1, o, none⟩) := by
  simp only [conc] at h; split at h
  · rename_i p hp; exact ⟨p, hp, by simpa using h.symm⟩
  · cases h
theorem conc_slice {e : Env} {b o l c : Nat} {V : Value} (h : conc e (.slice b o l c) = some V) : ∃ p, e b = some p ∧ V = .slice (some ⟨p.1, o, none⟩) l (if c = loose then p.2 o else c) := by
  simp only [conc] at h; split at h
  · rename_i p hp; exact ⟨p, hp, by simpa using h.symm⟩
  · cases h
theorem conc_sptr {e : Env} {b sz j : Nat} {i : SE} {V : Value} (h : conc e (.sptr b sz i j) = some V) : ∃ p, e b = some p ∧ 0 ≤ i.den e.ρ ∧ V = .pointer (some ⟨p.1, (i.den e.ρ).toNat * sz + j, none⟩) := by
  simp only [conc] at h; split at h
  · rename_i p hp
    split at h
    · rename_i h0; exact ⟨p, hp, h0, by simpa using h.symm⟩
    · cases h
  · cases h
theorem conc_sslice {e : Env} {b sz : Nat} {o l c : SE} {V : Value} (h : conc e (.sslice b sz o l c) = some V) : ∃ p, e b = some p ∧ (0 ≤ o.den e.ρ ∧ 0 ≤ l.den e.ρ ∧ 0 ≤ c.den e.ρ ∧ c.den e.ρ ≤ 9223372036854775808) ∧
    V = .slice (some ⟨p.1, (o.den e.ρ).toNat * sz, none⟩) (l.den e.ρ).toNat (if c.den e.ρ = 9223372036854775808 then p.2 ((o.den e.ρ).toNat * sz) else (c.den e.ρ).toNat) := by
  simp only [conc] at h; split at h
  · rename_i p hp
    split at h
    · rename_i h0; exact ⟨p, hp, h0, by simpa using h.symm⟩
    · cases h
  · cases h
theorem conc_sptr_mk {e : Env} {b sz j : Nat} {i : SE} {p : Nat × (Nat → Nat)} (hp : e b = some p) (h0 : 0 ≤ i.den e.ρ) : conc e (.sptr b sz i j) = some (.pointer (some ⟨p.1, (i.den e.ρ).toNat * sz + j, none⟩)) := by
  simp only [conc, hp, if_pos h0]
theorem conc_sslice_mk {e : Env} {b sz : Nat} {o l c : SE} {p : Nat × (Nat → Nat)} (hp : e b = some p) (h0 : 0 ≤ o.den e.ρ ∧ 0 ≤ l.den e.ρ ∧ 0 ≤ c.den e.ρ ∧ c.den e.ρ ≤ 9223372036854775808) :
    conc e (.sslice b sz o l c) = some (.slice (some ⟨p.1, (o.den e.ρ).toNat * sz, none⟩) (l.den e.ρ).toNat (if c.den e.ρ = 9223372036854775808 then p.2 ((o.den e.ρ).toNat * sz) else (c.den e.ρ).toNat)) := by
  simp only [conc, hp, if_pos h0]
theorem conc_map {e : Env} {b : Nat} {V : Value} (h : conc e (.map b) = some V) : ∃ p, e b = some p ∧ V = .map (some p.1) := by
  simp only [conc] at h; split at h
  · rename_i p hp; exact ⟨p, hp, by simpa using h.symm⟩
  · cases h
theorem conc_func {e : Env} {fn : Fn} {a c : List IV} {V : Value} (h : conc e (.func fn a c) = some V) : ∃ A C, concL e a = some A ∧ concL e c = some C ∧ V = .func fn A.toArray C.toArray := by
  simp only [conc] at h; split at h
  · rename_i A C h1 h2; exact ⟨A, C, h1, h2, by simpa using h.symm⟩
  · cases h
theorem conc_iface {e : Env} {t : TypeId} {v : IV} {V : Value} (h : conc e (.iface t v) = some V) : ∃ U, conc e v = some U ∧ V = .iface t U := by
  simp only [conc] at h; split at h
  · rename_i p hp; exact ⟨p, hp, by simpa using h.symm⟩
  · cases h
theorem conc_agg {e : Env} {cs : List IV} {V : Value} (h : conc e (.agg cs) = some V) : ∃ C, concL e cs = some C ∧ V = .agg C.toArray := by
  simp only [conc] at h; split at h
  · rename_i p hp; exact ⟨p, hp, by simpa using h.symm⟩
  · cases h
theorem conc_tuple {e : Env} {cs : List IV} {V : Value} (h : conc e (.tuple cs) = some V) : ∃ C, concL e cs = some C ∧ V = .tuple C.toArray := by
  simp only [conc] at h; split at h
  · rename_i p hp; exact ⟨p, hp, by simpa using h.symm⟩
  · cases h
theorem concL_cons {e : Env} {v : IV} {r : List IV} {L : List Value} (h : concL e (v :: r) = some L) : ∃ V R, conc e v = some V ∧ concL e r = some R ∧ L = V :: R := by
  simp only [concL] at h; split at h
  · rename_i V R h1 h2; exact ⟨V, R, h1, h2, by simpa using h.symm⟩
  · cases h
theorem concL_mk {e : Env} {v : IV} {r : List IV} {V : Value} {R : List Value} (h1 : conc e v = some V) (h2 : concL e r = some R) : concL e (v :: r) = some (V :: R) := by
  simp only [concL, h1, h2]
theorem concL_append {e : Env} : ∀ {a b : List IV} {A B : List Value}, concL e a = some A → concL e b = some B → concL e (a ++ b) = some (A ++ B)
  | [], b, A, B, h1, h2 => by simp only [concL] at h1; cases h1; simpa using h2
  | v :: r, b, A, B, h1, h2 => by
    obtain ⟨V, R, hv, hr, rfl⟩ := concL_cons h1
    exact concL_mk hv (concL_append hr h2)
theorem concL_length {e : Env} : ∀ {a : List IV} {A : List Value}, concL e a = some A → A.length = a.length
  | [], A, h => by simp only [concL] at h; cases h; rfl
  | v :: r, A, h => by
    obtain ⟨V, R, hv, hr, rfl⟩ := concL_cons h
    simp [concL_length hr]
theorem concL_get {e : Env} : ∀ {a : List IV} {A : List Value}, concL e a = some A → ∀ (i : Nat) (v : IV), a[i]? = some v → ∃ V, conc e v = some V ∧ A[i]? = some V
  | [], A, h, i, v, hi => by simp at hi
  | x :: r, A, h, i, v, hi => by
    obtain ⟨V, R, hv, hr, rfl⟩ := concL_cons h
    cases i with
    | zero => simp at hi; subst hi; exact ⟨V, hv, rfl⟩
    | succ i => obtain ⟨U, h1, h2⟩ := concL_get hr i v (by simpa using hi); exact ⟨U, h1, by simpa using h2⟩

structure Env.le (e e' : Env) : Prop where
  at_ : ∀ id p, e id = some p → e' id = some p
  ρ : e'.ρ = e.ρ
  ω : e'.ω = e.ω
instance {e e' : Env} : CoeFun (e.le e') (fun _ => ∀ id p, e id = some p → e' id = some p) := ⟨Env.le.at_⟩
theorem Env.le_refl (e : Env) : e.le e := ⟨fun _ _ h => h, rfl, rfl⟩
theorem Env.le_trans {a b c : Env} (h : a.le b) (k : b.le c) : a.le c := ⟨fun id p hp => k id p (h id p hp), k.ρ.trans h.ρ, k.ω.trans h.ω⟩
mutual
theorem conc_mono {e e' : Env} (hle : e.le e') : ∀ (v : IV) {V : Value}, conc e v = some V → conc e' v = some V
  | .int k n, V, h => by simpa only [conc] using h
  | .sint k n, V, h => by simp only [conc] at h ⊢; rw [hle.ρ]; exact h
  | .optr i, V, h => by simp only [conc] at h ⊢; rw [hle.ω]; exact h
  | .bool b, V, h => by simpa only [conc] using h
  | .str s, V, h => by simpa only [conc] using h
  | .sstr t, V, h => by simp only [conc] at h ⊢; rw [hle.ρ]; exact h
  | .sptr b sz i j, V, h => by obtain ⟨p, hp, h0, rfl⟩ := conc_sptr h; rw [conc_sptr_mk (hle _ _ hp) (by rw [hle.ρ]; exact h0), hle.ρ]
  | .sslice b sz o l c, V, h => by obtain ⟨p, hp, h0, rfl⟩ := conc_sslice h; rw [conc_sslice_mk (hle _ _ hp) (by rw [hle.ρ]; exact h0), hle.ρ]
  | .ptr b o, V, h => by obtain ⟨p, hp, rfl⟩ := conc_ptr h; simp only [conc, hle _ _ hp]
  | .nilPtr, V, h => by simpa only [conc] using h
  | .slice b o l c, V, h => by obtain ⟨p, hp, rfl⟩ := conc_slice h; simp only [conc, hle _ _ hp]
  | .nilSlice, V, h => by simpa only [conc] using h
  | .map b, V, h => by obtain ⟨p, hp, rfl⟩ := conc_map h; simp only [conc, hle _ _ hp]
  | .nilMap, V, h => by simpa only [conc] using h
  | .func fn a c, V, h => by obtain ⟨A, C, h1, h2, rfl⟩ := conc_func h; simp only [conc, concL_mono hle a h1, concL_mono hle c h2]
  | .nilFunc, V, h => by simpa only [conc] using h
  | .iface t v, V, h => by obtain ⟨U, h1, rfl⟩ := conc_iface h; simp only [conc, conc_mono hle v h1]
  | .nilIface, V, h => by simpa only [conc] using h
  | .agg cs, V, h => by obtain ⟨C, h1, rfl⟩ := conc_agg h; simp only [conc, concL_mono hle cs h1]
  | .tuple cs, V, h => by obtain ⟨C, h1, rfl⟩ := conc_tuple h; simp only [conc, concL_mono hle cs h1]
theorem concL_mono {e e' : Env} (hle : e.le e') : ∀ (a : List IV) {A : List Value}, concL e a = some A → concL e' a = some A
  | [], A, h => by simpa only [concL] using h
  | v :: r, A, h => by
    obtain ⟨V, R, hv, hr, rfl⟩ := concL_cons h
    exact concL_mk (conc_mono hle v hv) (concL_mono hle r hr)
end
theorem conc_cells {e : Env} {v : IV} {V : Value} (h : conc e v = some V) : concL e v.cells = some V.cells.toList := by
  cases v with
  | agg cs => obtain ⟨C, h1, rfl⟩ := conc_agg h; simpa [IV.cells, Value.cells] using h1
  | ptr b o => obtain ⟨p, hp, rfl⟩ := conc_ptr h; exact concL_mk h rfl
  | slice b o l c => obtain ⟨p, hp, rfl⟩ := conc_slice h; exact concL_mk h rfl
  | sptr b sz i j => obtain ⟨p, hp, h0, rfl⟩ := conc_sptr h; exact concL_mk h rfl
  | sslice b sz o l c => obtain ⟨p, hp, h0, rfl⟩ := conc_sslice h; exact concL_mk h rfl
  | map b => obtain ⟨p, hp, rfl⟩ := conc_map h; exact concL_mk h rfl
  | func fn a c => obtain ⟨A, C, h1, h2, rfl⟩ := conc_func h; exact concL_mk h rfl
  | iface t v => obtain ⟨U, h1, rfl⟩ := conc_iface h; exact concL_mk h rfl
  | tuple cs => obtain ⟨C, h1, rfl⟩ := conc_tuple h; exact concL_mk h rfl
  | _ => simp only [conc] at h; cases h; rfl
theorem one_ok {e : Env} {v : IV} {V : Value} (h : conc e v = some V) (h1 : one v = true) : V.oneCell' = true := by
  cases v with
  | agg cs => cases h1
  | tuple cs => cases h1
  | ptr b o => obtain ⟨p, hp, rfl⟩ := conc_ptr h; rfl
  | slice b o l c => obtain ⟨p, hp, rfl⟩ := conc_slice h; rfl
  | sptr b sz i j => obtain ⟨p, hp, h0, rfl⟩ := conc_sptr h; rfl
  | sslice b sz o l c => obtain ⟨p, hp, h0, rfl⟩ := conc_sslice h; rfl
  | map b => obtain ⟨p, hp, rfl⟩ := conc_map h; rfl
  | func fn a c => obtain ⟨A, C, h1, h2, rfl⟩ := conc_func h; rfl
  | iface t v => obtain ⟨U, h1, rfl⟩ := conc_iface h; rfl
  | _ => simp only [conc] at h; cases h; rfl
end Go.Den

/- D2 -/
set_option linter.unusedVariables false
set_option linter.unusedSimpArgs false
set_option linter.unusedSectionVars false
namespace Go.Den
variable [Interp]
/-! ### Memory: what of the model's a heap stands for -/
/-- May it be written? -/
def Blk.rw : Blk → Bool
  | .cells _ _ _ _ md => !(Nat.beq md 2)
  | .rows _ _ _ _ md => !(Nat.beq md 2)
  | _ => true
/-- how many cells lie ahead of rows -/
def shO (e : Env) (md : Nat) (r : SE) (sz : Nat) : Nat := ((shT md r).den e.ρ).toNat * sz
theorem shO_1 {e : Env} {r : SE} {sz : Nat} : shO e 1 r sz = 0 := by show (0 : Int).toNat * sz = 0; simp
theorem shO_rw {e : Env} {md : Nat} {r : SE} {sz : Nat} (h : md ≠ 2) : shO e md r sz = 0 := by
  unfold shO shT
  rw [show Nat.beq md 2 = false by cases hb : Nat.beq md 2 with | true => exact absurd (Nat.eq_of_beq_eq_true hb) h | false => rfl]
  show (0 : Int).toNat * sz = 0
  simp
def BlkOK (P : Program) (e : Env) (b : Blk) (p : Nat × (Nat → Nat)) (w : World) : Prop := match b with
  | .cells t n z tr md => ∃ cur t' fr, w.heap[p.1]? = some (.cells cur t' fr) ∧ (md ≠ 2 → t' = t) ∧ n ≤ cur.size ∧ (md ≠ 2 → ∀ o, o < cur.size → ¬ (fr.1 ≤ o ∧ o < fr.2)) ∧
      (∀ o v, (Blk.cells t n z tr md).cell o = some v → ∃ V, conc e v = some V ∧ cur[o]? = some V) ∧
      (md = 1 → ∃ i C, P.info? t = some i ∧ 0 < i.size ∧ cur.size = C * i.size ∧ C ≤ maxLen ∧ ∀ o, p.2 o = C - o / i.size)
  | .rows t sz fs r md => ∃ cur t' fr, w.heap[p.1]? = some (.cells cur t' fr) ∧ (md ≠ 2 → t' = t) ∧ fs.length = sz ∧ 0 < sz ∧ (r.row e.ρ).length * sz + shO e md r sz ≤ cur.size ∧ (md ≠ 2 → ∀ o, o < cur.size → ¬ (fr.1 ≤ o ∧ o < fr.2)) ∧
      (∀ (i j : Nat) (f : Form), i < (r.row e.ρ).length → fs[j]? = some f → f.vis = true → ∃ V, conc e (formV r (.n i) f) = some V ∧ cur[i * sz + j + shO e md r sz]? = some V) ∧
      (md = 1 → ∃ i C, P.info? t = some i ∧ i.size = sz ∧ cur.size = C * sz ∧ C ≤ maxLen ∧ ∀ o, p.2 o = C - o / sz)
  | .siter t pos => 0 ≤ pos.den e.ρ ∧ w.heap[p.1]? = some (.stringIter ⟨(t.str e.ρ).toArray⟩ (pos.den e.ρ).toNat)
  | .map es => ∃ E clk, w.heap[p.1]? = some (.map E clk) ∧ E.toList.length = es.length ∧ ∀ (i : Nat) (k v : IV), es[i]? = some (k, v) → ∃ m : MapEntry, E[i]? = some m ∧ conc e k = some m.key ∧ conc e v = some m.val
  | .iter s k => w.heap[p.1]? = some (.stringIter ⟨s.toArray⟩ k)

structure Rel (P : Program) (e : Env) (h : H) (w : World) : Prop where
  dom : ∀ id, h.next ≤ id → e id = none
  inj : ∀ i j a b p q, h.m.get i = some a → h.m.get j = some b → e i = some p → e j = some q → p.1 = q.1 → i = j
  blk : ∀ id b, h.m.get id = some b → ∃ p, e id = some p ∧ BlkOK P e b p w
  glob : ∀ g, g ≤ P.globals.size → ∃ p, e g = some p ∧ p.1 = g
  asm : AsmOK h.asm e.ρ

structure Step (P : Program) (e : Env) (h : H) (w : World) (e' : Env) (h' : H) (w' : World) : Prop where
  le : e.le e'
  keep : ∀ id, id < h.next → e' id = e id
  next : h.next ≤ h'.next
  rel : Rel P e' h' w'
  os : w'.os = w.os
  tape : w'.tape = w.tape
  output : w'.output = w.output
  size : w.heap.size ≤ w'.heap.size
  old : ∀ k, k < w.heap.size → (∀ id b p, h.m.get id = some b → b.rw = true → e id = some p → p.1 ≠ k) → w'.heap[k]? = w.heap[k]?
  ro : ∀ id b, h'.m.get id = some b → b.rw = false → h.m.get id = some b
  own : ∀ id b p, h'.m.get id = some b → b.rw = true → e' id = some p → w.heap.size ≤ p.1 ∨ ∃ id0 b0 p0, h.m.get id0 = some b0 ∧ b0.rw = true ∧ e id0 = some p0 ∧ p0.1 = p.1

section
variable {P : Program} {e e1 e2 : Env} {h h1 h2 : H} {w w1 w2 : World}

theorem BlkOK.lt {b : Blk} {p : Nat × (Nat → Nat)} (k : BlkOK P e b p w) : p.1 < w.heap.size := by
  cases b with
  | cells t n z tr md => obtain ⟨cur, t', fr, hh, _⟩ := k; exact (Array.getElem?_eq_some_iff.1 hh).1
  | rows t sz fs r md => obtain ⟨cur, t', fr, hh, _⟩ := k; exact (Array.getElem?_eq_some_iff.1 hh).1
  | siter t pos => obtain ⟨_, hh⟩ := k; exact (Array.getElem?_eq_some_iff.1 hh).1
  | map es => obtain ⟨E, c, hh, _⟩ := k; exact (Array.getElem?_eq_some_iff.1 hh).1
  | iter s n => have k' : w.heap[p.1]? = some (.stringIter ⟨s.toArray⟩ n) := k; exact (Array.getElem?_eq_some_iff.1 k').1
theorem BlkOK.mono {b : Blk} {p : Nat × (Nat → Nat)} (k : BlkOK P e b p w) (hle : e.le e1) (hw : w1.heap[p.1]? = w.heap[p.1]?) : BlkOK P e1 b p w1 := by
  cases b with
  | cells t n z tr md =>
    obtain ⟨cur, t', fr, hh, h0, h1, h2, h3, h4⟩ := k
    exact ⟨cur, t', fr, hw.trans hh, h0, h1, h2, fun o v hv => by obtain ⟨V, a, b⟩ := h3 o v hv; exact ⟨V, conc_mono hle _ a, b⟩, h4⟩
  | rows t sz fs r md =>
    obtain ⟨cur, t', fr, hh, h0, h1, h2, h3, h4, h5, h6⟩ := k
    have hr : r.row e1.ρ = r.row e.ρ := by rw [hle.ρ]
    have hs : shO e1 md r sz = shO e md r sz := by unfold shO; rw [hle.ρ]
    exact ⟨cur, t', fr, hw.trans hh, h0, h1, h2, by rw [hr, hs]; exact h3, h4, fun i j f hi hf hv => by obtain ⟨V, a, b⟩ := h5 i j f (by rw [← hr]; exact hi) hf hv; exact ⟨V, conc_mono hle _ a, by rw [hs]; exact b⟩, h6⟩
  | siter t pos =>
    obtain ⟨h0, hh⟩ := k
    refine ⟨by rw [hle.ρ]; exact h0, ?_⟩
    rw [hle.ρ]; exact hw.trans hh
  | map es =>
    obtain ⟨E, c, hh, h1, h2⟩ := k
    exact ⟨E, c, hw.trans hh, h1, fun i k v hv => by obtain ⟨m, a, b, c⟩ := h2 i k v hv; exact ⟨m, a, conc_mono hle _ b, conc_mono hle _ c⟩⟩
  | iter s n => exact hw.trans (show w.heap[p.1]? = some (.stringIter ⟨s.toArray⟩ n) from k)

theorem Step.refl (r : Rel P e h w) : Step P e h w e h w :=
  ⟨Env.le_refl e, fun _ _ => rfl, Nat.le_refl _, r, rfl, rfl, rfl, Nat.le_refl _, fun _ _ _ => rfl, fun _ _ h _ => h, fun id b p h1 h2 h3 => .inr ⟨id, b, p, h1, h2, h3, rfl⟩⟩
theorem Step.trans (s : Step P e h w e1 h1 w1) (t : Step P e1 h1 w1 e2 h2 w2) : Step P e h w e2 h2 w2 where
  le := Env.le_trans s.le t.le
  keep := fun id hid => (t.keep id (Nat.lt_of_lt_of_le hid s.next)).trans (s.keep id hid)
  next := Nat.le_trans s.next t.next
  rel := t.rel
  os := t.os.trans s.os
  tape := t.tape.trans s.tape
  output := t.output.trans s.output
  size := Nat.le_trans s.size t.size
  old := fun k hk hn => by
    rw [t.old k (Nat.lt_of_lt_of_le hk s.size) ?_, s.old k hk hn]
    intro id b p hb hr hp
    rcases s.own id b p hb hr hp with hl | ⟨id0, b0, p0, a, b, c, d⟩
    · omega
    · rw [← d]; exact hn id0 b0 p0 a b c
  ro := fun id b hb hr => s.ro id b (t.ro id b hb hr) hr
  own := fun id b p hb hr hp => by
    rcases t.own id b p hb hr hp with hl | ⟨id0, b0, p0, a, b, c, d⟩
    · exact .inl (Nat.le_trans s.size hl)
    · rcases s.own id0 b0 p0 a b c with hl | ⟨id1, b1, p1, a', b', c', d'⟩
      · exact .inl (by omega)
      · exact .inr ⟨id1, b1, p1, a', b', c', d'.trans d⟩
/-- The heap is the same: only draws, say. -/
theorem Rel.of_heap (r : Rel P e h w) (hh : w1.heap = w.heap) : Rel P e h w1 :=
  ⟨r.dom, r.inj, fun id b hb => by obtain ⟨p, hp, k⟩ := r.blk id b hb; exact ⟨p, hp, k.mono (Env.le_refl e) (by rw [hh])⟩, r.glob, r.asm⟩
theorem Step.same (r : Rel P e h w) (hh : w1.heap = w.heap) (ho : w1.os = w.os) (ht : w1.tape = w.tape) (hp : w1.output = w.output) : Step P e h w e h w1 :=
  ⟨Env.le_refl e, fun _ _ => rfl, Nat.le_refl _, r.of_heap hh, ho, ht, hp, by rw [hh]; exact Nat.le_refl _, fun k _ _ => by rw [hh], fun _ _ h _ => h, fun id b p h1 h2 h3 => .inr ⟨id, b, p, h1, h2, h3, rfl⟩⟩

def upd (e : Env) (id : Nat) (p : Nat × (Nat → Nat)) : Env := ⟨fun j => if j = id then some p else e j, e.ρ, e.ω⟩
theorem le_upd (hn : e h.next = none) (p : Nat × (Nat → Nat)) : e.le (upd e h.next p) := by
  refine ⟨?_, rfl, rfl⟩
  intro id q hq
  simp only [upd]
  split
  · rename_i he; rw [he, hn] at hq; cases hq
  · exact hq
theorem upd_at (id : Nat) (p : Nat × (Nat → Nat)) : upd e id p id = some p := by simp [upd]

/-- A new block. -/
theorem Step.new (r : Rel P e h w) {b : Blk} {o : Obj} {c : Nat → Nat} (hrw : b.rw = true) (hh : w1.heap = w.heap.push o) (ho : w1.os = w.os) (ht : w1.tape = w.tape) (hp : w1.output = w.output)
    (hok : BlkOK P (upd e h.next (w.heap.size, c)) b (w.heap.size, c) w1) : Step P e h w (upd e h.next (w.heap.size, c)) (h.new b) w1 := by
  have hn : e h.next = none := r.dom _ (Nat.le_refl _)
  have hle := le_upd (h := h) hn (w.heap.size, c)
  have hold : ∀ k, k < w.heap.size → w1.heap[k]? = w.heap[k]? := fun k hk => by rw [hh, Array.getElem?_push, if_neg (by omega)]
  have hget : ∀ id x, (h.new b).m.get id = some x → (id = h.next ∧ x = b) ∨ (id ≠ h.next ∧ h.m.get id = some x) := by
    intro id x hx
    unfold H.new at hx
    simp only at hx
    rw [get_put] at hx
    by_cases he : id = h.next
    · rw [if_pos he] at hx; exact .inl ⟨he, by simpa using hx.symm⟩
    · rw [if_neg he] at hx; exact .inr ⟨he, hx⟩
  have hup : ∀ id, id ≠ h.next → upd e h.next (w.heap.size, c) id = e id := fun id hid => by simp [upd, hid]
  refine ⟨hle, fun id hid => hup id (by omega), Nat.le_succ _, ⟨?_, ?_, ?_, ?_, r.asm⟩, ho, ht, hp, by rw [hh]; simp, fun k hk _ => hold k hk, fun id x hx hr => by
    rcases hget id x hx with ⟨_, rfl⟩ | ⟨_, h2⟩
    · rw [hrw] at hr; cases hr
    · exact h2, ?_⟩
  · intro id hid
    have hid' : h.next + 1 ≤ id := hid
    rw [hup id (by omega)]; exact r.dom id (by omega)
  · intro i j a a' p q hi hj hp hq hpq
    rcases hget i a hi with ⟨rfl, rfl⟩ | ⟨hi1, hi2⟩ <;> rcases hget j a' hj with ⟨hj1, hj2⟩ | ⟨hj1, hj2⟩
    · exact hj1.symm
    · rw [upd_at] at hp; rw [hup j hj1] at hq
      obtain ⟨q', hq', k⟩ := r.blk j a' hj2
      have := k.lt; rw [hq'] at hq; cases hq; cases hp; simp at hpq; omega
    · subst hj1; rw [upd_at] at hq; rw [hup i hi1] at hp
      obtain ⟨q', hq', k⟩ := r.blk i a hi2
      have := k.lt; rw [hq'] at hp; cases hp; cases hq; simp at hpq; omega
    · rw [hup i hi1] at hp; rw [hup j hj1] at hq
      exact r.inj i j a a' p q hi2 hj2 hp hq hpq
  · intro id x hx
    rcases hget id x hx with ⟨rfl, rfl⟩ | ⟨h1, h2⟩
    · exact ⟨_, upd_at _ _, hok⟩
    · obtain ⟨p, hp, k⟩ := r.blk id x h2
      exact ⟨p, (hup id h1).trans hp, k.mono hle (hold _ k.lt)⟩
  · intro g hg
    obtain ⟨p, hp, hpg⟩ := r.glob g hg
    exact ⟨p, hle _ _ hp, hpg⟩
  · intro id x p hx hr hp
    rcases hget id x hx with ⟨rfl, rfl⟩ | ⟨h1, h2⟩
    · rw [upd_at] at hp; cases hp; exact .inl (Nat.le_refl _)
    · exact .inr ⟨id, x, p, h2, hr, (hup id h1).symm.trans hp, rfl⟩

/-- One block is written. -/
theorem Step.write (r : Rel P e h w) {id : Nat} {b b' : Blk} {p : Nat × (Nat → Nat)} (hb : h.m.get id = some b) (hrw : b.rw = true) (hrw' : b'.rw = true) (hp : e id = some p)
    (hk : ∀ k, k ≠ p.1 → w1.heap[k]? = w.heap[k]?) (hs : w1.heap.size = w.heap.size) (ho : w1.os = w.os) (ht : w1.tape = w.tape) (hu : w1.output = w.output)
    (hok : BlkOK P e b' p w1) : Step P e h w e (h.put id b') w1 := by
  have hget : ∀ j x, (h.put id b').m.get j = some x → (j = id ∧ x = b') ∨ (j ≠ id ∧ h.m.get j = some x) := by
    intro j x hx
    unfold H.put at hx
    simp only at hx
    rw [get_put] at hx
    by_cases he : j = id
    · rw [if_pos he] at hx; exact .inl ⟨he, by simpa using hx.symm⟩
    · rw [if_neg he] at hx; exact .inr ⟨he, hx⟩
  have hne : ∀ j x q, j ≠ id → h.m.get j = some x → e j = some q → q.1 ≠ p.1 := fun j x q hj hx hq hqp => hj (r.inj j id x b q p hx hb hq hp hqp)
  refine ⟨Env.le_refl e, fun _ _ => rfl, Nat.le_refl _, ⟨fun j hj => r.dom j hj, ?_, ?_, r.glob, r.asm⟩, ho, ht, hu, by omega, ?_, fun j x hx hr => by
    rcases hget j x hx with ⟨_, rfl⟩ | ⟨_, h2⟩
    · rw [hrw'] at hr; cases hr
    · exact h2, ?_⟩
  · intro i j a a' q q' hi hj hq hq' hqq
    have hi' : ∃ x, h.m.get i = some x := by rcases hget i a hi with ⟨rfl, _⟩ | ⟨_, h2⟩ <;> exact ⟨_, ‹_›⟩
    have hj' : ∃ x, h.m.get j = some x := by rcases hget j a' hj with ⟨rfl, _⟩ | ⟨_, h2⟩ <;> exact ⟨_, ‹_›⟩
    obtain ⟨x, hx⟩ := hi'; obtain ⟨y, hy⟩ := hj'
    exact r.inj i j x y q q' hx hy hq hq' hqq
  · intro j x hx
    rcases hget j x hx with ⟨rfl, rfl⟩ | ⟨h1, h2⟩
    · exact ⟨p, hp, hok⟩
    · obtain ⟨q, hq, k⟩ := r.blk j x h2
      exact ⟨q, hq, k.mono (Env.le_refl e) (hk _ (hne j x q h1 h2 hq))⟩
  · intro k hk' hn
    exact hk k (fun he => hn id b p hb hrw hp he.symm)
  · intro j x q hx hr hq
    rcases hget j x hx with ⟨rfl, rfl⟩ | ⟨h1, h2⟩
    · rw [hp] at hq; cases hq; exact .inr ⟨j, b, p, hb, hrw, hp, rfl⟩
    · exact .inr ⟨j, x, q, h2, hr, hq, rfl⟩

/-- A block is given up: a new number for what it holds now (it lies where it lay, or elsewhere, in new memory). -/
theorem Step.moved (r : Rel P e h w) {id : Nat} {b b' : Blk} {p q : Nat × (Nat → Nat)} (hb : h.m.get id = some b) (hrw : b.rw = true) (hrw' : b'.rw = true) (hp : e id = some p)
    (hq : q.1 = p.1 ∨ w.heap.size ≤ q.1)
    (hk : ∀ k, k < w.heap.size → k ≠ q.1 → w1.heap[k]? = w.heap[k]?) (hs : w.heap.size ≤ w1.heap.size) (ho : w1.os = w.os) (ht : w1.tape = w.tape) (hu : w1.output = w.output)
    (hok : BlkOK P (upd e h.next q) b' q w1) : Step P e h w (upd e h.next q) ⟨h.next + 1, (h.m.del id).put h.next b', h.asm⟩ w1 := by
  have hn : e h.next = none := r.dom _ (Nat.le_refl _)
  have hle := le_upd (h := h) hn q
  have hup : ∀ j, j ≠ h.next → upd e h.next q j = e j := fun j hj => by simp [upd, hj]
  have hget : ∀ j x, ((h.m.del id).put h.next b').get j = some x → (j = h.next ∧ x = b') ∨ (j ≠ h.next ∧ j ≠ id ∧ h.m.get j = some x) := by
    intro j x hx
    rw [get_put] at hx
    by_cases he : j = h.next
    · rw [if_pos he] at hx; exact .inl ⟨he, by simpa using hx.symm⟩
    · rw [if_neg he, get_del] at hx
      by_cases hi : j = id
      · rw [if_pos hi] at hx; cases hx
      · rw [if_neg hi] at hx; exact .inr ⟨he, hi, hx⟩
  have hne : ∀ j x p', j ≠ id → h.m.get j = some x → e j = some p' → p'.1 ≠ q.1 := fun j x p' hj hx hp' he => by
    obtain ⟨p2, hp2, k⟩ := r.blk j x hx
    rw [hp'] at hp2; cases hp2
    have := k.lt
    rcases hq with hq | hq
    · exact hj (r.inj j id x b p' p hx hb hp' hp (he.trans hq))
    · omega
  refine ⟨hle, fun id hid => hup id (by omega), Nat.le_succ _, ⟨?_, ?_, ?_, ?_, r.asm⟩, ho, ht, hu, hs, ?_, fun j x hx hr => by
    rcases hget j x hx with ⟨_, rfl⟩ | ⟨_, _, h2⟩
    · rw [hrw'] at hr; cases hr
    · exact h2, ?_⟩
  · intro j hj
    have hj' : h.next + 1 ≤ j := hj
    rw [hup j (by omega)]; exact r.dom j (by omega)
  · intro i j a a' p1 p2 hi hj h1 h2 h12
    rcases hget i a hi with ⟨rfl, rfl⟩ | ⟨hi1, hi2, hi3⟩ <;> rcases hget j a' hj with ⟨hj1, hj2⟩ | ⟨hj1, hj2, hj3⟩
    · exact hj1.symm
    · rw [upd_at] at h1; cases h1; rw [hup j hj1] at h2; exact absurd h12.symm (hne j a' p2 hj2 hj3 h2)
    · subst hj1; rw [upd_at] at h2; cases h2; rw [hup i hi1] at h1; exact absurd h12 (hne i a p1 hi2 hi3 h1)
    · rw [hup i hi1] at h1; rw [hup j hj1] at h2; exact r.inj i j a a' p1 p2 hi3 hj3 h1 h2 h12
  · intro j x hx
    rcases hget j x hx with ⟨rfl, rfl⟩ | ⟨h1, h2, h3⟩
    · exact ⟨q, upd_at _ _, hok⟩
    · obtain ⟨p', hp', k⟩ := r.blk j x h3
      exact ⟨p', (hup j h1).trans hp', k.mono hle (hk _ k.lt (hne j x p' h2 h3 hp'))⟩
  · intro g hg
    obtain ⟨p', hp', hpg⟩ := r.glob g hg
    exact ⟨p', hle _ _ hp', hpg⟩
  · intro k hk' hn'
    refine hk k hk' (fun he => ?_)
    rcases hq with hq | hq
    · exact hn' id b p hb hrw hp (by rw [he, hq])
    · omega
  · intro j x p' hx hr hp'
    rcases hget j x hx with ⟨rfl, rfl⟩ | ⟨h1, h2, h3⟩
    · rw [upd_at] at hp'; cases hp'
      rcases hq with hq | hq
      · exact .inr ⟨id, b, p, hb, hrw, hp, hq.symm⟩
      · exact .inl hq
    · exact .inr ⟨j, x, p', h3, hr, (hup j h1).symm.trans hp', rfl⟩
end

/-! ### Frames -/
def TmOK (e : Env) (tm : Tm) (a : Array Value) : Prop := ∀ t v, tm.get t = some v → ∃ V, conc e v = some V ∧ a[t]? = some V
theorem TmOK.mono {e e1 : Env} {tm : Tm} {a : Array Value} (k : TmOK e tm a) (hle : e.le e1) : TmOK e1 tm a :=
  fun t v hv => by obtain ⟨V, h1, h2⟩ := k t v hv; exact ⟨V, conc_mono hle _ h1, h2⟩
theorem TmOK.put {e : Env} {tm : Tm} {a : Array Value} (k : TmOK e tm a) {d : Nat} {v : IV} {V : Value} (hd : d < a.size) (hv : conc e v = some V) : TmOK e (tm.put d v) (a.setIfInBounds d V) := by
  intro t u hu
  rw [get_put] at hu
  by_cases ht : t = d
  · subst ht; rw [if_pos rfl] at hu; cases hu; exact ⟨V, hv, by simp [hd]⟩
  · rw [if_neg ht] at hu
    obtain ⟨U, h1, h2⟩ := k t u hu
    exact ⟨U, h1, by rw [Array.getElem?_setIfInBounds]; simp [Ne.symm ht, h2]⟩
theorem TmOK.nil (e : Env) (a : Array Value) : TmOK e .nil a := fun t v hv => by rw [get_nil] at hv; cases hv
end Go.Den

/- D3 -/
set_option linter.unusedVariables false
set_option linter.unusedSimpArgs false
set_option linter.unusedSectionVars false
namespace Go.Den
variable [Interp]
section
variable {P : Program} {e : Env} {h : H} {w : World} {tm : Tm} {a : Act}

/-! ### Small laws -/
theorem leZ_eq (a b : Int) : leZ a b = decide (a ≤ b) := by
  cases a with
  | ofNat m => cases b with
    | ofNat n => show Nat.ble m n = _; rw [Bool.eq_iff_iff]; simp
    | negSucc n => show false = _; rw [Bool.eq_iff_iff]; simp; omega
  | negSucc m => cases b with
    | ofNat n => show true = _; rw [Bool.eq_iff_iff]; simp; omega
    | negSucc n => show Nat.ble n m = _; rw [Bool.eq_iff_iff]; simp; omega
theorem eqZ_eq (a b : Int) : eqZ a b = (a == b) := by
  cases a with
  | ofNat m => cases b with
    | ofNat n => show Nat.beq m n = _; rw [Bool.eq_iff_iff]; simp; omega
    | negSucc n => show false = _; rw [Bool.eq_iff_iff]; simp
  | negSucc m => cases b with
    | ofNat n => show false = _; rw [Bool.eq_iff_iff]; simp
    | negSucc n => show Nat.beq m n = _; rw [Bool.eq_iff_iff]; simp
theorem kindN_inj {j k : IntKind} (h : Nat.beq (kindN j) (kindN k) = true) : j = k := by
  cases j <;> cases k <;> first | rfl | (exact absurd h (by decide))
theorem eqU_eq : ∀ (a b : List UInt8), eqU a b = (a == b)
  | [], [] => rfl
  | [], _ :: _ => rfl
  | _ :: _, [] => rfl
  | x :: r, y :: s => by
    have h1 : eqU (x :: r) (y :: s) = @Bool.rec (fun _ => Bool) false (eqU r s) (Nat.beq x.toNat y.toNat) := rfl
    rw [h1, eqU_eq r s, List.cons_beq_cons]
    by_cases hxy : x = y
    · subst hxy; simp
    · have h2 : Nat.beq x.toNat y.toNat = false := by
        rw [Bool.eq_false_iff]; intro hc; exact hxy (UInt8.toNat_inj.1 (Nat.eq_of_beq_eq_true hc))
      rw [h2]; simp [hxy]
theorem ltU_eq : ∀ (a b : List UInt8), ltU a b = Op.bytesLess a b
  | [], [] => rfl
  | [], _ :: _ => rfl
  | _ :: _, [] => rfl
  | x :: r, y :: s => by
    have h1 : ltU (x :: r) (y :: s) = @Bool.rec (fun _ => Bool) (@Bool.rec (fun _ => Bool) false (ltU r s) (Nat.beq x.toNat y.toNat)) true (Nat.blt x.toNat y.toNat) := rfl
    rw [h1, ltU_eq r s]
    simp only [Op.bytesLess]
    by_cases hlt : x < y
    · have : Nat.blt x.toNat y.toNat = true := by simpa [Nat.blt_eq, UInt8.lt_iff_toNat_lt] using hlt
      rw [this]; simp [hlt]
    · have h2 : Nat.blt x.toNat y.toNat = false := by
        rw [Bool.eq_false_iff]; intro hc; exact hlt (by simpa [Nat.blt_eq, UInt8.lt_iff_toNat_lt] using hc)
      rw [h2]
      by_cases hxy : x = y
      · subst hxy; simp [hlt]
      · have h3 : Nat.beq x.toNat y.toNat = false := by
          rw [Bool.eq_false_iff]; intro hc; exact hxy (UInt8.toNat_inj.1 (Nat.eq_of_beq_eq_true hc))
        rw [h3]; simp [hlt, hxy]

/-! ### Operands -/
theorem ofScalar_ok {V : Value} {v : IV} (h : ofScalar V = some v) : conc e v = some V := by
  unfold ofScalar at h
  split at h <;> first | (cases h; done) | (cases h; simp only [conc])
theorem ofScalars_ok : ∀ {l : List Value} {vs : List IV}, ofScalars l = some vs → concL e vs = some l
  | [], vs, h => by cases h; rfl
  | V :: r, vs, h => by
    obtain ⟨v, h1, h2⟩ := ob_some h
    obtain ⟨l, h3, h4⟩ := ob_some h2
    cases h4
    exact concL_mk (ofScalar_ok h1) (ofScalars_ok h3)
theorem ofValue_ok {V : Value} {v : IV} (h : ofValue V = some v) : conc e v = some V := by
  unfold ofValue at h
  split at h
  · obtain ⟨l, h1, h2⟩ := ob_some h; cases h2; simp only [conc, ofScalars_ok h1]
  · obtain ⟨l, h1, h2⟩ := ob_some h; cases h2; simp only [conc, ofScalars_ok h1]
  · obtain ⟨l, h1, h2⟩ := ob_some h; cases h2; simp only [conc, ofScalar_ok h1]
  · exact ofScalar_ok h
theorem ev_ok (k : TmOK e tm a.tmps) (r : Rel P e h w) {x : Operand} {v : IV} (hx : ev P tm x = some v) : conc e v = some (a.eval x) := by
  cases x with
  | tmp t =>
    obtain ⟨V, h1, h2⟩ := k t v hx
    rw [h1]; simp [Act.eval, Array.getD_eq_getD_getElem?, h2]
  | const V => exact ofValue_ok hx
  | global g =>
    have hx' : @Bool.rec (fun _ => Option IV) none (some (.ptr g 0)) (Nat.blt g P.globals.size) = some v := hx
    cases hb : Nat.blt g P.globals.size with
    | false => rw [hb] at hx'; cases hx'
    | true =>
      rw [hb] at hx'; cases hx'
      obtain ⟨p, hp, hg⟩ := r.glob g (Nat.le_of_lt (by simpa [Nat.blt_eq] using hb))
      simp only [conc, hp, Act.eval, hg]
  | func f => cases hx; rfl
theorem evs_ok (k : TmOK e tm a.tmps) (r : Rel P e h w) : ∀ {l : List Operand} {vs : List IV}, evs P tm l = some vs → concL e vs = some (l.map a.eval)
  | [], vs, hx => by cases hx; rfl
  | x :: l, vs, hx => by
    obtain ⟨v, h1, h2⟩ := ob_some hx
    obtain ⟨vl, h3, h4⟩ := ob_some h2
    cases h4
    exact concL_mk (ev_ok k r h1) (evs_ok k r h3)
theorem evo_ok (k : TmOK e tm a.tmps) (r : Rel P e h w) {x : Option Operand} {v : Option IV} (hx : evo P tm x = some v) :
    match v with | none => x.map a.eval = none | some u => ∃ V, x.map a.eval = some V ∧ conc e u = some V := by
  cases x with
  | none => cases hx; rfl
  | some y => obtain ⟨u, h1, h2⟩ := ob_some hx; cases h2; exact ⟨_, rfl, ev_ok k r h1⟩

/-! ### Arithmetic, comparisons -/
theorem intOp_ok {op : BinOp} {k : IntKind} {x y : Int} {v : IV} {t : TypeId} (hs : op ≠ .shl) (hr : op ≠ .shr) (hv : intOp op k x y = some v) (w : World) :
    ∃ V, (binOp op t (.int k x) (.int k y)).run P w = .ok V w ∧ conc e v = some V := by
  have hlt : ∀ p q : Int, (!decide (q ≤ p)) = decide (p < q) := fun p q => by rw [Bool.eq_iff_iff]; simp
  have hge : ∀ p q : Int, decide (q ≤ p) = decide (p ≥ q) := fun p q => rfl
  cases op <;> simp only [intOp, leZ_eq, eqZ_eq, hlt] at hv <;>
    first
    | (exact absurd rfl hs) | (exact absurd rfl hr) | (cases hv; done)
    | (cases hv; refine ⟨_, ?_, rfl⟩; simp [binOp, Op.intArith, Op.intBits, Op.intCmp]; done)
    | (cases hv; refine ⟨_, ?_, rfl⟩; simp [binOp, Op.intArith, Op.intBits, Op.intCmp]; rfl)
    | (split at hv
       · cases hv
       · rename_i hz; cases hv
         have hz' : ¬ y = 0 := by simpa using hz
         exact ⟨_, by simp [binOp, Op.intDiv, hz'], rfl⟩)
theorem shiftOp_ok {left : Bool} {k j : IntKind} {x y : Int} {v : IV} {t : TypeId} (hv : shiftOp left k x y = some v) (w : World) :
    ∃ V, (binOp (if left then .shl else .shr) t (.int k x) (.int j y)).run P w = .ok V w ∧ conc e v = some V := by
  unfold shiftOp at hv
  cases y with
  | negSucc m => cases hv
  | ofNat m =>
    have h0 : ¬ ((m : Int) < 0) := by omega
    have hm : min m k.bits = Nat.min m k.bits := rfl
    cases left <;> cases hv <;> refine ⟨_, ?_, rfl⟩ <;> simp [binOp, Op.shift, hm, h0]
theorem size_ba (l : List UInt8) : (⟨l.toArray⟩ : ByteArray).size = l.length := by simp [ByteArray.size]
theorem toList_ba (l : List UInt8) : (⟨l.toArray⟩ : ByteArray).toList = l := by rw [ByteArray.toList_eq]
theorem strOp_ok {op : BinOp} {x y : List UInt8} {v : IV} {t : TypeId} (hv : strOp op x y = some v) (w : World) :
    ∃ V, (binOp op t (.string ⟨x.toArray⟩) (.string ⟨y.toArray⟩)).run P w = .ok V w ∧ conc e v = some V := by
  cases op <;> simp only [strOp, eqU_eq, ltU_eq] at hv <;>
    first
    | (cases hv; done)
    | (cases hv; exact ⟨_, by simp [binOp, Op.stringOp, toList_ba], rfl⟩)
    | skip
  split at hv
  · rename_i hle
    cases hv
    have hle' : x.length + y.length ≤ 9223372036854775807 := by simpa [Nat.ble_eq] using hle
    refine ⟨.string ⟨(x ++ y).toArray⟩, ?_, rfl⟩
    have hm : IntKind.i64.max = 9223372036854775807 := by decide
    have h1 : ¬ (((x.length + y.length : Nat) : Int) > 9223372036854775807) := by omega
    have h2 : (⟨x.toArray⟩ ++ ⟨y.toArray⟩ : ByteArray) = ⟨(x ++ y).toArray⟩ := by
      apply ByteArray.ext; simp
    simp only [binOp, Op.stringOp, size_ba, hm, if_neg h1, Sem.run_pure, h2]
  · cases hv

/-! ### Numbers of which only the form is known -/
theorem opN_inj {o q : BinOp} (h : Nat.beq (opN o) (opN q) = true) : o = q := by
  cases o <;> cases q <;> first | rfl | (exact absurd h (by decide))
theorem eqSE_eq : ∀ (a b : SE), eqSE a b = true → a = b
  | .v i, b, h => by
    cases b with
    | v j => have h' : Nat.beq i j = true := h
             rw [Nat.eq_of_beq_eq_true h']
    | _ => cases h
  | .n z, b, h => by
    cases b with
    | n y => have h' : eqZ z y = true := h
             rw [eqZ_eq] at h'
             have : z = y := by simpa using h'
             rw [this]
    | _ => cases h
  | .wrap k c, b, h => by
    cases b with
    | wrap j d =>
      have h' : @Bool.rec (fun _ => Bool) false (eqSE c d) (Nat.beq (kindN k) (kindN j)) = true := h
      cases hk : Nat.beq (kindN k) (kindN j) with
      | false => rw [hk] at h'; cases h'
      | true => rw [hk] at h'; rw [kindN_inj hk, eqSE_eq c d h']
    | _ => cases h
  | .bin o k c d, b, h => by
    cases b with
    | bin q j c' d' =>
      have h' : @Bool.rec (fun _ => Bool) false (@Bool.rec (fun _ => Bool) false (@Bool.rec (fun _ => Bool) false (eqSE d d') (eqSE c c')) (Nat.beq (kindN k) (kindN j))) (Nat.beq (opN o) (opN q)) = true := h
      cases ho : Nat.beq (opN o) (opN q) with
      | false => rw [ho] at h'; cases h'
      | true =>
        cases hk : Nat.beq (kindN k) (kindN j) with
        | false => rw [ho, hk] at h'; cases h'
        | true =>
          cases hc : eqSE c c' with
          | false => rw [ho, hk, hc] at h'; cases h'
          | true =>
            rw [ho, hk, hc] at h'
            rw [opN_inj ho, kindN_inj hk, eqSE_eq c c' hc, eqSE_eq d d' h']
    | _ => cases h
  | .lit s, b, h => by
    cases b with
    | lit u => have h' : eqU s u = true := h
               rw [eqU_eq] at h'
               have : s = u := by simpa using h'
               rw [this]
    | _ => cases h
  | .app f c d g, b, h => by
    cases b with
    | app f' c' d' g' =>
      have h' : @Bool.rec (fun _ => Bool) false (@Bool.rec (fun _ => Bool) false (@Bool.rec (fun _ => Bool) false (eqSE g g') (eqSE d d')) (eqSE c c')) (Nat.beq f f') = true := h
      cases ho : Nat.beq f f' with
      | false => rw [ho] at h'; cases h'
      | true =>
        cases hk : eqSE c c' with
        | false => rw [ho, hk] at h'; cases h'
        | true =>
          cases hc : eqSE d d' with
          | false => rw [ho, hk, hc] at h'; cases h'
          | true =>
            rw [ho, hk, hc] at h'
            rw [Nat.eq_of_beq_eq_true ho, eqSE_eq c c' hk, eqSE_eq d d' hc, eqSE_eq g g' h']
    | _ => cases h
/-! #### What the terms are -/
theorem den_len (ρ : Nat → Dy) (t : SE) : (tLen t).den ρ = (t.str ρ).length := by cases t <;> rfl
theorem den_byte (ρ : Nat → Dy) (t i : SE) : (tByte t i).den ρ = (((t.str ρ)[(i.den ρ).toNat]?).getD 0).toNat := rfl
theorem str_sub (ρ : Nat → Dy) (t lo hi : SE) : (tSub t lo hi).str ρ = ((t.str ρ).take (hi.den ρ).toNat).drop (lo.den ρ).toNat := rfl
theorem str_cat (ρ : Nat → Dy) (a b : SE) : (tCat a b).str ρ = a.str ρ ++ b.str ρ := rfl
theorem str_chr (ρ : Nat → Dy) (a : SE) : (tChr a).str ρ = [UInt8.ofNat (a.den ρ).toNat] := rfl
theorem den_rows (ρ : Nat → Dy) (t : SE) : (tRows t).den ρ = (t.row ρ).length := rfl
theorem den_add (ρ : Nat → Dy) (a b : SE) : (tAdd a b).den ρ = a.den ρ + b.den ρ := by
  unfold tAdd
  split
  · split
    · rw [den_n]; simp
    · rfl
  · rfl
theorem den_minus (ρ : Nat → Dy) (a b : SE) : (tMinus a b).den ρ = a.den ρ - b.den ρ := by
  unfold tMinus
  split
  · split
    · rw [den_n]; simp
    · rfl
  · rfl
theorem row_catR (ρ : Nat → Dy) (a b : SE) : (tCatR a b).row ρ = a.row ρ ++ b.row ρ := rfl
theorem row_row (ρ : Nat → Dy) (a b : SE) : (tRow a b).row ρ = (a.row ρ).map fun x => x ++ [(b.den ρ, b.str ρ)] := rfl
theorem row_row0 (ρ : Nat → Dy) : tRow0.row ρ = [[]] := rfl
theorem natT_ok {ρ : Nat → Dy} {t : SE} (h : natT t = true) : 0 ≤ t.den ρ := by
  unfold natT at h
  split at h
  · rename_i z; rw [den_n]; simp
  · rename_i f a b c
    simp only [Bool.or_eq_true] at h
    rcases h with (h | h) | h <;> (have := Nat.eq_of_beq_eq_true h; subst this)
    · show (0 : Int) ≤ ((a.str ρ).length : Int); omega
    · show (0 : Int) ≤ (((((a.str ρ)[(b.den ρ).toNat]?).getD 0).toNat : Nat) : Int); omega
    · show (0 : Int) ≤ ((a.row ρ).length : Int); omega
  · cases h
theorem nonneg_ok {asm : Asm} {ρ : Nat → Dy} (ha : AsmOK asm ρ) {t : SE} (h : nonneg asm t = true) : 0 ≤ t.den ρ := by
  have h' : @Bool.rec (fun _ => Bool) (match asm .lt t (.n 0) with | some false => true | _ => false) true (natT t) = true := h
  cases hn : natT t with
  | true => exact natT_ok hn
  | false =>
    rw [hn] at h'
    split at h'
    · rename_i h1
      have h2 : decide (t.den ρ < (SE.n 0).den ρ) = false := ha .lt _ _ _ h1
      rw [den_n] at h2
      simpa using h2
    · cases h'
theorem isZ_ok {ρ : Nat → Dy} {t : SE} (h : isZ t = true) : t.den ρ = 0 := by
  unfold isZ at h
  split at h
  · rename_i z; rw [eqZ_eq] at h; rw [den_n]; simpa using h
  · cases h
theorem less_ok {asm : Asm} {ρ : Nat → Dy} (ha : AsmOK asm ρ) {a b : SE} (h : less asm a b = true) : a.den ρ < b.den ρ := by
  unfold less at h
  split at h
  · rename_i h1
    have h2 : decide (a.den ρ < b.den ρ) = true := ha .lt _ _ _ h1
    simpa using h2
  · cases h
theorem leq_ok {asm : Asm} {ρ : Nat → Dy} (ha : AsmOK asm ρ) {a b : SE} (h : leq asm a b = true) : a.den ρ ≤ b.den ρ := by
  have h' : @Bool.rec (fun _ => Bool) (@Bool.rec (fun _ => Bool) (match asm .le a b with | some true => true | _ => false) true (eqSE a b)) (nonneg asm b) (isZ a) = true := h
  cases hz : isZ a with
  | true => rw [hz] at h'; rw [isZ_ok hz]; exact nonneg_ok ha h'
  | false =>
    rw [hz] at h'
    cases he : eqSE a b with
    | true => rw [eqSE_eq a b he]; omega
    | false =>
      rw [he] at h'
      dsimp only at h'
      split at h'
      · rename_i h1
        have h2 : decide (a.den ρ ≤ b.den ρ) = true := ha .le _ _ _ h1
        simpa using h2
      · cases h'
theorem inB_ok {asm : Asm} {ρ : Nat → Dy} (ha : AsmOK asm ρ) {i l : SE} (h : inB asm i l = true) : 0 ≤ i.den ρ ∧ i.den ρ < l.den ρ := by
  have h' : @Bool.rec (fun _ => Bool) false (less asm i l) (nonneg asm i) = true := h
  cases hn : nonneg asm i with
  | false => rw [hn] at h'; cases h'
  | true => rw [hn] at h'; exact ⟨nonneg_ok ha hn, less_ok ha h'⟩
theorem toSI_ok {x : IV} {t : SE} {V : Value} (h : toSI x = some t) (hc : conc e x = some V) : ∃ k, V = .int k (t.den e.ρ) := by
  unfold toSI at h
  split at h
  · cases h; simp only [conc] at hc; cases hc; exact ⟨_, rfl⟩
  · cases h; simp only [conc] at hc; cases hc; exact ⟨_, rfl⟩
  · cases h
theorem toSS_ok {x : IV} {t : SE} {V : Value} (h : toSS x = some t) (hc : conc e x = some V) : V = .string ⟨(t.str e.ρ).toArray⟩ := by
  unfold toSS at h
  split at h
  · cases h; simp only [conc] at hc; cases hc; rfl
  · cases h; simp only [conc] at hc; cases hc; rfl
  · cases h
theorem symEqS_ok {asm : Asm} {ρ : Nat → Dy} (ha : AsmOK asm ρ) {x y : SE} {r : Bool} (hr : symEqS asm x y = some r) : (x.str ρ == y.str ρ) = r := by
  have h' : @Bool.rec (fun _ => Option Bool) (asm .seq x y) (some true) (eqSE x y) = some r := hr
  cases hb : eqSE x y with
  | true => rw [hb] at h'; cases h'; rw [eqSE_eq x y hb]; simp
  | false => rw [hb] at h'; exact ha .seq x y r h'
theorem strOpS_ok {asm : Asm} {op : BinOp} {x y : SE} {v : IV} {t : TypeId} (ha : AsmOK asm e.ρ) (hv : strOpS asm op x y = some v) (w : World) :
    ∃ V, (binOp op t (.string ⟨(x.str e.ρ).toArray⟩) (.string ⟨(y.str e.ρ).toArray⟩)).run P w = .ok V w ∧ conc e v = some V := by
  have comp : ∀ r : Bool, v = .bool r → strOp op (x.str e.ρ) (y.str e.ρ) = some (.bool r) → ∃ V, (binOp op t (.string ⟨(x.str e.ρ).toArray⟩) (.string ⟨(y.str e.ρ).toArray⟩)).run P w = .ok V w ∧ conc e v = some V := by
    intro r hv' hi
    rw [hv']; exact strOp_ok hi w
  cases op <;> simp only [strOpS] at hv
  case add =>
    split at hv
    · rename_i h1
      cases hv
      have h2 : decide (((SE.app 0 (tCat x y) (.n 0) (.n 0)).den e.ρ) ≤ (SE.n 9223372036854775807).den e.ρ) = true := ha .le _ _ _ h1
      rw [den_n] at h2
      have h3 : (SE.app 0 (tCat x y) (.n 0) (.n 0)).den e.ρ = ((x.str e.ρ ++ y.str e.ρ).length : Int) := rfl
      rw [h3] at h2
      have h4 : (x.str e.ρ).length + (y.str e.ρ).length ≤ 9223372036854775807 := by
        simp only [decide_eq_true_eq, List.length_append] at h2; omega
      have h5 : strOp .add (x.str e.ρ) (y.str e.ρ) = some (.str (x.str e.ρ ++ y.str e.ρ)) := by
        simp only [strOp]
        split
        · rfl
        · rename_i hb; rw [← Bool.not_eq_true, Nat.ble_eq] at hb; exact absurd h4 hb
      obtain ⟨V, q1, q2⟩ := strOp_ok (e := e) (t := t) h5 w
      exact ⟨V, q1, q2⟩
    · cases hv
  case eql => obtain ⟨r, h1, h2⟩ := ob_some hv; cases h2; exact comp r rfl (by simp only [strOp, eqU_eq, symEqS_ok ha h1])
  case neq => obtain ⟨r, h1, h2⟩ := ob_some hv; cases h2; exact comp (!r) rfl (by simp only [strOp, eqU_eq, symEqS_ok ha h1])
  all_goals cases hv
theorem shiftS_ok {asm : Asm} {op : BinOp} {k j : IntKind} {x y : SE} {v : IV} {t : TypeId} (ha : AsmOK asm e.ρ) (hv : shiftS asm op k x y = some v) (w : World) :
    ∃ V, (binOp op t (.int k (x.den e.ρ)) (.int j (y.den e.ρ))).run P w = .ok V w ∧ conc e v = some V := by
  have key : ∀ left : Bool, 0 ≤ y.den e.ρ → ∃ V, (binOp (if left then .shl else .shr) t (.int k (x.den e.ρ)) (.int j (y.den e.ρ))).run P w = .ok V w ∧ V = .int k (binV (if left then .shl else .shr) k (x.den e.ρ) (y.den e.ρ)) := by
    intro left h0
    obtain ⟨m, hm⟩ : ∃ m : Nat, y.den e.ρ = Int.ofNat m := ⟨(y.den e.ρ).toNat, by rw [Int.ofNat_eq_natCast]; omega⟩
    rw [hm]
    have hs : shiftOp left k (x.den e.ρ) (Int.ofNat m) = some (.int k (binV (if left then .shl else .shr) k (x.den e.ρ) (Int.ofNat m))) := by cases left <;> rfl
    obtain ⟨V, q1, q2⟩ := shiftOp_ok (e := e) (j := j) (t := t) hs w
    simp only [conc] at q2; cases q2
    exact ⟨_, q1, rfl⟩
  cases op <;> simp only [shiftS] at hv
  case shl =>
    split at hv
    · rename_i h1; cases hv
      obtain ⟨V, q1, rfl⟩ := key true (nonneg_ok ha h1)
      exact ⟨_, q1, rfl⟩
    · cases hv
  case shr =>
    split at hv
    · rename_i h1; cases hv
      obtain ⟨V, q1, rfl⟩ := key false (nonneg_ok ha h1)
      exact ⟨_, q1, rfl⟩
    · cases hv
  all_goals cases hv
theorem symEq_ok {asm : Asm} {ρ : Nat → Dy} (ha : AsmOK asm ρ) {x y : SE} {r : Bool} (hr : symEq asm x y = some r) : (x.den ρ == y.den ρ) = r := by
  have h' : @Bool.rec (fun _ => Option Bool) (asm .eq x y) (some true) (eqSE x y) = some r := hr
  cases hb : eqSE x y with
  | true => rw [hb] at h'; cases h'; rw [eqSE_eq x y hb]; simp
  | false => rw [hb] at h'; exact ha .eq x y r h'
theorem symNZ_ok {asm : Asm} {ρ : Nat → Dy} (ha : AsmOK asm ρ) {x : SE} (hr : symNZ asm x = true) : eqZ (x.den ρ) 0 = false := by
  unfold symNZ at hr
  split at hr
  · rename_i z; rw [den_n]; simpa using hr
  · split at hr
    · rename_i h1; have := ha .eq _ _ _ h1; rw [eqZ_eq]; exact this
    · cases hr
theorem symOp_ok {asm : Asm} {op : BinOp} {k : IntKind} {x y : SE} {v : IV} {t : TypeId} (ha : AsmOK asm e.ρ) (hv : symOp asm op k x y = some v) (w : World) :
    ∃ V, (binOp op t (.int k (x.den e.ρ)) (.int k (y.den e.ρ))).run P w = .ok V w ∧ conc e v = some V := by
  have arith : ∀ (hs : op ≠ .shl) (hr : op ≠ .shr), v = .sint k (.bin op k x y) → intOp op k (x.den e.ρ) (y.den e.ρ) = some (.int k (binV op k (x.den e.ρ) (y.den e.ρ))) → ∃ V, (binOp op t (.int k (x.den e.ρ)) (.int k (y.den e.ρ))).run P w = .ok V w ∧ conc e v = some V := by
    intro hs hr hv' hi
    obtain ⟨V, h1, h2⟩ := intOp_ok (e := e) (t := t) hs hr hi w
    refine ⟨V, h1, ?_⟩
    rw [hv']
    simp only [conc] at h2 ⊢
    exact h2
  have comp : ∀ (hs : op ≠ .shl) (hr : op ≠ .shr) (r : Bool), v = .bool r → intOp op k (x.den e.ρ) (y.den e.ρ) = some (.bool r) → ∃ V, (binOp op t (.int k (x.den e.ρ)) (.int k (y.den e.ρ))).run P w = .ok V w ∧ conc e v = some V := by
    intro hs hr r hv' hi
    rw [hv']
    exact intOp_ok hs hr hi w
  cases op <;> simp only [symOp] at hv
  case add => cases hv; exact arith (by decide) (by decide) rfl rfl
  case sub => cases hv; exact arith (by decide) (by decide) rfl rfl
  case mul => cases hv; exact arith (by decide) (by decide) rfl rfl
  case and => cases hv; exact arith (by decide) (by decide) rfl rfl
  case or => cases hv; exact arith (by decide) (by decide) rfl rfl
  case xor => cases hv; exact arith (by decide) (by decide) rfl rfl
  case andNot => cases hv; exact arith (by decide) (by decide) rfl rfl
  case quo =>
    split at hv
    · rename_i hz; cases hv; exact arith (by decide) (by decide) rfl (by simp only [intOp, symNZ_ok ha hz]; rfl)
    · cases hv
  case rem =>
    split at hv
    · rename_i hz; cases hv; exact arith (by decide) (by decide) rfl (by simp only [intOp, symNZ_ok ha hz]; rfl)
    · cases hv
  case eql => obtain ⟨r, h1, h2⟩ := ob_some hv; cases h2; exact comp (by decide) (by decide) r rfl (by simp only [intOp, eqZ_eq, symEq_ok ha h1])
  case neq => obtain ⟨r, h1, h2⟩ := ob_some hv; cases h2; exact comp (by decide) (by decide) (!r) rfl (by simp only [intOp, eqZ_eq, symEq_ok ha h1])
  case lss =>
    obtain ⟨r, h1, h2⟩ := ob_some hv; cases h2
    have h3 : decide (x.den e.ρ < y.den e.ρ) = r := ha .lt x y r h1
    exact comp (by decide) (by decide) r rfl (by simp only [intOp, leZ_eq, ← h3]; congr 2; rw [Bool.eq_iff_iff]; simp)
  case leq =>
    obtain ⟨r, h1, h2⟩ := ob_some hv; cases h2
    have h3 : decide (x.den e.ρ ≤ y.den e.ρ) = r := ha .le x y r h1
    exact comp (by decide) (by decide) r rfl (by simp only [intOp, leZ_eq, ← h3])
  case gtr =>
    obtain ⟨r, h1, h2⟩ := ob_some hv; cases h2
    have h3 : decide (y.den e.ρ < x.den e.ρ) = r := ha .lt y x r h1
    exact comp (by decide) (by decide) r rfl (by simp only [intOp, leZ_eq, ← h3]; congr 2; rw [Bool.eq_iff_iff]; simp)
  case geq =>
    obtain ⟨r, h1, h2⟩ := ob_some hv; cases h2
    have h3 : decide (y.den e.ρ ≤ x.den e.ρ) = r := ha .le y x r h1
    exact comp (by decide) (by decide) r rfl (by simp only [intOp, leZ_eq, ← h3])
  all_goals cases hv
end
end Go.Den

/- D4 -/
set_option linter.unusedVariables false
set_option linter.unusedSimpArgs false
set_option linter.unusedSectionVars false
namespace Go.Den
variable [Interp]
section
variable {P : Program} {e : Env} {h : H} {w : World} {tm : Tm} {a : Act} {asm : Asm}

theorem concL_drop : ∀ (n : Nat) {cs : List IV} {L : List Value}, concL e cs = some L → concL e (cs.drop n) = some (L.drop n)
  | 0, cs, L, hc => by simpa using hc
  | n + 1, [], L, hc => by simp only [concL] at hc; cases hc; simp [concL]
  | n + 1, c :: cs, L, hc => by obtain ⟨V, R, hv, hr, rfl⟩ := concL_cons hc; simpa using concL_drop n hr
theorem concL_take : ∀ (n : Nat) {cs : List IV} {L : List Value}, concL e cs = some L → concL e (cs.take n) = some (L.take n)
  | 0, cs, L, hc => by simp [concL]
  | n + 1, [], L, hc => by simp only [concL] at hc; cases hc; simp [concL]
  | n + 1, c :: cs, L, hc => by obtain ⟨V, R, hv, hr, rfl⟩ := concL_cons hc; simpa using concL_mk hv (concL_take n hr)

theorem size_ok {t : TypeId} {n : Nat} (hn : size P t = some n) (w : World) : (sizeOf t).run P w = .ok n w := by
  unfold size at hn
  split at hn
  · rename_i i hi; cases hn; simp [sizeOf, typeInfo, hi]
  · cases hn
theorem size_info {t : TypeId} {n : Nat} (hn : size P t = some n) : ∃ i, P.info? t = some i ∧ i.size = n := by
  unfold size at hn
  split at hn
  · rename_i i hi; cases hn; exact ⟨i, hi, rfl⟩
  · cases hn
theorem zero_ok {t : TypeId} {z : IV} (hz : zero P t = some z) : ∃ i Z, P.info? t = some i ∧ i.zero = some Z ∧ ofValue Z = some z := by
  unfold zero at hz
  split at hz
  · rename_i i hi
    split at hz
    · rename_i Z hZ; exact ⟨i, Z, hi, hZ, hz⟩
    · cases hz
  · cases hz
theorem run_zeroValue' {t : TypeId} {i : TypeInfo} {Z : Value} (hi : P.info? t = some i) (hz : i.zero = some Z) (w : World) : (zeroValue t).run P w = .ok Z w := by
  simp [zeroValue, typeInfo, hi, hz]
theorem isAgg_ok {t : TypeId} {b : Bool} (hb : isAgg P t = some b) (w : World) : (Go.isAgg t).run P w = .ok b w := by
  unfold isAgg at hb
  split at hb
  · rename_i hu; cases hb; simp [Go.isAgg, run_underlying hu]
  · rename_i hu; cases hb; simp [Go.isAgg, run_underlying hu]
  · rename_i u h1 h2 hu
    cases hb
    simp only [Go.isAgg, Sem.run_bind, run_underlying hu, Result.andThen_ok]
    cases u <;> first | rfl | (exact (h1 _ rfl).elim) | (exact (h2 _ _ rfl).elim)
  · cases hb
theorem part_ok {t : TypeId} {cs : List IV} {off : Nat} {v : IV} {L : List Value} (hp : part P t cs off = some v) (hc : concL e cs = some L) (w : World) :
    ∃ V, (Go.part t L.toArray off).run P w = .ok V w ∧ conc e v = some V := by
  obtain ⟨b, hb, h1⟩ := ob_some hp
  cases b with
  | true =>
    obtain ⟨n, hn, h2⟩ := ob_some h1
    cases h2
    refine ⟨.agg (L.toArray.extract off (off + n)), ?_, ?_⟩
    · simp [Go.part, isAgg_ok hb, size_ok hn]
    · simp only [conc, concL_take n (concL_drop off hc)]
      congr 2
      apply Array.ext'
      simp
  | false =>
    obtain ⟨V, h2, h3⟩ := concL_get hc off v h1
    exact ⟨V, by simp [Go.part, isAgg_ok hb, h3], h2⟩

theorem eqFields_ok {d D : Nat} (hd : ∀ t x y b X Y (w : World), eqv P asm d t x y = some b → conc e x = some X → conc e y = some Y → (Op.equalIn D t X Y).run P w = .ok b w)
    {xs ys : List IV} {XS YS : List Value} (hx : concL e xs = some XS) (hy : concL e ys = some YS) (w : World) :
    ∀ (l : List Field) {b : Bool}, eqFields P (eqv P asm d) l xs ys = some b → (Op.eqFields D XS.toArray YS.toArray l).run P w = .ok b w
  | [], b, hb => by cases hb; rfl
  | f :: r, b, hb => by
    have hb' : @Bool.rec (fun _ => Option Bool)
      (ob (part P f.type xs f.offset) fun x => ob (part P f.type ys f.offset) fun y => ob (eqv P asm d f.type x y) fun e => @Bool.rec (fun _ => Option Bool) (some false) (eqFields P (eqv P asm d) r xs ys) e) (eqFields P (eqv P asm d) r xs ys) (f.name == "_") = some b := hb
    simp only [Op.eqFields]
    cases hn : (f.name == "_") with
    | true =>
      rw [hn] at hb'
      have : ¬ (f.name ≠ "_") := by simpa using hn
      rw [if_neg this]
      exact eqFields_ok hd hx hy w r hb'
    | false =>
      rw [hn] at hb'
      have : f.name ≠ "_" := by simpa using hn
      rw [if_pos this]
      obtain ⟨x, h1, h2⟩ := ob_some hb'
      obtain ⟨y, h3, h4⟩ := ob_some h2
      obtain ⟨c, h5, h6⟩ := ob_some h4
      obtain ⟨X, h7, h8⟩ := part_ok h1 hx w
      obtain ⟨Y, h9, h10⟩ := part_ok h3 hy w
      have h11 := hd _ _ _ _ _ _ w h5 h8 h10
      simp only [Sem.run_bind, h7, h9, h11, Result.andThen_ok, Sem.run_ite]
      cases c with
      | true => simpa using eqFields_ok hd hx hy w r h6
      | false => cases h6; simp
set_option maxHeartbeats 2000000 in
theorem eqv_ok (ha : AsmOK asm e.ρ) : ∀ (d D : Nat), d ≤ D → ∀ (t : TypeId) (x y : IV) (b : Bool) (X Y : Value) (w : World), eqv P asm d t x y = some b → conc e x = some X → conc e y = some Y → (Op.equalIn D t X Y).run P w = .ok b w
  | 0, D, _, t, x, y, b, X, Y, w, hb, _, _ => by cases hb
  | d + 1, 0, hd, _, _, _, _, _, _, _, _, _, _ => by omega
  | d + 1, D + 1, hd, t, x, y, b, X, Y, w, hb, hx, hy => by
    have ih := eqv_ok ha d D (by omega)
    have hb' : eqvStep P asm (eqv P asm d) t x y = some b := hb
    obtain ⟨u, hu, h1⟩ := ob_some hb'
    clear hb hb'
    split at h1
    · simp only [conc] at hx hy; cases hx; cases hy; cases h1; simp [Op.equalIn, run_underlying hu]
    · simp only [conc] at hx hy; cases hx; cases hy
      split at h1
      · rename_i hk; have := kindN_inj hk; subst this; cases h1; simp [Op.equalIn, run_underlying hu, eqZ_eq]
      · cases h1
    · simp only [conc] at hx hy; cases hx; cases hy
      split at h1
      · rename_i hk; have := kindN_inj hk; subst this; simp [Op.equalIn, run_underlying hu, symEq_ok ha h1]
      · cases h1
    · simp only [conc] at hx hy; cases hx; cases hy
      split at h1
      · rename_i hk; have := kindN_inj hk; subst this
        have := symEq_ok ha h1
        simp only [den_n] at this
        simp [Op.equalIn, run_underlying hu, this]
      · cases h1
    · simp only [conc] at hx hy; cases hx; cases hy
      split at h1
      · rename_i hk; have := kindN_inj hk; subst this
        have := symEq_ok ha h1
        simp only [den_n] at this
        simp [Op.equalIn, run_underlying hu, this]
      · cases h1
    · simp only [conc] at hx hy; cases hx; cases hy; cases h1; simp [Op.equalIn, run_underlying hu]
    · simp only [conc] at hx hy; cases hx; cases hy; cases h1; simp [Op.equalIn, run_underlying hu]
    · simp only [conc] at hx hy; cases hx; cases hy; cases h1; simp [Op.equalIn, run_underlying hu, eqU_eq, beq_toListBytes, toList_ba]
    · simp only [conc] at hx hy; cases hx; cases hy
      have := symEqS_ok ha h1
      rw [str_lit] at this
      simp [Op.equalIn, run_underlying hu, beq_toListBytes, toList_ba, this]
    · simp only [conc] at hx hy; cases hx; cases hy
      have := symEqS_ok ha h1
      rw [str_lit] at this
      simp [Op.equalIn, run_underlying hu, beq_toListBytes, toList_ba, this]
    · simp only [conc] at hx hy; cases hx; cases hy
      have := symEqS_ok ha h1
      simp [Op.equalIn, run_underlying hu, beq_toListBytes, toList_ba, this]
    · simp only [conc] at hx hy; cases hx; cases hy; cases h1; simp [Op.equalIn, run_underlying hu]
    · simp only [conc] at hx; cases hx; obtain ⟨p, hp, rfl⟩ := conc_ptr hy; cases h1; simp [Op.equalIn, run_underlying hu]
    · simp only [conc] at hy; cases hy; obtain ⟨p, hp, rfl⟩ := conc_ptr hx; cases h1; simp [Op.equalIn, run_underlying hu]
    · simp only [conc] at hx hy; cases hx; cases hy; cases h1; simp [Op.equalIn, run_underlying hu]
    · simp only [conc] at hx; cases hx; obtain ⟨p, hp, rfl⟩ := conc_iface hy; cases h1; simp [Op.equalIn, run_underlying hu]
    · simp only [conc] at hy; cases hy; obtain ⟨p, hp, rfl⟩ := conc_iface hx; cases h1; simp [Op.equalIn, run_underlying hu]
    · obtain ⟨U, hU, rfl⟩ := conc_iface hx; obtain ⟨U', hU', rfl⟩ := conc_iface hy
      split at h1
      · rename_i tx vx ty vy bb hk
        cases h1
        have : tx ≠ ty := fun he => by subst he; simp at hk
        simp [Op.equalIn, run_underlying hu, this]
      · rename_i tx vx ty vy bb hk
        have := Nat.eq_of_beq_eq_true hk; subst this
        obtain ⟨i, hi, h2⟩ := ob_some h1
        split at h2
        · rename_i hc
          have h3 := ih _ _ _ _ _ _ w h2 hU hU'
          simp [Op.equalIn, run_underlying hu, typeInfo, hi, hc, h3]
        · cases h2
    · obtain ⟨XS, hX, rfl⟩ := conc_agg hx; obtain ⟨YS, hY, rfl⟩ := conc_agg hy
      split at h1
      · cases h1
      · rename_i fields xs ys bb hs
        have hf : P.fieldsOf t = fields := by simp [Program.fieldsOf, hu]
        rw [run_equalIn_struct w D t XS.toArray YS.toArray (by rw [hf]; exact hu) hs, hf]
        exact eqFields_ok (fun t x y b X Y w h1 h2 h3 => ih t x y b X Y w h1 h2 h3) hX hY w _ h1
    · simp only [conc] at hx hy; cases hx; cases hy; cases h1; simp [Op.equalIn, run_underlying hu]
    · simp only [conc] at hx; cases hx; obtain ⟨p, hp, rfl⟩ := conc_slice hy; cases h1; simp [Op.equalIn, run_underlying hu]
    · simp only [conc] at hy; cases hy; obtain ⟨p, hp, rfl⟩ := conc_slice hx; cases h1; simp [Op.equalIn, run_underlying hu]
    · simp only [conc] at hx; cases hx; obtain ⟨p, hp, _, rfl⟩ := conc_sslice hy; cases h1; simp [Op.equalIn, run_underlying hu]
    · simp only [conc] at hy; cases hy; obtain ⟨p, hp, _, rfl⟩ := conc_sslice hx; cases h1; simp [Op.equalIn, run_underlying hu]
    · simp only [conc] at hx; cases hx; obtain ⟨p, hp, _, rfl⟩ := conc_sptr hy; cases h1; simp [Op.equalIn, run_underlying hu]
    · simp only [conc] at hy; cases hy; obtain ⟨p, hp, _, rfl⟩ := conc_sptr hx; cases h1; simp [Op.equalIn, run_underlying hu]
    · simp only [conc] at hx hy; cases hx; cases hy; cases h1; simp [Op.equalIn, run_underlying hu]
    · simp only [conc] at hx; cases hx; obtain ⟨A, C, h2, h3, rfl⟩ := conc_func hy; cases h1; simp [Op.equalIn, run_underlying hu]
    · simp only [conc] at hy; cases hy; obtain ⟨A, C, h2, h3, rfl⟩ := conc_func hx; cases h1; simp [Op.equalIn, run_underlying hu]
    · simp only [conc] at hx hy; cases hx; cases hy
      split at h1
      · rename_i hk hsz
        have := Nat.eq_of_beq_eq_true hk
        subst this
        cases h1
        obtain ⟨j, hj, _⟩ := size_info hsz
        have hsame : ∀ (a : Addr) (w : World), (sameAddr a a).run P w = .ok true w := fun a w => by simp [sameAddr]
        simp [Op.equalIn, run_underlying hu, sizeOf, typeInfo, hj, hsame]
      · cases h1
    · cases h1

theorem conc_inv {x : IV} {X : Value} (hx : conc e x = some X) :
    match X with | .int k n => x = .int k n ∨ ∃ s, x = .sint k s | .string s => x = .str s.data.toList ∨ ∃ u, x = .sstr u | .float _ _ => False | .complex _ _ _ => False | .chan _ => False | .bool b => x = .bool b | _ => True := by
  cases x with
  | ptr b o => obtain ⟨p, hp, rfl⟩ := conc_ptr hx; trivial
  | slice b o l c => obtain ⟨p, hp, rfl⟩ := conc_slice hx; trivial
  | sptr b sz i j => obtain ⟨p, hp, _, rfl⟩ := conc_sptr hx; trivial
  | sslice b sz o l c => obtain ⟨p, hp, _, rfl⟩ := conc_sslice hx; trivial
  | str s => simp only [conc] at hx; cases hx; exact .inl rfl
  | sstr s => simp only [conc] at hx; cases hx; exact .inr ⟨s, rfl⟩
  | map b => obtain ⟨p, hp, rfl⟩ := conc_map hx; trivial
  | func fn a c => obtain ⟨A, C, h1, h2, rfl⟩ := conc_func hx; trivial
  | iface t v => obtain ⟨U, h1, rfl⟩ := conc_iface hx; trivial
  | agg cs => obtain ⟨C, h1, rfl⟩ := conc_agg hx; trivial
  | tuple cs => obtain ⟨C, h1, rfl⟩ := conc_tuple hx; trivial
  | int k n => simp only [conc] at hx; cases hx; exact .inl rfl
  | sint k s => simp only [conc] at hx; cases hx; exact .inr ⟨s, rfl⟩
  | _ => simp only [conc] at hx; cases hx; first | rfl | trivial | simp
theorem binOp_eql {t : TypeId} {x y : IV} {X Y : Value} (hx : conc e x = some X) (hy : conc e y = some Y)
    (h1 : ∀ k m k' n, X = .int k m → Y = .int k' n → False) (h2 : ∀ s r, X = .string s → Y = .string r → False) :
    binOp .eql t X Y = (do pure (.bool (← Op.equal t X Y))) ∧ binOp .neq t X Y = (do pure (.bool (!(← Op.equal t X Y)))) := by
  have ix := conc_inv hx
  have iy := conc_inv hy
  cases X <;> cases Y <;> first
    | exact ⟨rfl, rfl⟩
    | (exact (h1 _ _ _ _ rfl rfl).elim)
    | (exact (h2 _ _ rfl rfl).elim)
    | (exact ix.elim)
    | (exact iy.elim)
theorem symShift_ok {left : Bool} {k j : IntKind} {s : SE} {m : Nat} {t : TypeId} (w : World) :
    ∃ V, (binOp (if left then .shl else .shr) t (.int k (s.den e.ρ)) (.int j (Int.ofNat m))).run P w = .ok V w ∧ conc e (.sint k (.bin (if left then .shl else .shr) k s (.n m))) = some V := by
  cases left with
  | true =>
    obtain ⟨V, h1, h2⟩ := shiftOp_ok (P := P) (e := e) (left := true) (k := k) (j := j) (x := s.den e.ρ) (y := Int.ofNat m) (t := t) rfl w
    refine ⟨V, h1, ?_⟩
    simp only [conc] at h2 ⊢
    exact h2
  | false =>
    obtain ⟨V, h1, h2⟩ := shiftOp_ok (P := P) (e := e) (left := false) (k := k) (j := j) (x := s.den e.ρ) (y := Int.ofNat m) (t := t) rfl w
    refine ⟨V, h1, ?_⟩
    simp only [conc] at h2 ⊢
    exact h2
theorem binOpD_ok {op : BinOp} {t : TypeId} {x y v : IV} {X Y : Value} (ha : AsmOK asm e.ρ) (hv : binOpD P asm op t x y = some v) (hx : conc e x = some X) (hy : conc e y = some Y) (w : World) :
    ∃ V, (binOp op t X Y).run P w = .ok V w ∧ conc e v = some V := by
  unfold binOpD at hv
  split at hv
  · rename_i a b
    simp only [conc] at hx hy; cases hx; cases hy
    obtain ⟨V, h1, h2⟩ := strOpS_ok (t := t) ha hv w
    rw [str_lit] at h1
    exact ⟨V, h1, h2⟩
  · rename_i a b
    simp only [conc] at hx hy; cases hx; cases hy
    obtain ⟨V, h1, h2⟩ := strOpS_ok (t := t) ha hv w
    rw [str_lit] at h1
    exact ⟨V, h1, h2⟩
  · simp only [conc] at hx hy; cases hx; cases hy
    exact strOpS_ok ha hv w
  · rename_i k m k' n
    simp only [conc] at hx hy; cases hx; cases hy
    split at hv
    · exact shiftOp_ok (left := true) hv w
    · exact shiftOp_ok (left := false) hv w
    · rename_i h1 h2
      split at hv
      · rename_i hk; have := kindN_inj hk; subst this
        exact intOp_ok h1 h2 hv w
      · cases hv
  · simp only [conc] at hx hy; cases hx; cases hy
    exact strOp_ok hv w
  · rename_i k s k' n
    simp only [conc] at hx hy; cases hx; cases hy
    split at hv
    · cases hv; exact symShift_ok (left := true) w
    · cases hv; exact symShift_ok (left := false) w
    · split at hv
      · rename_i hk; have := kindN_inj hk; subst this
        exact symOp_ok (y := .n n) ha hv w
      · cases hv
  · rename_i k m k' s
    simp only [conc] at hx hy; cases hx; cases hy
    split at hv
    · exact shiftS_ok (x := .n m) ha hv w
    · rename_i hk; have := kindN_inj hk; subst this
      exact symOp_ok (x := .n m) ha hv w
    · cases hv
  · rename_i k r k' s
    simp only [conc] at hx hy; cases hx; cases hy
    split at hv
    · exact shiftS_ok ha hv w
    · rename_i hk; have := kindN_inj hk; subst this
      exact symOp_ok ha hv w
    · cases hv
  · rename_i g1 g2 g3 h1 h2 h3 h4 h5
    have hne : ∀ k m k' n, X = .int k m → Y = .int k' n → False := by
      intro k m k' n hX hY
      subst hX; subst hY
      rcases conc_inv hx with hx' | ⟨s, hx'⟩ <;> rcases conc_inv hy with hy' | ⟨r, hy'⟩
      · exact h1 _ _ _ _ hx' hy'
      · exact h4 _ _ _ _ hx' hy'
      · exact h3 _ _ _ _ hx' hy'
      · exact h5 _ _ _ _ hx' hy'
    have hns : ∀ s r, X = .string s → Y = .string r → False := by
      intro k k' hX hY
      subst hX; subst hY
      rcases conc_inv hx with hx' | ⟨s, hx'⟩ <;> rcases conc_inv hy with hy' | ⟨r, hy'⟩
      · exact h2 _ _ hx' hy'
      · exact g1 _ _ hx' hy'
      · exact g2 _ _ hx' hy'
      · exact g3 _ _ hx' hy'
    obtain ⟨q1, q2⟩ := binOp_eql (t := t) hx hy hne hns
    split at hv
    · obtain ⟨b, h3, h4⟩ := ob_some hv
      cases h4
      have h5 := eqv_ok ha 100 10000 (by omega) _ _ _ _ _ _ w h3 hx hy
      exact ⟨.bool b, by rw [q1]; simp [Op.equal, Op.maxDepth, h5], rfl⟩
    · obtain ⟨b, h3, h4⟩ := ob_some hv
      cases h4
      have h5 := eqv_ok ha 100 10000 (by omega) _ _ _ _ _ _ w h3 hx hy
      exact ⟨.bool (!b), by rw [q2]; simp [Op.equal, Op.maxDepth, h5], rfl⟩
    · cases hv
end
end Go.Den

/- D5 -/
set_option linter.unusedVariables false
set_option linter.unusedSimpArgs false
set_option linter.unusedSectionVars false
namespace Go.Den
variable [Interp]
/-- The operation reads, at most, and has this value. -/
def Val (P : Program) (e : Env) (w : World) (a : Act) (o : Oper) (v : IV) : Prop := ∃ V, conc e v = some V ∧ (execOp a.eval o).run P w = .ok (.value V) w
section
variable {P : Program} {e : Env} {h h' : H} {w : World} {tm : Tm} {a : Act} {o : Oper} {v : IV}

theorem Val.mk {s : Sem Value} {V : Value} (hx : execOp a.eval o = (do pure (Next.value (← s)))) (hc : conc e v = some V) (hs : s.run P w = .ok V w) : Val P e w a o v :=
  ⟨V, hc, by rw [hx]; simp [hs]⟩

theorem doMove_ok (k : TmOK e tm a.tmps) (r : Rel P e h w) {x : Operand} (ho : o.op = .move x ∨ o.op = .assign x) (hd : doMove P tm h x = some (.val v h')) : h' = h ∧ Val P e w a o v := by
  obtain ⟨u, h1, h2⟩ := ob_some hd
  cases h2
  refine ⟨rfl, _, ev_ok k r h1, ?_⟩
  rcases ho with ho | ho <;> simp only [execOp, ho] <;> rfl
theorem doPick_ok (k : TmOK e tm a.tmps) (r : Rel P e h w) {c x y : Operand} (ho : o.op = .pick c x y) (hd : doPick P tm h c x y = some (.val v h')) : h' = h ∧ Val P e w a o v := by
  obtain ⟨u, h1, h2⟩ := ob_some hd
  have h3 := ev_ok k r h1
  split at h2
  · obtain ⟨u, h4, h5⟩ := ob_some h2
    cases h5
    simp only [conc] at h3
    refine ⟨rfl, _, ev_ok k r h4, ?_⟩
    simp only [execOp, ho, ← Option.some.inj h3]
    simp [asBool]
  · obtain ⟨u, h4, h5⟩ := ob_some h2
    cases h5
    simp only [conc] at h3
    refine ⟨rfl, _, ev_ok k r h4, ?_⟩
    simp only [execOp, ho, ← Option.some.inj h3]
    simp [asBool]
  · cases h2
theorem doNilCheck_ok (k : TmOK e tm a.tmps) (r : Rel P e h w) {x : Operand} (ho : o.op = .nilCheck x) (hd : doNilCheck P tm h x = some (.val v h')) : h' = h ∧ Val P e w a o v := by
  obtain ⟨u, h1, h2⟩ := ob_some hd
  have h3 := ev_ok k r h1
  split at h2
  · cases h2
    refine ⟨rfl, _, h3, ?_⟩
    obtain ⟨p, hp, hV⟩ := conc_ptr h3
    simp only [execOp, ho, hV]
    rfl
  · cases h2
    refine ⟨rfl, _, h3, ?_⟩
    obtain ⟨p, hp, _, hV⟩ := conc_sptr h3
    simp only [execOp, ho, hV]
    rfl
  · cases h2
    refine ⟨rfl, _, h3, ?_⟩
    obtain ⟨A, C, h4, h5, hV⟩ := conc_func h3
    simp only [execOp, ho, hV]
    rfl
  · cases h2
theorem eqGuard_nil {op : BinOp} {t : TypeId} {x y : Operand} (hc : (isConstOp x || isConstOp y) = true) : (eqGuard op t x y .nilIface .nilIface).run P w = .ok () w := by
  cases op <;> cases x <;> cases y <;> first | rfl | (exact absurd hc (by simp [isConstOp]))
theorem eqGuard_agg {op : BinOp} {t : TypeId} {x y : Operand} {C D : Array Value} (hc : P.eqGuardType P.depth t = false) : (eqGuard op t x y (.agg C) (.agg D)).run P w = .ok () w := by
  cases op <;> first | rfl | (unfold eqGuard; simp [hc])
theorem eqGuard_other {op : BinOp} {t : TypeId} {x y : Operand} {X Y : Value} (h1 : X = .nilIface → Y = .nilIface → False) (h2 : ∀ C D, X = .agg C → Y = .agg D → False) : (eqGuard op t x y X Y).run P w = .ok () w := by
  cases X <;> first
    | (cases op <;> rfl)
    | (cases Y <;> first
        | (exact (h1 rfl rfl).elim)
        | (exact (h2 _ _ rfl rfl).elim)
        | (cases op <;> rfl))
theorem conc_nilIface {p : IV} (hx : conc e p = some .nilIface) : p = .nilIface := by
  cases p with
  | ptr b o => obtain ⟨p, hp, hh⟩ := conc_ptr hx; cases hh
  | slice b o l c => obtain ⟨p, hp, hh⟩ := conc_slice hx; cases hh
  | sptr b sz i j => obtain ⟨p, hp, _, hh⟩ := conc_sptr hx; cases hh
  | sslice b sz o l c => obtain ⟨p, hp, _, hh⟩ := conc_sslice hx; cases hh
  | map b => obtain ⟨p, hp, hh⟩ := conc_map hx; cases hh
  | func fn a c => obtain ⟨A, C, _, _, hh⟩ := conc_func hx; cases hh
  | iface t v => obtain ⟨U, _, hh⟩ := conc_iface hx; cases hh
  | agg cs => obtain ⟨C, _, hh⟩ := conc_agg hx; cases hh
  | tuple cs => obtain ⟨C, _, hh⟩ := conc_tuple hx; cases hh
  | nilIface => rfl
  | _ => simp only [conc] at hx; cases hx
theorem conc_agg' {p : IV} {C : Array Value} (hx : conc e p = some (.agg C)) : ∃ cs, p = .agg cs := by
  cases p with
  | agg cs => exact ⟨cs, rfl⟩
  | ptr b o => obtain ⟨p, hp, hh⟩ := conc_ptr hx; cases hh
  | slice b o l c => obtain ⟨p, hp, hh⟩ := conc_slice hx; cases hh
  | sptr b sz i j => obtain ⟨p, hp, _, hh⟩ := conc_sptr hx; cases hh
  | sslice b sz o l c => obtain ⟨p, hp, _, hh⟩ := conc_sslice hx; cases hh
  | map b => obtain ⟨p, hp, hh⟩ := conc_map hx; cases hh
  | func fn a c => obtain ⟨A, C, _, _, hh⟩ := conc_func hx; cases hh
  | iface t v => obtain ⟨U, _, hh⟩ := conc_iface hx; cases hh
  | tuple cs => obtain ⟨C, _, hh⟩ := conc_tuple hx; cases hh
  | _ => simp only [conc] at hx; cases hx
theorem eqGuard_ok {op : BinOp} {t : TypeId} {x y : Operand} {p q : IV} {X Y : Value} (hg : eqGuardD P op t x y p q = true) (hx : conc e p = some X) (hy : conc e q = some Y) :
    (eqGuard op t x y X Y).run P w = .ok () w := by
  unfold eqGuardD at hg
  split at hg
  · simp only [conc] at hx hy; cases hx; cases hy
    exact eqGuard_nil hg
  · obtain ⟨C, h1, rfl⟩ := conc_agg hx; obtain ⟨D, h2, rfl⟩ := conc_agg hy
    exact eqGuard_agg (by simpa using hg)
  · rename_i h1 h2
    refine eqGuard_other (fun hX hY => ?_) (fun C D hX hY => ?_)
    · subst hX; subst hY; exact h1 (conc_nilIface hx) (conc_nilIface hy)
    · subst hX; subst hY
      obtain ⟨c, hc⟩ := conc_agg' hx
      obtain ⟨d, hd⟩ := conc_agg' hy
      exact h2 _ _ hc hd
theorem doBinOp_ok (k : TmOK e tm a.tmps) (r : Rel P e h w) {op : BinOp} {t u : TypeId} {x y : Operand} (ho : o.op = .binOp op t x y u) (hd : doBinOp P tm h op t x y = some (.val v h')) : h' = h ∧ Val P e w a o v := by
  obtain ⟨p, h1, h2⟩ := ob_some hd
  obtain ⟨q, h3, h4⟩ := ob_some h2
  have hx := ev_ok k r h1
  have hy := ev_ok k r h3
  split at h4
  · rename_i hg
    obtain ⟨z, h5, h6⟩ := ob_some h4
    cases h6
    obtain ⟨V, h7, h8⟩ := binOpD_ok r.asm h5 hx hy w
    exact ⟨rfl, Val.mk (s := do eqGuard op t x y (a.eval x) (a.eval y); binOp op t (a.eval x) (a.eval y)) (by simp only [execOp, ho]) h8 (by simp [eqGuard_ok hg hx hy, h7])⟩
  · cases h4
theorem doUnOp_ok (k : TmOK e tm a.tmps) (r : Rel P e h w) {op : UnOp} {t : TypeId} {x : Operand} (ho : o.op = .unOp op t x) (hd : doUnOp P tm h op x = some (.val v h')) : h' = h ∧ Val P e w a o v := by
  obtain ⟨p, h1, h2⟩ := ob_some hd
  obtain ⟨q, h3, h4⟩ := ob_some h2
  cases h4
  have hx := ev_ok k r h1
  refine ⟨rfl, ?_⟩
  have hE : execOp a.eval o = (do pure (Next.value (← Op.unary op (a.eval x)))) := by simp only [execOp, ho]
  unfold unOpD at h3
  split at h3
  · cases h3
    simp only [conc] at hx
    refine Val.mk hE rfl ?_
    rw [← Option.some.inj hx]
    simp [Op.unary, Op.intArith]
  · rename_i kk n
    simp only [conc] at hx
    simp only [intOp] at h3
    cases h3
    refine Val.mk hE rfl ?_
    rw [← Option.some.inj hx]
    simp [Op.unary, Op.intBits]
  · cases h3
    simp only [conc] at hx
    refine Val.mk hE rfl ?_
    rw [← Option.some.inj hx]
    simp [Op.unary]
  · rename_i kk n
    cases h3
    simp only [conc] at hx
    refine Val.mk hE rfl ?_
    rw [← Option.some.inj hx]
    simp [Op.unary, Op.intArith, SE.den, SE.D, dyI, binV]
  · rename_i kk n
    cases h3
    simp only [conc] at hx
    refine Val.mk hE rfl ?_
    rw [← Option.some.inj hx]
    simp [Op.unary, Op.intBits, SE.den, SE.D, dyI, binV]
  · cases h3
theorem doSliceToArrayPointer_ok (k : TmOK e tm a.tmps) (r : Rel P e h w) {t : TypeId} {x : Operand} (ho : o.op = .sliceToArrayPointer t x) (hd : doSliceToArrayPointer P tm h t x = some (.val v h')) : h' = h ∧ Val P e w a o v := by
  obtain ⟨p, h1, h2⟩ := ob_some hd
  have hx := ev_ok k r h1
  split at h2
  · rename_i n _ b off len c hu
    split at h2
    · rename_i hle
      cases h2
      obtain ⟨q, hq, hV⟩ := conc_slice hx
      refine ⟨rfl, Val.mk (s := Instr.arrayAt t (a.eval x)) (by simp only [execOp, ho]) (V := .pointer (some ⟨q.1, off, none⟩)) (by simp only [conc, hq]) ?_⟩
      rw [hV]
      have : ¬ len < n := by have := Nat.ble_eq.mp hle; omega
      simp [Instr.arrayAt, run_underlying hu, this]
    · cases h2
  · cases h2
theorem doMakeInterface_ok (k : TmOK e tm a.tmps) (r : Rel P e h w) {t : TypeId} {x : Operand} (ho : o.op = .makeInterface t x) (hd : doMakeInterface P tm h t x = some (.val v h')) : h' = h ∧ Val P e w a o v := by
  unfold doMakeInterface at hd
  split at hd
  · cases hd
  · cases hd
  · rename_i h1 h2
    obtain ⟨u, h3, h4⟩ := ob_some hd
    cases h4
    have hx := ev_ok k r h3
    refine ⟨rfl, Val.mk (s := Instr.makeInterface t (a.eval x)) (by simp only [execOp, ho]) (V := .iface t (a.eval x)) (by simp only [conc, hx]) ?_⟩
    cases hu : P.underlying t with
    | none => exact (h2 hu).elim
    | some d =>
      simp only [Instr.makeInterface, Sem.run_bind, run_underlying hu, Result.andThen_ok]
      cases d <;> first | rfl | (exact (h1 _ hu).elim)
theorem doMakeFunc_ok (k : TmOK e tm a.tmps) (r : Rel P e h w) {fn : Fn} {xs ys : Array Operand} (ho : o.op = .makeFunc fn xs ys) (hd : doMakeFunc P tm h fn xs ys = some (.val v h')) : h' = h ∧ Val P e w a o v := by
  obtain ⟨p, h1, h2⟩ := ob_some hd
  obtain ⟨q, h3, h4⟩ := ob_some h2
  cases h4
  have hx := evs_ok k r h1
  have hy := evs_ok k r h3
  refine ⟨rfl, Val.mk (s := Instr.makeFunc fn (xs.map a.eval) (ys.map a.eval)) (by simp only [execOp, ho]) (V := .func fn (xs.map a.eval) (ys.map a.eval)) ?_ ?_⟩
  · simp only [conc, hx, hy]
    congr 2 <;> (apply Array.ext'; simp)
  · simp [Instr.makeFunc]
theorem fieldD_some {t : TypeId} {f : Nat} {fd : Field} (hf : fieldD P t f = some fd) : ∃ fs, P.underlying t = some (.struct fs) ∧ fs[f]? = some fd := by
  unfold fieldD at hf
  split at hf
  · rename_i fs hu; exact ⟨fs, hu, hf⟩
  · cases hf
theorem doFieldAddr_ok (k : TmOK e tm a.tmps) (r : Rel P e h w) {s : TypeId} {x : Operand} {f : Nat} (ho : o.op = .fieldAddr s x f) (hd : doFieldAddr P tm h s x f = some (.val v h')) : h' = h ∧ Val P e w a o v := by
  obtain ⟨p, h1, h2⟩ := ob_some hd
  have hx := ev_ok k r h1
  split at h2
  · rename_i b off
    obtain ⟨fd, h3, h4⟩ := ob_some h2
    obtain ⟨n, h5, h6⟩ := ob_some h4
    obtain ⟨fs, h7, h8⟩ := fieldD_some h3
    cases n with
    | zero => cases h6
    | succ n =>
      cases h6
      obtain ⟨q, hq, hV⟩ := conc_ptr hx
      refine ⟨rfl, Val.mk (s := Instr.fieldAt s (a.eval x) f) (by simp only [execOp, ho]) (V := .pointer (some ⟨q.1, off + fd.offset, none⟩)) (by simp only [conc, hq]) ?_⟩
      rw [hV]
      simp [Instr.fieldAt, run_underlying h7, h8, Instr.sureAddr, fieldPlace, size_ok h5, Addr.add]
  · rename_i b sz i j
    obtain ⟨fd, h3, h4⟩ := ob_some h2
    obtain ⟨n, h5, h6⟩ := ob_some h4
    obtain ⟨fs, h7, h8⟩ := fieldD_some h3
    cases n with
    | zero => cases h6
    | succ n =>
      cases h6
      obtain ⟨q, hq, h0, hV⟩ := conc_sptr hx
      refine ⟨rfl, Val.mk (s := Instr.fieldAt s (a.eval x) f) (by simp only [execOp, ho]) (conc_sptr_mk hq h0) ?_⟩
      rw [hV]
      simp [Instr.fieldAt, run_underlying h7, h8, Instr.sureAddr, fieldPlace, size_ok h5, Addr.add, Nat.add_assoc]
  · cases h2
theorem orD {x y : Option IV} {v : IV} (h : @Option.rec IV (fun _ => Option IV) y (fun v => some v) x = some v) : x = some v ∨ y = some v := by
  cases x with
  | none => exact .inr h
  | some u => exact .inl h
theorem whichN_ok {asm : Asm} (ha : AsmOK asm e.ρ) {i : SE} : ∀ {n k : Nat}, whichN asm i n = some k → k < n ∧ i.den e.ρ = (k : Int)
  | 0, k, h => by cases h
  | n + 1, k, h => by
    have h' : (match asm .eq i (.n (.ofNat n)) with
      | some true => some n
      | _ => whichN asm i n) = some k := h
    split at h'
    · rename_i hq
      cases h'
      have := ha _ _ _ _ hq
      exact ⟨Nat.lt_succ_self _, eq_of_beq (show (i.den e.ρ == (Int.ofNat n)) = true from this)⟩
    · obtain ⟨h1, h2⟩ := whichN_ok ha h'
      exact ⟨Nat.lt_succ_of_lt h1, h2⟩
theorem indexAddrS_ok {asm : Asm} (ha : AsmOK asm e.ρ) {t : TypeId} {x ix : IV} {X I : Value} (hx : conc e x = some X) (hi : conc e ix = some I) (hd : indexAddrS P asm t x ix = some v) : ∃ V, conc e v = some V ∧ (Instr.indexAt t X I).run P w = .ok V w := by
  obtain ⟨i, h1, h2⟩ := ob_some hd
  obtain ⟨d, hu, h3⟩ := ob_some h2
  obtain ⟨k, rfl⟩ := toSI_ok h1 hi
  split at h3
  · rename_i el b sz o l c
    obtain ⟨z, h4, h5⟩ := ob_some h3
    split at h5
    · rename_i hz hb
      cases h5
      have hz' := Nat.eq_of_beq_eq_true hz
      subst hz'
      obtain ⟨q, hq, ⟨g0, g1, g2, g3⟩, rfl⟩ := conc_sslice hx
      obtain ⟨b0, b1⟩ := inB_ok ha hb
      have hs : (tAdd o i).den e.ρ = o.den e.ρ + i.den e.ρ := den_add _ _ _
      refine ⟨_, conc_sptr_mk hq (by rw [hs]; omega), ?_⟩
      obtain ⟨m, hm⟩ : ∃ m : Nat, i.den e.ρ = (m : Int) := ⟨(i.den e.ρ).toNat, by omega⟩
      obtain ⟨n, hn⟩ : ∃ n : Nat, o.den e.ρ = (n : Int) := ⟨(o.den e.ρ).toNat, by omega⟩
      have hlt : m < (l.den e.ρ).toNat := by omega
      rw [hs, hm, hn]
      have hnn : ((n : Int) + (m : Int)).toNat = n + m := by omega
      simp [Instr.indexAt, run_underlying hu, asIntOf, Instr.sureAddr, size_ok h4, Addr.add, hlt, hnn, Nat.add_mul]
    · cases h5
  · rename_i el b o len c
    obtain ⟨m, h4, h5⟩ := ob_some h3
    obtain ⟨sz, h6, h7⟩ := ob_some h5
    cases h7
    obtain ⟨hlt, hm⟩ := whichN_ok ha h4
    obtain ⟨q, hq, rfl⟩ := conc_slice hx
    refine ⟨.pointer (some ⟨q.1, o + m * sz, none⟩), by simp only [conc, hq], ?_⟩
    rw [hm]
    simp [Instr.indexAt, run_underlying hu, asIntOf, Instr.sureAddr, size_ok h6, Addr.add, hlt]
  · rename_i len el b o
    obtain ⟨m, h4, h5⟩ := ob_some h3
    obtain ⟨sz, h6, h7⟩ := ob_some h5
    cases h7
    obtain ⟨hlt, hm⟩ := whichN_ok ha h4
    obtain ⟨q, hq, rfl⟩ := conc_ptr hx
    refine ⟨.pointer (some ⟨q.1, o + m * sz, none⟩), by simp only [conc, hq], ?_⟩
    rw [hm]
    simp [Instr.indexAt, run_underlying hu, asIntOf, Instr.sureAddr, size_ok h6, Addr.add, hlt]
  · cases h3
theorem ba_get {s : List UInt8} {i : Nat} {c : UInt8} (h7 : s[i]? = some c) : (⟨s.toArray⟩ : ByteArray)[i]? = some c := by
  have hlt : i < s.length := (List.getElem?_eq_some_iff.1 h7).1
  have hsz : i < (⟨s.toArray⟩ : ByteArray).size := by rw [size_ba]; exact hlt
  rw [getElem?_pos (⟨s.toArray⟩ : ByteArray) i hsz]
  have hc : s[i] = c := (List.getElem?_eq_some_iff.1 h7).2
  exact congrArg some hc
theorem indexS_ok {asm : Asm} (ha : AsmOK asm e.ρ) {t : TypeId} {x ix : IV} {X I : Value} (hx : conc e x = some X) (hi : conc e ix = some I) (hd : indexS P asm t x ix = some v) : ∃ V, conc e v = some V ∧ (Instr.index t X I).run P w = .ok V w := by
  obtain ⟨i, h1, h2⟩ := ob_some hd
  obtain ⟨d, hu, h3⟩ := ob_some h2
  obtain ⟨k, rfl⟩ := toSI_ok h1 hi
  split at h3
  · obtain ⟨s, h4, h5⟩ := ob_some h3
    have hX := toSS_ok h4 hx
    subst hX
    split at h5
    · rename_i hb
      cases h5
      obtain ⟨b0, b1⟩ := inB_ok ha hb
      rw [den_len] at b1
      obtain ⟨m, hm⟩ : ∃ m : Nat, i.den e.ρ = (m : Int) := ⟨(i.den e.ρ).toNat, by omega⟩
      have hlt : m < (s.str e.ρ).length := by omega
      have hg : (s.str e.ρ)[m]? = some (s.str e.ρ)[m] := List.getElem?_eq_getElem hlt
      have hd : (tByte s i).den e.ρ = (((s.str e.ρ)[m]).toNat : Int) := by
        rw [den_byte, hm]; simp [hg]
      refine ⟨_, rfl, ?_⟩
      rw [hd, hm]
      have hget := ba_get hg
      simp [Instr.index, run_underlying hu, asIntOf, hget]
    · cases h5
  · cases h3
theorem doField_ok (k : TmOK e tm a.tmps) (r : Rel P e h w) {s : TypeId} {x : Operand} {f : Nat} (ho : o.op = .field s x f) (hd : doField P tm h s x f = some (.val v h')) : h' = h ∧ Val P e w a o v := by
  obtain ⟨p, h1, h2⟩ := ob_some hd
  have hx := ev_ok k r h1
  split at h2
  · obtain ⟨fd, h3, h4⟩ := ob_some h2
    obtain ⟨u, h5, h6⟩ := ob_some h4
    cases h6
    obtain ⟨fs, h7, h8⟩ := fieldD_some h3
    obtain ⟨C, hC, hV⟩ := conc_agg hx
    obtain ⟨V, h9, h10⟩ := part_ok h5 hC w
    refine ⟨rfl, Val.mk (s := Instr.field s (a.eval x) f) (by simp only [execOp, ho]) h10 ?_⟩
    rw [hV]
    simp [Instr.field, run_underlying h7, h8, asAgg, h9]
  · cases h2
theorem doIndexAddr_ok (k : TmOK e tm a.tmps) (r : Rel P e h w) {t : TypeId} {x ix : Operand} (ho : o.op = .indexAddr t x ix) (hd : doIndexAddr P tm h t x ix = some (.val v h')) : h' = h ∧ Val P e w a o v := by
  obtain ⟨p, h1, h2⟩ := ob_some hd
  obtain ⟨i, h3, h4⟩ := ob_some h2
  obtain ⟨u, h5, h6⟩ := ob_some h4
  cases h6
  have hx := ev_ok k r h1
  have hi := ev_ok k r h3
  have hE : execOp a.eval o = (do pure (Next.value (← Instr.indexAt t (a.eval x) (a.eval ix)))) := by simp only [execOp, ho]
  refine ⟨rfl, ?_⟩
  replace h5 := orD h5
  rcases h5 with h5 | h5
  rotate_left
  · obtain ⟨V, q1, q2⟩ := indexAddrS_ok (w := w) r.asm hx hi h5
    exact Val.mk hE q1 q2
  unfold indexAddrD at h5
  split at h5
  · rename_i kk i
    simp only [conc] at hi
    obtain ⟨d, hu, h6⟩ := ob_some h5
    split at h6
    · rename_i len el b off
      split at h6
      · rename_i hlt
        have hlt' : (Int.ofNat i) < (len : Int) := by have := Nat.blt_eq.mp hlt; simpa using this
        have h0 : 0 ≤ Int.ofNat i := Int.natCast_nonneg i
        obtain ⟨sz, h7, h8⟩ := ob_some h6
        cases h8
        obtain ⟨q, hq, hV⟩ := conc_ptr hx
        refine Val.mk hE (V := .pointer (some ⟨q.1, off + i * sz, none⟩)) (by simp only [conc, hq]) ?_
        rw [hV, ← Option.some.inj hi]
        simp [Instr.indexAt, run_underlying hu, asIntOf, Instr.sureAddr, size_ok h7, Addr.add, (by simpa using hlt' : i < len)]
      · cases h6
    · rename_i el b off len c
      split at h6
      · rename_i hlt
        have hlt' : (Int.ofNat i) < (len : Int) := by have := Nat.blt_eq.mp hlt; simpa using this
        obtain ⟨sz, h7, h8⟩ := ob_some h6
        cases h8
        obtain ⟨q, hq, hV⟩ := conc_slice hx
        refine Val.mk hE (V := .pointer (some ⟨q.1, off + i * sz, none⟩)) (by simp only [conc, hq]) ?_
        rw [hV, ← Option.some.inj hi]
        simp [Instr.indexAt, run_underlying hu, asIntOf, Instr.sureAddr, size_ok h7, Addr.add, (by simpa using hlt' : i < len)]
      · cases h6
    · cases h6
  · cases h5
theorem doIndex_ok (k : TmOK e tm a.tmps) (r : Rel P e h w) {t : TypeId} {x ix : Operand} (ho : o.op = .index t x ix) (hd : doIndex P tm h t x ix = some (.val v h')) : h' = h ∧ Val P e w a o v := by
  obtain ⟨p, h1, h2⟩ := ob_some hd
  obtain ⟨i, h3, h4⟩ := ob_some h2
  obtain ⟨u, h5, h6⟩ := ob_some h4
  cases h6
  have hx := ev_ok k r h1
  have hi := ev_ok k r h3
  have hE : execOp a.eval o = (do pure (Next.value (← Instr.index t (a.eval x) (a.eval ix)))) := by simp only [execOp, ho]
  refine ⟨rfl, ?_⟩
  replace h5 := orD h5
  rcases h5 with h5 | h5
  rotate_left
  · obtain ⟨V, q1, q2⟩ := indexS_ok (w := w) r.asm hx hi h5
    exact Val.mk hE q1 q2
  unfold indexD at h5
  split at h5
  · rename_i kk i
    simp only [conc] at hi
    obtain ⟨d, hu, h6⟩ := ob_some h5
    split at h6
    · rename_i s
      obtain ⟨c, h7, h8⟩ := ob_some h6
      cases h8
      simp only [conc] at hx
      refine Val.mk hE rfl ?_
      rw [← Option.some.inj hx, ← Option.some.inj hi]
      have hlt : i < s.length := (List.getElem?_eq_some_iff.1 h7).1
      have hget : (⟨s.toArray⟩ : ByteArray)[i]? = some c := by
        have hsz : i < (⟨s.toArray⟩ : ByteArray).size := by rw [size_ba]; exact hlt
        rw [getElem?_pos (⟨s.toArray⟩ : ByteArray) i hsz]
        have hc : s[i] = c := (List.getElem?_eq_some_iff.1 h7).2
        exact congrArg some hc
      simp [Instr.index, run_underlying hu, asIntOf, hget]
    · rename_i len el cs
      split at h6
      · rename_i hlt
        have hlt' : i < len := Nat.blt_eq.mp hlt
        obtain ⟨sz, h7, h8⟩ := ob_some h6
        obtain ⟨C, hC, hV⟩ := conc_agg hx
        obtain ⟨V, h9, h10⟩ := part_ok h8 hC w
        refine Val.mk hE h10 ?_
        rw [hV, ← Option.some.inj hi]
        simp [Instr.index, run_underlying hu, asIntOf, size_ok h7, hlt', h9]
      · cases h6
    · cases h6
  · cases h5
theorem doExtract_ok (k : TmOK e tm a.tmps) (r : Rel P e h w) {x : Operand} {i : Nat} (ho : o.op = .extract x i) (hd : doExtract P tm h x i = some (.val v h')) : h' = h ∧ Val P e w a o v := by
  obtain ⟨p, h1, h2⟩ := ob_some hd
  have hx := ev_ok k r h1
  split at h2
  · obtain ⟨u, h3, h4⟩ := ob_some h2
    cases h4
    obtain ⟨C, hC, hV⟩ := conc_tuple hx
    obtain ⟨V, h5, h6⟩ := concL_get hC i v h3
    refine ⟨rfl, Val.mk (s := Instr.extract (a.eval x) i) (by simp only [execOp, ho]) h5 ?_⟩
    rw [hV]
    simp [Instr.extract, h6]
  · cases h2
end
end Go.Den

/- D6 -/
set_option linter.unusedVariables false
set_option linter.unusedSimpArgs false
set_option linter.unusedSectionVars false
namespace Go.Den
variable [Interp]
section
variable {P : Program} {e : Env} {h h' : H} {w : World} {tm : Tm} {a : Act} {o : Oper} {v : IV}

/-! ### Cells -/
theorem Rel.at (r : Rel P e h w) {b : Nat} {x : Blk} {p : Nat × (Nat → Nat)} (hx : h.m.get b = some x) (hp : e b = some p) : BlkOK P e x p w := by
  obtain ⟨q, hq, k⟩ := r.blk b x hx
  rw [hp] at hq; cases hq; exact k
theorem cell_ok {x : Blk} {p : Nat × (Nat → Nat)} {o : Nat} {v : IV} (k : BlkOK P e x p w) (hc : x.cell o = some v) : ∃ V, conc e v = some V ∧ w.cell? ⟨p.1, o, none⟩ = some V := by
  cases x with
  | cells t n z tr md =>
    obtain ⟨cur, t', fr, hh, _, _, _, h3, _⟩ := k
    obtain ⟨V, h4, h5⟩ := h3 o v hc
    exact ⟨V, h4, by simp [World.cell?, hh, h5]⟩
  | map es => cases hc
  | iter s n => cases hc
  | rows _ _ _ _ _ => cases hc
  | siter _ _ => cases hc
theorem loadN_ok {x : Blk} {p : Nat × (Nat → Nat)} (k : BlkOK P e x p w) : ∀ (n o : Nat) {l : List IV}, loadN x o n = some l →
    ∃ L, concL e l = some L ∧ L.length = n ∧ ∀ j V, L[j]? = some V → w.cell? ⟨p.1, o + j, none⟩ = some V
  | 0, o, l, hl => by cases hl; exact ⟨[], rfl, rfl, by simp⟩
  | n + 1, o, l, hl => by
    have hl' : ob (x.cell o) (fun v => ob (loadN x (o + 1) n) fun l => some (v :: l)) = some l := hl
    obtain ⟨v, h1, h2⟩ := ob_some hl'
    obtain ⟨r, h3, h4⟩ := ob_some h2
    cases h4
    obtain ⟨V, h5, h6⟩ := cell_ok k h1
    obtain ⟨R, h7, h8, h9⟩ := loadN_ok k n (o + 1) h3
    refine ⟨V :: R, concL_mk h5 h7, by simp [h8], fun j U hj => ?_⟩
    cases j with
    | zero => simp at hj; subst hj; exact h6
    | succ j => have := h9 j U (by simpa using hj); rwa [show o + (j + 1) = o + 1 + j by omega]
theorem add_at (b o j : Nat) : (⟨b, o, none⟩ : Addr).add j = ⟨b, o + j, none⟩ := by unfold Addr.add; split <;> simp_all
theorem run_loadN {x : Blk} {p : Nat × (Nat → Nat)} (k : BlkOK P e x p w) {n o : Nat} {l : List IV} (hl : loadN x o n = some l) :
    ∃ L, concL e l = some L ∧ L.length = n ∧ (loadCells ⟨p.1, o, none⟩ n).run P w = .ok L.toArray w := by
  obtain ⟨L, h1, h2, h3⟩ := loadN_ok k n o hl
  refine ⟨L, h1, h2, ?_⟩
  have := run_loadCells_list (P := P) w ⟨p.1, o, none⟩ L (fun j v hj => by rw [add_at]; exact h3 j v hj)
  rwa [h2] at this
theorem loadVar_ok (r : Rel P e h w) {t : TypeId} {b off : Nat} {p : Nat × (Nat → Nat)} (hp : e b = some p) (hl : loadVar P h t b off = some v) : ∃ V, conc e v = some V ∧ (Go.loadVar t ⟨p.1, off, none⟩).run P w = .ok V w := by
  obtain ⟨x, h1, h2⟩ := ob_some hl
  obtain ⟨g, h3, h4⟩ := ob_some h2
  have k := r.at h1 hp
  cases g with
  | true =>
    obtain ⟨n, h5, h6⟩ := ob_some h4
    obtain ⟨l, h7, h8⟩ := ob_some h6
    cases h8
    obtain ⟨L, h9, _, h10⟩ := run_loadN k h7
    exact ⟨.agg L.toArray, by simp only [conc, h9], by simp [Go.loadVar, isAgg_ok h3, size_ok h5, h10]⟩
  | false =>
    obtain ⟨V, h5, h6⟩ := cell_ok k h4
    exact ⟨V, h5, by simp [Go.loadVar, isAgg_ok h3, h6]⟩
/-! ### Rows -/
theorem conc_form (e : Env) (r i : SE) (f : Form) : conc e (formV r i f) = conc e (formV r (.n (i.den e.ρ)) f) := by
  have hD : ∀ j, (tCell r i j).D e.ρ = (tCell r (.n (i.den e.ρ)) j).D e.ρ := fun j => rfl
  cases f with
  | int k j => simp only [formV, conc, SE.den, SE.str, hD]
  | str j => simp only [formV, conc, SE.den, SE.str, hD]
  | slc b sz jo jl =>
    show conc e (.sslice b sz (tCell r i jo) (tCell r i jl) (tCell r i jl)) = conc e (.sslice b sz (tCell r (.n (i.den e.ρ)) jo) (tCell r (.n (i.den e.ρ)) jl) (tCell r (.n (i.den e.ρ)) jl))
    have h1 : ∀ j, (tCell r i j).den e.ρ = (tCell r (.n (i.den e.ρ)) j).den e.ρ := fun j => congrArg Dy.i (hD j)
    simp only [conc, h1]
  | any => rfl
theorem visL_get : ∀ {l : List Form}, visL l = true → ∀ (x : Nat) (f : Form), l[x]? = some f → f.vis = true
  | [], _, x, f, hx => by simp at hx
  | g :: l, h, x, f, hx => by
    have h' : @Bool.rec (fun _ => Bool) false (visL l) g.vis = true := h
    cases hg : g.vis with
    | false => rw [hg] at h'; cases h'
    | true =>
      rw [hg] at h'
      cases x with
      | zero => simp at hx; subst hx; exact hg
      | succ x => exact visL_get (show visL l = true from h') x f (by simpa using hx)
theorem formsV_ok {r i : SE} {b : Nat} : ∀ (l : List Form) (o : Nat), (∀ x f, l[x]? = some f → ∃ V, conc e (formV r i f) = some V ∧ w.cell? ⟨b, o + x, none⟩ = some V) →
    ∃ L, concL e (formsV r i l) = some L ∧ L.length = l.length ∧ ∀ j V, L[j]? = some V → w.cell? ⟨b, o + j, none⟩ = some V
  | [], o, _ => ⟨[], rfl, rfl, by simp⟩
  | f :: l, o, h => by
    obtain ⟨V, h1, h2⟩ := h 0 f rfl
    obtain ⟨L, h3, h4, h5⟩ := formsV_ok l (o + 1) (fun x g hx => by
      have := h (x + 1) g (by simpa using hx)
      rwa [show o + (x + 1) = o + 1 + x by omega] at this)
    refine ⟨V :: L, concL_mk h1 h3, by simp [h4], fun j U hj => ?_⟩
    cases j with
    | zero => simp at hj; subst hj; exact h2
    | succ j => have := h5 j U (by simpa using hj); rwa [show o + (j + 1) = o + 1 + j by omega]
theorem unAdd_ok {asm : Asm} {ρ : Nat → Dy} (ha : AsmOK asm ρ) {o i k : SE} (hi : 0 ≤ i.den ρ) (h : unAdd o i = some k) (hw : inWin asm o k = true) : 0 ≤ k.den ρ ∧ (i.den ρ).toNat = (o.den ρ).toNat + (k.den ρ).toNat := by
  unfold unAdd at h
  unfold inWin at hw
  cases hz : eqSE o (.n 0) with
  | true =>
    rw [hz] at h
    cases h
    have := eqSE_eq _ _ hz
    subst this
    exact ⟨hi, by rw [den_n]; simp⟩
  | false =>
    rw [hz] at h hw
    have hw' : @Bool.rec (fun _ => Bool) false (nonneg asm k) (nonneg asm o) = true := hw
    cases ho : nonneg asm o with
    | false => rw [ho] at hw'; cases hw'
    | true =>
      rw [ho] at hw'
      have h1 := nonneg_ok ha ho
      have h2 := nonneg_ok ha (show nonneg asm k = true from hw')
      simp only at h
      split at h
      · rename_i f a k' c
        split at h
        · rename_i hf he
          cases h
          have hf' := Nat.eq_of_beq_eq_true hf
          subst hf'
          have ha' := eqSE_eq _ _ he
          subst ha'
          have : (SE.app 7 a k c).den ρ = a.den ρ + k.den ρ := rfl
          rw [this]
          exact ⟨h2, by omega⟩
        · cases h
      · cases h
theorem loadVarS_ok (r : Rel P e h w) {t : TypeId} {b sz j : Nat} {i : SE} {p : Nat × (Nat → Nat)} (hp : e b = some p) (hi : 0 ≤ i.den e.ρ) (hl : loadVarS P h t b sz i j = some v) :
    ∃ V, conc e v = some V ∧ (Go.loadVar t ⟨p.1, (i.den e.ρ).toNat * sz + j, none⟩).run P w = .ok V w := by
  obtain ⟨x, h1, h2⟩ := ob_some hl
  split at h2
  · rename_i te sz' fs rr md
    obtain ⟨i', hun, h2'⟩ := ob_some h2
    split at h2'
    · rename_i hz hwin hlt
      have hz' := Nat.eq_of_beq_eq_true hz
      subst hz'
      have hlt' := less_ok r.asm hlt
      obtain ⟨hi', hoff⟩ := unAdd_ok r.asm hi hun hwin
      rw [den_rows] at hlt'
      obtain ⟨g, h3, h4⟩ := ob_some h2'
      obtain ⟨cur, t', fr, k0, kt, k1, k2, k3, k4, k5, k6⟩ := r.at h1 hp
      obtain ⟨m, hm⟩ : ∃ m : Nat, i'.den e.ρ = (m : Int) := ⟨(i'.den e.ρ).toNat, (Int.toNat_of_nonneg hi').symm⟩
      obtain ⟨S, hS⟩ : ∃ S : Nat, S = ((shT md rr).den e.ρ).toNat := ⟨_, rfl⟩
      have hM : (i.den e.ρ).toNat = S + m := by rw [hoff, hm, hS, Int.toNat_natCast]
      have hcell : ∀ x f, fs[x]? = some f → f.vis = true → ∃ V, conc e (formV rr i' f) = some V ∧ w.cell? ⟨p.1, (S + m) * sz + x, none⟩ = some V := fun x f hx hv => by
        obtain ⟨V, q1, q2⟩ := k5 m x f (by omega) hx hv
        unfold shO at q2
        rw [← hS, show m * sz + x + S * sz = (S + m) * sz + x by rw [Nat.add_mul]; omega] at q2
        refine ⟨V, ?_, by simp [World.cell?, k0, q2]⟩
        rw [conc_form, hm]; exact q1
      rw [hM]
      cases g with
      | true =>
        obtain ⟨n, h5, h6⟩ := ob_some h4
        split at h6
        · rename_i hle hvis
          cases h6
          have hle' : j + n ≤ fs.length := Nat.ble_eq.mp hle
          obtain ⟨L, q1, q2, q3⟩ := formsV_ok (e := e) (w := w) (r := rr) (i := i') (b := p.1) ((fs.drop j).take n) ((S + m) * sz + j) (fun x f hx => by
            have hx' : fs[j + x]? = some f := by
              rw [List.getElem?_take] at hx
              split at hx
              · rwa [List.getElem?_drop] at hx
              · cases hx
            have := hcell (j + x) f hx' (visL_get hvis x f hx)
            rwa [show (S + m) * sz + (j + x) = (S + m) * sz + j + x by omega] at this)
          have hlen : L.length = n := by rw [q2]; simp; omega
          have hrun := run_loadCells_list (P := P) w ⟨p.1, (S + m) * sz + j, none⟩ L (fun x v hx => by rw [add_at]; exact q3 x v hx)
          rw [hlen] at hrun
          exact ⟨.agg L.toArray, by simp only [conc, q1], by simp [Go.loadVar, isAgg_ok h3, size_ok h5, hrun]⟩
        · cases h6
      | false =>
        obtain ⟨f, h5, h6⟩ := ob_some h4
        split at h6
        · rename_i hvf
          cases h6
          obtain ⟨V, q1, q2⟩ := hcell j f h5 hvf
          exact ⟨V, q1, by simp [Go.loadVar, isAgg_ok h3, q2]⟩
        · cases h6
    · cases h2'
  · cases h2
theorem doLoad_ok (k : TmOK e tm a.tmps) (r : Rel P e h w) {t : TypeId} {x : Operand} (ho : o.op = .load t x) (hd : doLoad P tm h t x = some (.val v h')) : h' = h ∧ Val P e w a o v := by
  obtain ⟨p, h1, h2⟩ := ob_some hd
  have hx := ev_ok k r h1
  split at h2
  · obtain ⟨u, h3, h4⟩ := ob_some h2
    cases h4
    obtain ⟨q, hq, hV⟩ := conc_ptr hx
    obtain ⟨V, h5, h6⟩ := loadVar_ok r hq h3
    refine ⟨rfl, Val.mk (s := Instr.loadAt t (a.eval x)) (by simp only [execOp, ho]) h5 ?_⟩
    rw [hV]
    simp [Instr.loadAt, Instr.sureAddr, h6]
  · obtain ⟨u, h3, h4⟩ := ob_some h2
    cases h4
    obtain ⟨q, hq, h0, hV⟩ := conc_sptr hx
    obtain ⟨V, h5, h6⟩ := loadVarS_ok r hq h0 h3
    refine ⟨rfl, Val.mk (s := Instr.loadAt t (a.eval x)) (by simp only [execOp, ho]) h5 ?_⟩
    rw [hV]
    simp [Instr.loadAt, Instr.sureAddr, h6]
  · cases h2

/-! ### Parts of rows and texts -/
def OptOK (e : Env) (x : Option IV) (X : Option Value) : Prop := match x with | none => X = none | some u => ∃ V, X = some V ∧ conc e u = some V
theorem evo_ok' (k : TmOK e tm a.tmps) (r : Rel P e h w) {x : Option Operand} {v : Option IV} (hx : evo P tm x = some v) : OptOK e v (x.map a.eval) := by
  have := evo_ok k r hx
  cases v <;> exact this
theorem bound_ok {x : IV} {y i : Nat} {V : Value} (hb : bound x y = some i) (hV : conc e x = some V) : i ≤ y ∧ ∀ (y' : Nat) (code : BoundsCode), i ≤ y' → (Instr.sliceBound V y' code).run P w = .ok i w := by
  unfold bound at hb
  split at hb
  · rename_i k n
    split at hb
    · rename_i hle
      cases hb
      simp only [conc] at hV; cases hV
      refine ⟨by simpa [Nat.ble_eq] using hle, fun y' code hy => ?_⟩
      have := run_sliceBound (P := P) w k (i : Int) y' code (by omega) (by omega)
      simpa using this
    · cases hb
  · cases hb
theorem sliceBounds_two {b : Bool} {len cap y d l hh : Nat} {lo hi : Option IV} {LO HI : Option Value} (hl : OptOK e lo LO) (hi' : OptOK e hi HI)
    (h1 : optBound hi y len = some hh) (h2 : optBound lo hh 0 = some l) (hy : y ≤ cap) : (Instr.sliceBounds b len cap LO HI none).run P w = .ok (l, hh, cap) w := by
  unfold Instr.sliceBounds
  cases hi with
  | none =>
    have hi'' : HI = none := hi'
    subst hi''
    cases h1
    cases lo with
    | none => have hl' : LO = none := hl; subst hl'; cases h2; simp
    | some u =>
      obtain ⟨V, rfl, hV⟩ := hl
      obtain ⟨h3, h4⟩ := bound_ok (P := P) (w := w) (show bound u len = some l from h2) hV
      simp [h4 len _ h3]
  | some uh =>
    obtain ⟨VH, rfl, hVH⟩ := hi'
    obtain ⟨h5, h6⟩ := bound_ok (P := P) (w := w) (show bound uh y = some hh from h1) hVH
    cases lo with
    | none => have hl' : LO = none := hl; subst hl'; cases h2; simp [h6 cap _ (by omega)]
    | some u =>
      obtain ⟨V, rfl, hV⟩ := hl
      obtain ⟨h3, h4⟩ := bound_ok (P := P) (w := w) (show bound u hh = some l from h2) hV
      simp [h6 cap _ (by omega), h4 hh _ h3]
theorem sliceBounds_three {b : Bool} {len cap y l hh m : Nat} {lo : Option IV} {hi mx : IV} {LO HI MX : Option Value} (hl : OptOK e lo LO) (hi' : OptOK e (some hi) HI) (hm' : OptOK e (some mx) MX)
    (h0 : bound mx y = some m) (h1 : bound hi m = some hh) (h2 : optBound lo hh 0 = some l) (hy : y ≤ cap) : (Instr.sliceBounds b len cap LO HI MX).run P w = .ok (l, hh, m) w := by
  unfold Instr.sliceBounds
  obtain ⟨VM, rfl, hVM⟩ := hm'
  obtain ⟨VH, rfl, hVH⟩ := hi'
  obtain ⟨h7, h8⟩ := bound_ok (P := P) (w := w) h0 hVM
  obtain ⟨h5, h6⟩ := bound_ok (P := P) (w := w) h1 hVH
  cases lo with
  | none => have hl' : LO = none := hl; subst hl'; cases h2; simp [h8 cap _ (by omega), h6 m _ h5]
  | some u =>
    obtain ⟨V, rfl, hV⟩ := hl
    obtain ⟨h3, h4⟩ := bound_ok (P := P) (w := w) (show bound u hh = some l from h2) hV
    simp [h8 cap _ (by omega), h6 m _ h5, h4 hh _ h3]
theorem bounds_le {lo hi : Option IV} {y len l hh : Nat} (h1 : optBound hi y len = some hh) (h2 : optBound lo hh 0 = some l) (hlen : len ≤ y) : l ≤ hh ∧ hh ≤ y := by
  have hb : ∀ {x : IV} {y i : Nat}, bound x y = some i → i ≤ y := fun {x y i} hx => by
    unfold bound at hx
    split at hx
    · split at hx
      · rename_i hle; cases hx; simpa [Nat.ble_eq] using hle
      · cases hx
    · cases hx
  constructor
  · cases lo with
    | none => cases h2; omega
    | some u => exact hb h2
  · cases hi with
    | none => cases h1; exact hlen
    | some u => exact hb h1
theorem bound_le {x : IV} {y i : Nat} (hx : bound x y = some i) : i ≤ y := by
  unfold bound at hx
  split at hx
  · split at hx
    · rename_i hle; cases hx; simpa [Nat.ble_eq] using hle
    · cases hx
  · cases hx
theorem exactD_some {b o l c : Nat} (hx : exactD b o l c = some v) : v = .slice b o l c ∧ c ≠ loose := by
  unfold exactD at hx
  split at hx
  · rename_i hlt; cases hx; exact ⟨rfl, by have := Nat.blt_eq.mp hlt; omega⟩
  · cases hx
theorem begins_eq (m l o sz : Nat) : begins m l o sz = if m = l then o else o + l * sz := by
  unfold begins
  split
  · rename_i hb; rw [if_pos (Nat.eq_of_beq_eq_true hb)]
  · rename_i hb; rw [if_neg (fun he => by subst he; simp at hb)]
theorem run_slice_slice {t el : TypeId} {A : Option Addr} {len cap l hh m sz : Nat} {LO HI MX : Option Value} (hu : P.underlying t = some (.slice el)) (hb : (Instr.sliceBounds true len cap LO HI MX).run P w = .ok (l, hh, m) w) (hs : size P el = some sz) :
    (Instr.sliceAt t (.slice A len cap) LO HI MX).run P w = .ok (.slice (if m = l then A else A.map (·.add (l * sz))) (hh - l) (m - l)) w := by
  simp [Instr.sliceAt, Instr.slice, run_underlying hu, hb, size_ok hs]
theorem conc_exact {b o l c : Nat} {p : Nat × (Nat → Nat)} (hp : e b = some p) (hc : c ≠ loose) : conc e (.slice b o l c) = some (.slice (some ⟨p.1, o, none⟩) l c) := by
  simp only [conc, hp, if_neg hc]
theorem piece (p m l o sz : Nat) : (if m = l then some (⟨p, o, none⟩ : Addr) else (some (⟨p, o, none⟩ : Addr)).map (·.add (l * sz))) = some ⟨p, begins m l o sz, none⟩ := by
  rw [begins_eq]
  split
  · rfl
  · simp [add_at]
theorem extract_ba (s : List UInt8) (l hh : Nat) : (⟨s.toArray⟩ : ByteArray).extract l hh = ⟨((s.take hh).drop l).toArray⟩ := by
  apply ByteArray.ext
  apply Array.ext'
  simp [List.drop_take]
/-! ### Parts of which only the form is known -/
theorem optT_ok {x : Option IV} {X : Option Value} {d s : SE} (hx : OptOK e x X) (h : optT x d = some s) : (x = none ∧ X = none ∧ s = d) ∨ (∃ k, X = some (.int k (s.den e.ρ)) ∧ ∃ u, x = some u) := by
  cases x with
  | none => have hx' : X = none := hx; cases h; exact .inl ⟨rfl, hx', rfl⟩
  | some u =>
    obtain ⟨V, rfl, hV⟩ := hx
    obtain ⟨k, rfl⟩ := toSI_ok (show toSI u = some s from h) hV
    exact .inr ⟨k, rfl, u, rfl⟩
theorem bounds_vals {b : Bool} {len cap l hh : Nat} {LO HI : Option Value} (hhi : (HI = none ∧ hh = len) ∨ ∃ k, HI = some (.int k (hh : Int))) (hlo : (LO = none ∧ l = 0) ∨ ∃ k, LO = some (.int k (l : Int)))
    (h1 : hh ≤ cap) (h2 : l ≤ hh) : (Instr.sliceBounds b len cap LO HI none).run P w = .ok (l, hh, cap) w := by
  unfold Instr.sliceBounds
  have key : ∀ (k : IntKind) (i y : Nat) (code : BoundsCode), i ≤ y → (Instr.sliceBound (.int k (i : Int)) y code).run P w = .ok i w := fun k i y code hi => by
    have := run_sliceBound (P := P) w k (i : Int) y code (by omega) (by omega)
    simpa using this
  rcases hhi with ⟨rfl, rfl⟩ | ⟨k, rfl⟩ <;> rcases hlo with ⟨rfl, rfl⟩ | ⟨k', rfl⟩
  · simp
  · simp [key _ _ _ _ h2]
  · simp [key _ _ _ _ h1]
  · simp [key _ _ _ _ h1, key _ _ _ _ h2]
theorem bounds_vals3 {b : Bool} {len cap l hh m : Nat} {k k2 : IntKind} {LO : Option Value} (hlo : (LO = none ∧ l = 0) ∨ ∃ k, LO = some (.int k (l : Int)))
    (h0 : m ≤ cap) (h1 : hh ≤ m) (h2 : l ≤ hh) : (Instr.sliceBounds b len cap LO (some (.int k (hh : Int))) (some (.int k2 (m : Int)))).run P w = .ok (l, hh, m) w := by
  unfold Instr.sliceBounds
  have key : ∀ (k : IntKind) (i y : Nat) (code : BoundsCode), i ≤ y → (Instr.sliceBound (.int k (i : Int)) y code).run P w = .ok i w := fun k i y code hi => by
    have := run_sliceBound (P := P) w k (i : Int) y code (by omega) (by omega)
    simpa using this
  rcases hlo with ⟨rfl, rfl⟩ | ⟨k', rfl⟩
  · simp [key _ _ _ _ h0, key _ _ _ _ h1]
  · simp [key _ _ _ _ h0, key _ _ _ _ h1, key _ _ _ _ h2]
theorem natOf {ρ : Nat → Dy} {s : SE} (h : 0 ≤ s.den ρ) : ∃ n : Nat, s.den ρ = (n : Int) := ⟨(s.den ρ).toNat, by omega⟩
theorem subS_ok {asm : Asm} (ha : AsmOK asm e.ρ) {t : TypeId} {s : SE} {lo hi : Option IV} {LO HI : Option Value} (hu : P.underlying t = some .string) (hlo : OptOK e lo LO) (hhi : OptOK e hi HI) (hd : subS asm s lo hi = some v) :
    ∃ V, conc e v = some V ∧ (Instr.sliceAt t (.string ⟨(s.str e.ρ).toArray⟩) LO HI none).run P w = .ok V w := by
  obtain ⟨hh, h1, h2⟩ := ob_some hd
  obtain ⟨l, h3, h4⟩ := ob_some h2
  split at h4
  · rename_i a1 a2 a3
    cases h4
    have b1 := nonneg_ok ha a1
    have b2 := leq_ok ha a2
    have b3 := leq_ok ha a3
    rw [den_len] at b3
    obtain ⟨nl, hnl⟩ := natOf b1
    obtain ⟨nh, hnh⟩ := natOf (ρ := e.ρ) (s := hh) (by omega)
    have hb := bounds_vals (P := P) (w := w) (b := false) (len := (s.str e.ρ).length) (cap := (s.str e.ρ).length) (l := nl) (hh := nh) (LO := LO) (HI := HI)
      (by rcases optT_ok hhi h1 with ⟨_, rfl, rfl⟩ | ⟨k, rfl, _⟩
          · rw [den_len] at hnh; exact .inl ⟨rfl, by omega⟩
          · exact .inr ⟨k, by rw [hnh]⟩)
      (by rcases optT_ok hlo h3 with ⟨_, rfl, rfl⟩ | ⟨k, rfl, _⟩
          · rw [den_n] at hnl; exact .inl ⟨rfl, by omega⟩
          · exact .inr ⟨k, by rw [hnl]⟩)
      (by omega) (by omega)
    refine ⟨_, rfl, ?_⟩
    rw [str_sub, hnl, hnh]
    simp only [Instr.sliceAt, Instr.slice, Sem.run_bind, run_underlying hu, Result.andThen_ok, size_ba, hb]
    simp [extract_ba, hb]
  · cases h4
theorem capOK_ok (r : Rel P e h w) {b sz : Nat} {o l c : SE} {p : Nat × (Nat → Nat)} (hp : e b = some p) (g0 : 0 ≤ o.den e.ρ) (g1 : 0 ≤ l.den e.ρ) (g2 : 0 ≤ c.den e.ρ) (hc : capOK h b sz o l c = true) :
    l.den e.ρ ≤ ((if c.den e.ρ = 9223372036854775808 then p.2 ((o.den e.ρ).toNat * sz) else (c.den e.ρ).toNat : Nat) : Int) ∧ 
    ((eqSE c (.n 9223372036854775808) = true ∧ c.den e.ρ = 9223372036854775808 ∧ 0 < sz ∧ ∃ C : Nat, ∀ x, p.2 x = C - x / sz) ∨ (eqSE c (.n 9223372036854775808) = false ∧ c.den e.ρ < 9223372036854775808)) := by
  unfold capOK at hc
  split at hc
  · rename_i he
    have hce : c = .n 9223372036854775808 := eqSE_eq _ _ he
    have hcd : c.den e.ρ = 9223372036854775808 := by rw [hce, den_n]
    split at hc
    · rename_i te sz' fs rr md hb
      split at hc
      · rename_i q1 q2
        have q1' := Nat.eq_of_beq_eq_true q1
        have q2' := Nat.eq_of_beq_eq_true q2
        subst q1'; subst q2'
        obtain ⟨cur, t', fr, k0, kt, k1, k2, k3, k4, k5, k6⟩ := r.at hb hp
        obtain ⟨i, C, c1, c2, c3, c4, c5⟩ := k6 rfl
        have hle := leq_ok r.asm hc
        rw [den_add, den_rows] at hle
        have hCr : (rr.row e.ρ).length ≤ C := by
          rw [c3] at k3
          exact Nat.le_of_mul_le_mul_right (by rw [shO_1] at k3; exact k3) k2
        refine ⟨?_, .inl ⟨he, hcd, k2, C, c5⟩⟩
        rw [if_pos hcd, c5, Nat.mul_div_cancel _ k2]
        omega
      · cases hc
    · cases hc
  · rename_i he
    split at hc
    · rename_i hl
      have hlt := less_ok r.asm hl
      rw [den_n] at hlt
      have hle := leq_ok r.asm hc
      refine ⟨?_, .inr ⟨he, hlt⟩⟩
      rw [if_neg (by omega)]
      omega
    · cases hc
theorem subR_ok (r : Rel P e h w) {t el : TypeId} {b sz : Nat} {o l c : SE} {lo hi mx : Option IV} {X : Value} {LO HI MX : Option Value} (hu : P.underlying t = some (.slice el)) (hs : size P el = some sz) (hx : conc e (.sslice b sz o l c) = some X)
    (hlo : OptOK e lo LO) (hhi : OptOK e hi HI) (hmx : OptOK e mx MX) (hd : subR h b sz o l c lo hi mx = some v) : ∃ V, conc e v = some V ∧ (Instr.sliceAt t X LO HI MX).run P w = .ok V w := by
  obtain ⟨p, hp, ⟨g0, g1, g2, g3⟩, rfl⟩ := conc_sslice hx
  obtain ⟨hh, h1, h2⟩ := ob_some hd
  obtain ⟨x, h3, h4⟩ := ob_some h2
  split at h4
  · rename_i a0 a1 a2 a3
    obtain ⟨hcap, hcc⟩ := capOK_ok r hp g0 g1 g2 a0
    generalize hK : (if c.den e.ρ = 9223372036854775808 then p.2 ((o.den e.ρ).toNat * sz) else (c.den e.ρ).toNat : Nat) = K at hcap ⊢
    have b1 := nonneg_ok r.asm a1
    have b2 := leq_ok r.asm a2
    have b3 := leq_ok r.asm a3
    obtain ⟨nx, hnx⟩ := natOf b1
    obtain ⟨nh, hnh⟩ := natOf (ρ := e.ρ) (s := hh) (by omega)
    obtain ⟨nl, hnl⟩ := natOf g1
    obtain ⟨no, hno⟩ := natOf g0
    have hLO : (LO = none ∧ nx = 0) ∨ ∃ k, LO = some (.int k (nx : Int)) := by
      rcases optT_ok hlo h3 with ⟨_, rfl, rfl⟩ | ⟨k, rfl, _⟩
      · rw [den_n] at hnx; exact .inl ⟨rfl, by omega⟩
      · exact .inr ⟨k, by rw [hnx]⟩
    have hto : (o.den e.ρ).toNat = no := by omega
    have htl : (l.den e.ρ).toNat = nl := by omega
    have hpl : ∀ M : Nat, (nx = 0 ∨ nx < M) → (if M = nx then (some (⟨p.1, no * sz, none⟩ : Addr)) else (some (⟨p.1, no * sz, none⟩ : Addr)).map (·.add (nx * sz))) = some ⟨p.1, (no + nx) * sz, none⟩ := by
      intro M hM
      split
      · rename_i he
        rcases hM with h0 | h0
        · subst h0; simp
        · omega
      · simp [add_at, Nat.add_mul]
    split at h4
    · have hmx' : MX = none := hmx
      subst hmx'
      split at h4
      · rename_i hz
        have hz' : nx = 0 ∨ nx < nl := by
          simp only [Bool.or_eq_true] at hz
          rcases hz with hz | hz
          · have := isZ_ok (ρ := e.ρ) hz; left; omega
          · have := less_ok r.asm hz; right; omega
        have hb := bounds_vals (P := P) (w := w) (b := true) (len := nl) (cap := K) (l := nx) (hh := nh) (LO := LO) (HI := HI)
          (by rcases optT_ok hhi h1 with ⟨_, rfl, rfl⟩ | ⟨k, rfl, _⟩
              · exact .inl ⟨rfl, by omega⟩
              · exact .inr ⟨k, by rw [hnh]⟩) hLO (by omega) (by omega)
        have hrun := run_slice_slice (A := some ⟨p.1, no * sz, none⟩) hu hb hs
        rw [hpl K (by omega)] at hrun
        rw [hto, htl, hrun]
        have ho' : (tAdd o x).den e.ρ = ((no + nx : Nat) : Int) := by rw [den_add, hno, hnx]; omega
        have hl' : (tMinus hh x).den e.ρ = ((nh - nx : Nat) : Int) := by rw [den_minus, hnh, hnx]; omega
        rcases hcc with ⟨e1, e2, e3, C, e4⟩ | ⟨e1, e2⟩
        · rw [e1] at h4
          cases h4
          refine ⟨_, conc_sslice_mk hp ⟨by rw [ho']; omega, by rw [hl']; omega, by rw [den_n]; omega, by rw [den_n]; omega⟩, ?_⟩
          rw [ho', hl', den_n, if_pos rfl]
          simp only [Int.toNat_natCast]
          rw [if_pos e2, hto] at hK
          rw [← hK, e4, e4, Nat.mul_div_cancel _ e3, Nat.mul_div_cancel _ e3, Nat.sub_add_eq]
        · rw [e1] at h4
          cases h4
          rw [if_neg (by omega)] at hK
          have hc' : (tMinus c x).den e.ρ = ((K - nx : Nat) : Int) := by rw [den_minus, hnx]; omega
          refine ⟨_, conc_sslice_mk hp ⟨by rw [ho']; omega, by rw [hl']; omega, by rw [hc']; omega, by rw [hc']; omega⟩, ?_⟩
          rw [ho', hl', hc', if_neg (by omega)]
          simp only [Int.toNat_natCast]
      · cases h4
    · rename_i mv
      obtain ⟨m, h5, h6⟩ := ob_some h4
      obtain ⟨VM, rfl, hVM⟩ := hmx
      obtain ⟨km, rfl⟩ := toSI_ok h5 hVM
      split at h6
      · rename_i c1 c2 c3 c4
        have d1 := leq_ok r.asm c1
        have d2 := leq_ok r.asm c2
        have d4 := less_ok r.asm c4
        rw [den_n] at d4
        obtain ⟨nm, hnm⟩ := natOf (ρ := e.ρ) (s := m) (by omega)
        have hz' : nx = 0 ∨ nx < nm := by
          simp only [Bool.or_eq_true] at c3
          rcases c3 with hz | hz
          · have := isZ_ok (ρ := e.ρ) hz; left; omega
          · have := less_ok r.asm hz; right; omega
        split at h6
        · rename_i uh
          cases h6
          rcases optT_ok hhi h1 with ⟨hn, _, _⟩ | ⟨kh, rfl, _⟩
          · cases hn
          have hb := bounds_vals3 (P := P) (w := w) (b := true) (len := nl) (cap := K) (l := nx) (hh := nh) (m := nm) (k := kh) (k2 := km) hLO (by omega) (by omega) (by omega)
          rw [← hnh, ← hnm] at hb
          have hrun := run_slice_slice (A := some ⟨p.1, no * sz, none⟩) hu hb hs
          rw [hpl nm (by omega)] at hrun
          rw [hto, htl, hrun]
          have ho' : (tAdd o x).den e.ρ = ((no + nx : Nat) : Int) := by rw [den_add, hno, hnx]; omega
          have hl' : (tMinus hh x).den e.ρ = ((nh - nx : Nat) : Int) := by rw [den_minus, hnh, hnx]; omega
          have hc' : (tMinus m x).den e.ρ = ((nm - nx : Nat) : Int) := by rw [den_minus, hnm, hnx]; omega
          refine ⟨_, conc_sslice_mk hp ⟨by rw [ho']; omega, by rw [hl']; omega, by rw [hc']; omega, by rw [hc']; omega⟩, ?_⟩
          rw [ho', hl', hc', if_neg (by omega)]
          simp only [Int.toNat_natCast]
        · cases h6
      · cases h6
  · cases h4
theorem sliceD_ok (r : Rel P e h w) {t : TypeId} {x : IV} {lo hi mx : Option IV} {X : Value} {LO HI MX : Option Value} (hx : conc e x = some X) (hlo : OptOK e lo LO) (hhi : OptOK e hi HI) (hmx : OptOK e mx MX)
    (hd : sliceD P h t x lo hi mx = some v) : ∃ V, conc e v = some V ∧ (Instr.sliceAt t X LO HI MX).run P w = .ok V w := by
  obtain ⟨u, hu, h1⟩ := ob_some hd
  clear hd
  split at h1
  · rename_i s
    simp only [conc] at hx; cases hx
    cases mx with
    | some m => cases h1
    | none =>
      have hmx' : MX = none := hmx
      subst hmx'
      exact subS_ok r.asm hu hlo hhi h1
  · rename_i el b sz o l c
    obtain ⟨z, hs, h2⟩ := ob_some h1
    split at h2
    · rename_i hz
      have hz' := Nat.eq_of_beq_eq_true hz
      subst hz'
      exact subR_ok r hu hs hx hlo hhi hmx h2
    · cases h2
  · rename_i s
    simp only [conc] at hx; cases hx
    cases mx with
    | some m => cases h1
    | none =>
      have hmx' : MX = none := hmx
      subst hmx'
      replace h1 := orD h1
      rcases h1 with h1 | h1
      rotate_left
      · have := subS_ok (w := w) r.asm hu hlo hhi h1
        rwa [str_lit] at this
      obtain ⟨hh, h2, h3⟩ := ob_some h1
      obtain ⟨l, h4, h5⟩ := ob_some h3
      cases h5
      have hb := sliceBounds_two (P := P) (w := w) (b := false) (d := 0) hlo hhi h2 h4 (Nat.le_refl _)
      refine ⟨_, rfl, ?_⟩
      simp only [Instr.sliceAt, Instr.slice, Sem.run_bind, run_underlying hu, Result.andThen_ok, size_ba, hb]
      simp [extract_ba, hb]
  · rename_i el b off len cap
    obtain ⟨sz, hs, h2⟩ := ob_some h1
    obtain ⟨p, hp, rfl⟩ := conc_slice hx
    split at h2
    · rename_i hcap
      have hcap' : cap = loose := Nat.eq_of_beq_eq_true hcap
      obtain ⟨blk, hblk, h3⟩ := ob_some h2
      have kb := r.at hblk hp
      split at h3
      · rename_i e' n z tr md
        split at h3
        · rename_i c1 c2 c3
          have hmd : md = 1 := Nat.eq_of_beq_eq_true c1
          have hel : e' = el := Nat.eq_of_beq_eq_true c2
          have hn : off + len * sz ≤ n := Nat.ble_eq.mp c3
          subst hmd; subst hel
          obtain ⟨cur, t', fr, hh0, kt, k1, k2, k3, k4⟩ := kb
          obtain ⟨i, C, hi', hpos, hsz, hmax, hp2⟩ := k4 rfl
          obtain ⟨i2, hi2, hsz2⟩ := size_info hs
          rw [hi'] at hi2; cases hi2
          rw [hsz2] at hpos hsz hp2
          have hlenC : len ≤ C - off / sz := by
            have h5 : off + len * sz ≤ C * sz := by omega
            have h6 : (off + len * sz) / sz ≤ C := by
              have := Nat.div_le_div_right (c := sz) h5
              rwa [Nat.mul_div_cancel _ hpos] at this
            rw [Nat.add_mul_div_right _ _ hpos] at h6
            omega
          have hcc : (if cap = loose then p.2 off else cap) = C - off / sz := by rw [if_pos hcap', hp2]
          rw [hcc]
          split at h3
          · have hmx' : MX = none := hmx
            subst hmx'
            obtain ⟨hh, h4, h5⟩ := ob_some h3
            obtain ⟨l, h6, h7⟩ := ob_some h5
            have hb := sliceBounds_two (P := P) (w := w) (b := true) (d := 0) hlo hhi h4 h6 hlenC
            have hrun := run_slice_slice (A := some ⟨p.1, off, none⟩) hu hb hs
            have hle := bounds_le h4 h6 (Nat.le_refl _)
            have hval : (l = 0 ∨ l < len) → v = .slice b (off + l * sz) (hh - l) loose → ∃ V, conc e v = some V ∧ (Instr.sliceAt t (.slice (some ⟨p.1, off, none⟩) len (C - off / sz)) LO HI none).run P w = .ok V w := by
              intro hl0 hv
              refine ⟨_, ?_, hrun⟩
              rw [hv]
              simp only [conc, hp, if_true]
              rw [piece, begins_eq]
              have ho : (if C - off / sz = l then off else off + l * sz) = off + l * sz := by
                split
                · rename_i he
                  rcases hl0 with h0 | h0
                  · subst h0; simp
                  · omega
                · rfl
              rw [ho, hp2, Nat.add_mul_div_right _ _ hpos, Nat.sub_add_eq]
            split at h7
            · rename_i hl0
              cases h7
              exact hval (.inl (Nat.eq_of_beq_eq_true hl0)) rfl
            · rename_i hl0 hl1
              cases h7
              exact hval (.inr (Nat.blt_eq.mp hl1)) rfl
            · cases h7
          · rename_i mv
            obtain ⟨m, h4, h5⟩ := ob_some h3
            cases hi with
            | none => cases h5
            | some hv =>
              obtain ⟨hh, h6, h7⟩ := ob_some h5
              obtain ⟨l, h8, h9⟩ := ob_some h7
              obtain ⟨rfl, hne⟩ := exactD_some h9
              have hb := sliceBounds_three (P := P) (w := w) (b := true) (len := len) hlo hhi hmx h4 h6 h8 hlenC
              have hrun := run_slice_slice (A := some ⟨p.1, off, none⟩) hu hb hs
              exact ⟨_, conc_exact hp hne, by rw [hrun, piece]⟩
        · cases h3
      · cases h3
    · rename_i mv hcap
      have hcap' : cap ≠ loose := fun he => by subst he; simp at hcap
      rw [if_neg hcap']
      obtain ⟨m, h4, h5⟩ := ob_some h2
      cases hi with
      | none => cases h5
      | some hv =>
        obtain ⟨hh, h6, h7⟩ := ob_some h5
        obtain ⟨l, h8, h9⟩ := ob_some h7
        obtain ⟨rfl, hne⟩ := exactD_some h9
        have hb := sliceBounds_three (P := P) (w := w) (b := true) (len := len) hlo hhi hmx h4 h6 h8 (Nat.le_refl _)
        have hrun := run_slice_slice (A := some ⟨p.1, off, none⟩) hu hb hs
        exact ⟨_, conc_exact hp hne, by rw [hrun, piece]⟩
    · rename_i hcap
      have hcap' : cap ≠ loose := fun he => by subst he; simp at hcap
      rw [if_neg hcap']
      have hmx' : MX = none := hmx
      subst hmx'
      obtain ⟨hh, h4, h5⟩ := ob_some h2
      obtain ⟨l, h6, h7⟩ := ob_some h5
      obtain ⟨rfl, hne⟩ := exactD_some h7
      have hb := sliceBounds_two (P := P) (w := w) (b := true) (d := 0) hlo hhi h4 h6 (Nat.le_refl _)
      have hrun := run_slice_slice (A := some ⟨p.1, off, none⟩) hu hb hs
      exact ⟨_, conc_exact hp hne, by rw [hrun, piece]⟩
  · rename_i el
    simp only [conc] at hx; cases hx
    obtain ⟨sz, hs, h2⟩ := ob_some h1
    have hz : ∀ {l hh m : Nat} {MX : Option Value}, l ≤ hh → hh ≤ m → m ≤ 0 → (Instr.sliceBounds true 0 0 LO HI MX).run P w = .ok (l, hh, m) w → ∃ V, conc e .nilSlice = some V ∧ (Instr.sliceAt t (.slice none 0 0) LO HI MX).run P w = .ok V w := by
      intro l hh m MX q1 q2 q3 hb
      have hrun := run_slice_slice (A := none) hu hb hs
      refine ⟨_, rfl, ?_⟩
      rw [hrun]
      have e1 : m = 0 := by omega
      have e2 : hh = 0 := by omega
      have e3 : l = 0 := by omega
      subst e1; subst e2; subst e3; rfl
    cases mx with
    | none =>
      have hmx' : MX = none := hmx
      subst hmx'
      obtain ⟨hh, h4, h5⟩ := ob_some h2
      obtain ⟨l, h6, h7⟩ := ob_some h5
      cases h7
      have hle := bounds_le h4 h6 (Nat.le_refl _)
      exact hz hle.1 hle.2 (Nat.le_refl _) (sliceBounds_two (P := P) (w := w) (b := true) (d := 0) hlo hhi h4 h6 (Nat.le_refl _))
    | some mv =>
      cases hi with
      | none => cases h2
      | some hv =>
        obtain ⟨m, h4, h5⟩ := ob_some h2
        obtain ⟨hh, h6, h7⟩ := ob_some h5
        obtain ⟨l, h8, h9⟩ := ob_some h7
        cases h9
        have hle := bounds_le (hi := some hv) (len := 0) h6 h8 (Nat.zero_le _)
        exact hz hle.1 hle.2 (bound_le h4) (sliceBounds_three (P := P) (w := w) (b := true) (len := 0) hlo hhi hmx h4 h6 h8 (Nat.le_refl _))
  · rename_i n el b off
    cases mx with
    | some m => cases h1
    | none =>
      have hmx' : MX = none := hmx
      subst hmx'
      obtain ⟨sz, hs, h2⟩ := ob_some h1
      obtain ⟨hh, h4, h5⟩ := ob_some h2
      obtain ⟨l, h6, h7⟩ := ob_some h5
      obtain ⟨rfl, hne⟩ := exactD_some h7
      obtain ⟨p, hp, rfl⟩ := conc_ptr hx
      have hb := sliceBounds_two (P := P) (w := w) (b := false) (d := 0) hlo hhi h4 h6 (Nat.le_refl _)
      refine ⟨_, conc_exact hp hne, ?_⟩
      simp only [Instr.sliceAt, Sem.run_bind, run_underlying hu, Result.andThen_ok, Instr.sureAddr, Sem.run_pure, hb, size_ok hs]
      rw [begins_eq]
      split <;> simp [add_at]
  · cases h1
theorem doSlice_ok (k : TmOK e tm a.tmps) (r : Rel P e h w) {t : TypeId} {x : Operand} {lo hi mx : Option Operand} (ho : o.op = .slice t x lo hi mx) (hd : doSlice P tm h t x lo hi mx = some (.val v h')) : h' = h ∧ Val P e w a o v := by
  obtain ⟨p, h1, h2⟩ := ob_some hd
  obtain ⟨l, h3, h4⟩ := ob_some h2
  obtain ⟨m, h5, h6⟩ := ob_some h4
  obtain ⟨n, h7, h8⟩ := ob_some h6
  obtain ⟨u, h9, h10⟩ := ob_some h8
  cases h10
  obtain ⟨V, h11, h12⟩ := sliceD_ok r (ev_ok k r h1) (evo_ok' k r h3) (evo_ok' k r h5) (evo_ok' k r h7) h9
  exact ⟨rfl, Val.mk (s := Instr.sliceAt t (a.eval x) (lo.map a.eval) (hi.map a.eval) (mx.map a.eval)) (by simp only [execOp, ho]) h11 h12⟩
end
end Go.Den

/- D7 -/
set_option linter.unusedVariables false
set_option linter.unusedSimpArgs false
set_option linter.unusedSectionVars false
namespace Go.Den
variable [Interp]
section
variable {P : Program} {e : Env} {h h' : H} {w : World} {tm : Tm} {a : Act} {o : Oper} {v : IV}

/-! ### Maps -/
/-- The entries, one by one. -/
def EntsOK (e : Env) (es : List (IV × IV)) (E : List MapEntry) : Prop := E.length = es.length ∧ ∀ (i : Nat) (k v : IV), es[i]? = some (k, v) → ∃ m : MapEntry, E[i]? = some m ∧ conc e k = some m.key ∧ conc e v = some m.val
theorem EntsOK.cons {es : List (IV × IV)} {E : List MapEntry} {k v : IV} (h : EntsOK e ((k, v) :: es) E) : ∃ m R, E = m :: R ∧ conc e k = some m.key ∧ conc e v = some m.val ∧ EntsOK e es R := by
  cases E with
  | nil => exact absurd h.1 (by simp)
  | cons m R =>
    obtain ⟨m', h1, h2, h3⟩ := h.2 0 k v rfl
    simp at h1; subst h1
    refine ⟨_, R, rfl, h2, h3, by simpa using h.1, fun i k v hi => ?_⟩
    obtain ⟨m2, h4, h5, h6⟩ := h.2 (i + 1) k v (by simpa using hi)
    exact ⟨m2, by simpa using h4, h5, h6⟩
theorem eqBA (x y : List UInt8) : ((⟨x.toArray⟩ : ByteArray) == ⟨y.toArray⟩) = (x == y) := by
  rw [beq_toListBytes, toList_ba, toList_ba]
theorem findKey_ok {k : List UInt8} : ∀ (es : List (IV × IV)) (E : List MapEntry) (i : Nat), EntsOK e es E → ∀ {x : Option IV}, findKey k es = some x →
    match x with
    | some v => ∃ j V, j < E.length ∧ Instr.findNow .string (.string ⟨k.toArray⟩) E i = some (some (i + j, V)) ∧ conc e v = some V ∧ es[j]? = some (.str k, v) ∧ ∀ v', putKey k v' es = some (es.set j (.str k, v'))
    | none => Instr.findNow .string (.string ⟨k.toArray⟩) E i = some none ∧ ∀ v', putKey k v' es = some (es ++ [(.str k, v')])
  | [], E, i, hE, x, hx => by
    cases hx
    cases E with
    | nil => exact ⟨rfl, fun v' => rfl⟩
    | cons m R => exact absurd hE.1 (by simp)
  | (ky, vv) :: es, E, i, hE, x, hx => by
    obtain ⟨m, R, rfl, h1, h2, h3⟩ := hE.cons
    cases ky with
    | str y =>
      have hx' : @Bool.rec (fun _ => Option (Option IV)) (findKey k es) (some (some vv)) (eqU k y) = some x := hx
      have hp : ∀ v', putKey k v' ((.str y, vv) :: es) = @Bool.rec (fun _ => Option (List (IV × IV))) (ob (putKey k v' es) fun l => some ((.str y, vv) :: l)) (some ((.str y, v') :: es)) (eqU k y) := fun v' => rfl
      simp only [conc] at h1
      have h1' := Option.some.inj h1
      cases hb : eqU k y with
      | true =>
        rw [hb] at hx'
        cases hx'
        have hky : k = y := by rw [eqU_eq] at hb; simpa using hb
        subst hky
        refine ⟨0, m.val, by simp, ?_, h2, rfl, fun v' => by rw [hp, hb]; rfl⟩
        simp [Instr.findNow, Instr.sameNow, ← h1', eqBA]
      | false =>
        rw [hb] at hx'
        have hky : ((⟨k.toArray⟩ : ByteArray) == ⟨y.toArray⟩) = false := by rw [eqBA, ← eqU_eq, hb]
        have ih := findKey_ok es R (i + 1) h3 (show findKey k es = some x from hx')
        have hf : Instr.findNow .string (.string ⟨k.toArray⟩) (m :: R) i = Instr.findNow .string (.string ⟨k.toArray⟩) R (i + 1) := by
          simp only [Instr.findNow, Instr.sameNow, ← h1', hky]
        cases x with
        | none => exact ⟨by rw [hf]; exact ih.1, fun v' => by rw [hp, hb]; show ob (putKey k v' es) _ = _; rw [ih.2 v']; rfl⟩
        | some v =>
          obtain ⟨j, V, h4, h5, h6, h7, h8⟩ := ih
          exact ⟨j + 1, V, by simpa using h4, by rw [hf, h5]; simp; omega, h6, by simpa using h7, fun v' => by rw [hp, hb]; show ob (putKey k v' es) _ = _; rw [h8 v']; rfl⟩
    | _ => cases hx
theorem run_checkKey_string (b : Bool) (n : Nat) {t : TypeId} (ht : P.underlying t = some .string) (k : ByteArray) : (Instr.checkKey b (n + 1) t (.string k)).run P w = .ok () w := by
  simp [Instr.checkKey, run_underlying ht]
theorem map_at (r : Rel P e h w) {b : Nat} {es : List (IV × IV)} {p : Nat × (Nat → Nat)} (hb : h.m.get b = some (.map es)) (hp : e b = some p) : ∃ E clk, w.heap[p.1]? = some (.map E clk) ∧ EntsOK e es E.toList := by
  obtain ⟨E, clk, h1, h2, h3⟩ := r.at hb hp
  exact ⟨E, clk, h1, h2, fun i k v hi => by obtain ⟨m, q1, q2, q3⟩ := h3 i k v hi; exact ⟨m, by simpa using q1, q2, q3⟩⟩
theorem run_getObj_map {b : Nat} {E : Array MapEntry} {clk : Nat} (hb : w.heap[b]? = some (.map E clk)) : (getObj b).run P w = .ok (.map E clk) w := by
  simp [getObj, Sem.run, hb]
theorem lookupD_ok (r : Rel P e h w) {t : TypeId} {x k : IV} {X K : Value} {ok : Bool} (hx : conc e x = some X) (hk : conc e k = some K) (hd : lookupD P h t x k ok = some v) : ∃ V, conc e v = some V ∧ (Instr.lookup t X K ok).run P w = .ok V w := by
  unfold lookupD at hd
  split at hd
  · rename_i kt el ks hu
    split at hd
    · rename_i hkt
      simp only [conc] at hk; cases hk
      obtain ⟨es, h1, h2⟩ := ob_some hd
      obtain ⟨fr, h3, h4⟩ := ob_some h2
      have key : ∀ E : Array MapEntry, EntsOK e es E.toList → (do
          Instr.checkKey E.isEmpty 10000 kt (.string ⟨ks.toArray⟩)
          let (v, ok') ← match ← Instr.findKey kt (.string ⟨ks.toArray⟩) E.toList with
            | some (_, v) => pure (v, true)
            | none => pure (← zeroValue el, false)
          pure (if ok then .tuple #[v, .bool ok'] else v) : Sem Value).run P w = .ok ((conc e v).getD undef) w ∧ (conc e v).isSome := by
        intro E hE
        have hf := findKey_ok es E.toList 0 hE h3
        cases fr with
        | some u =>
          obtain ⟨j, V, h5, h6, h7, h8, h9⟩ := hf
          cases ok with
          | true =>
            cases h4
            constructor
            · simp [run_checkKey_string _ _ hkt, Instr.findKey, run_underlying hkt, h6, conc, concL, h7]
            · simp [conc, concL, h7]
          | false =>
            cases h4
            constructor
            · simp [run_checkKey_string _ _ hkt, Instr.findKey, run_underlying hkt, h6, h7]
            · simp [h7]
        | none =>
          obtain ⟨z, h5, h6⟩ := ob_some h4
          obtain ⟨i, Z, h7, h8, h9⟩ := zero_ok h5
          have h10 := ofValue_ok (e := e) h9
          have h11 := run_zeroValue' h7 h8 w
          cases ok with
          | true =>
            cases h6
            constructor
            · simp [run_checkKey_string _ _ hkt, Instr.findKey, run_underlying hkt, hf.1, conc, concL, h10, h11]
            · simp [conc, concL, h10]
          | false =>
            cases h6
            constructor
            · simp [run_checkKey_string _ _ hkt, Instr.findKey, run_underlying hkt, hf.1, h10, h11]
            · simp [h10]
      have fin : ∀ E : Array MapEntry, EntsOK e es E.toList → (Instr.lookup t X (.string ⟨ks.toArray⟩) ok).run P w = (do
          Instr.checkKey E.isEmpty 10000 kt (.string ⟨ks.toArray⟩)
          let (v, ok') ← match ← Instr.findKey kt (.string ⟨ks.toArray⟩) E.toList with
            | some (_, v) => pure (v, true)
            | none => pure (← zeroValue el, false)
          pure (if ok then .tuple #[v, .bool ok'] else v) : Sem Value).run P w → ∃ V, conc e v = some V ∧ (Instr.lookup t X (.string ⟨ks.toArray⟩) ok).run P w = .ok V w := by
        intro E hE hl
        obtain ⟨q1, q2⟩ := key E hE
        obtain ⟨V, hV⟩ := Option.isSome_iff_exists.1 q2
        exact ⟨V, hV, by rw [hl, q1, hV]; rfl⟩
      split at h1
      · cases h1
        simp only [conc] at hx; cases hx
        refine fin #[] ⟨rfl, by simp⟩ ?_
        unfold Instr.lookup
        simp only [Sem.run_bind, run_underlying hu, Result.andThen_ok, Sem.run_pure]
        rfl
      · obtain ⟨blk, h5, h6⟩ := ob_some h1
        split at h6
        · cases h6
          obtain ⟨p, hp, rfl⟩ := conc_map hx
          obtain ⟨E, clk, h7, h8⟩ := map_at r h5 hp
          refine fin E h8 ?_
          unfold Instr.lookup
          simp only [Sem.run_bind, run_underlying hu, Result.andThen_ok, Sem.run_pure, run_getObj_map h7]
          rfl
        · cases h6
      · cases h1
    · cases hd
  · cases hd
theorem doLookup_ok (k : TmOK e tm a.tmps) (r : Rel P e h w) {t : TypeId} {x y : Operand} {ok : Bool} (ho : o.op = .lookup t x y ok) (hd : doLookup P tm h t x y ok = some (.val v h')) : h' = h ∧ Val P e w a o v := by
  obtain ⟨p, h1, h2⟩ := ob_some hd
  obtain ⟨q, h3, h4⟩ := ob_some h2
  obtain ⟨u, h5, h6⟩ := ob_some h4
  cases h6
  obtain ⟨V, h7, h8⟩ := lookupD_ok r (ev_ok k r h1) (ev_ok k r h3) h5
  exact ⟨rfl, Val.mk (s := Instr.lookup t (a.eval x) (a.eval y) ok) (by simp only [execOp, ho]) h7 h8⟩

/-! ### Types -/
theorem info_ok {t : TypeId} {i : TypeInfo} (hi : P.info? t = some i) : (typeInfo t).run P w = .ok i w := by simp [typeInfo, hi]
theorem hasM_any {name : String} {sig : TypeId} : ∀ (l : List Method), l.any (fun m => m.name == name && m.sig == sig) = hasM name sig l
  | [] => rfl
  | m :: l => by
    have h1 : hasM name sig (m :: l) = @Bool.rec (fun _ => Bool) (hasM name sig l) (@Bool.rec (fun _ => Bool) (hasM name sig l) true (m.name == name)) (Nat.beq m.sig sig) := rfl
    have h2 : (m.sig == sig) = Nat.beq m.sig sig := by rw [Bool.eq_iff_iff]; simp [Nat.beq_eq]
    rw [h1, List.any_cons, hasM_any l, h2]
    cases (m.name == name) <;> cases Nat.beq m.sig sig <;> rfl
theorem lacks_filter {got : Array Method} : ∀ (want : List (String × TypeId)), lacks want got.toList = !(want.filter fun (name, sig) => !got.any fun m => m.name == name && m.sig == sig).isEmpty
  | [] => rfl
  | p :: want => by
    have h1 : lacks (p :: want) got.toList = @Bool.rec (fun _ => Bool) true (lacks want got.toList) (hasM p.1 p.2 got.toList) := rfl
    have h2 : got.any (fun m => m.name == p.1 && m.sig == p.2) = hasM p.1 p.2 got.toList := by rw [← hasM_any, Array.any_toList]
    rw [h1, List.filter_cons]
    simp only [h2]
    cases hasM p.1 p.2 got.toList with
    | true => simp only [Bool.not_true, Bool.false_eq_true, if_false]; exact lacks_filter want
    | false => simp
theorem least_cons (x : String) (l : List String) : ∃ s, Instr.least (x :: l) = some s := ⟨_, rfl⟩
theorem missing_false {want : Array (String × TypeId)} {got : Array Method} (h : lacks want.toList got.toList = false) : Instr.missingMethod want got = none := by
  rw [lacks_filter] at h
  have h' : (want.toList.filter fun (name, sig) => !got.any fun m => m.name == name && m.sig == sig) = [] := by simpa using h
  unfold Instr.missingMethod
  rw [h']
  rfl
theorem missing_true {want : Array (String × TypeId)} {got : Array Method} (h : lacks want.toList got.toList = true) : ∃ s, Instr.missingMethod want got = some s := by
  rw [lacks_filter] at h
  unfold Instr.missingMethod
  generalize hf : (want.toList.filter fun (name, sig) => !got.any fun m => m.name == name && m.sig == sig) = f at h
  cases f with
  | nil => simp at h
  | cons p r =>
    simp only [List.map_cons]
    have key : ∀ (x : String) (l : List String), ∃ s, (let (unexported, exported) := (x :: l).partition (·.contains '.'); Instr.least exported <|> Instr.least (unexported.map fun id => (id.splitOn ".").getLastD id)) = some s := by
      intro x l
      simp only [List.partition_eq_filter_filter]
      cases hx : (x :: l).filter (not ∘ fun x => x.contains '.') with
      | cons y ys => obtain ⟨s, hs⟩ := least_cons y ys; exact ⟨s, by rw [hs]; rfl⟩
      | nil =>
        cases hy : (x :: l).filter (fun x => x.contains '.') with
        | cons y ys => obtain ⟨s, hs⟩ := least_cons ((y.splitOn ".").getLastD y) (ys.map fun id => (id.splitOn ".").getLastD id); exact ⟨s, by rw [List.map_cons, hs]; rfl⟩
        | nil =>
          exfalso
          rw [List.filter_eq_nil_iff] at hx hy
          have h1 := hx x (by simp)
          have h2 := hy x (by simp)
          simp at h1 h2
          exact h2 h1
    exact key _ _
theorem doTypeAssert_ok (k : TmOK e tm a.tmps) (r : Rel P e h w) {x : Operand} {s t : TypeId} {ok : Bool} (ho : o.op = .typeAssert x s t ok) (hd : doTypeAssert P tm h x t ok = some (.val v h')) : h' = h ∧ Val P e w a o v := by
  obtain ⟨p, h1, h2⟩ := ob_some hd
  obtain ⟨q, h3, h4⟩ := ob_some h2
  have hx := ev_ok k r h1
  have hE : execOp a.eval o = (do pure (Next.value (← Instr.typeAssert (a.eval x) s t ok))) := by simp only [execOp, ho]
  obtain ⟨u, hu, h5⟩ := ob_some h3
  -- what holds
  have holds : ∀ {c : IV} {C : Value}, conc e c = some C → q = some c → (Instr.typeAssert (a.eval x) s t ok).run P w = .ok (if ok then .tuple #[C, .bool true] else C) w → h' = h ∧ Val P e w a o v := by
    intro c C hc hq hrun
    subst hq
    cases ok with
    | true => cases h4; exact ⟨rfl, Val.mk hE (V := .tuple #[C, .bool true]) (by simp [conc, concL, hc]) hrun⟩
    | false => cases h4; exact ⟨rfl, Val.mk hE hc hrun⟩
  have fails : q = none → (ok = true → (Instr.typeAssert (a.eval x) s t ok).run P w = (do pure (.tuple #[← zeroValue t, .bool false]) : Sem Value).run P w) → h' = h ∧ Val P e w a o v := by
    intro hq hrun
    subst hq
    cases ok with
    | false => cases h4
    | true =>
      obtain ⟨z, h6, h7⟩ := ob_some h4
      cases h7
      obtain ⟨i, Z, h7, h8, h9⟩ := zero_ok h6
      have h10 := ofValue_ok (e := e) h9
      have h11 := run_zeroValue' h7 h8 w
      exact ⟨rfl, Val.mk hE (V := .tuple #[Z, .bool false]) (by simp [conc, concL, h10]) (by rw [hrun rfl]; simp [h11])⟩
  split at h5
  · cases h5
    simp only [conc] at hx
    refine fails rfl (fun hk => ?_)
    rw [← Option.some.inj hx, hk]
    simp [Instr.typeAssert, run_underlying hu]
  · rename_i want ty vy
    obtain ⟨i, h6, h7⟩ := ob_some h5
    obtain ⟨U, hU, hV⟩ := conc_iface hx
    split at h7
    · rename_i hm'
      have hm := missing_false hm'
      cases h7
      refine holds hx rfl ?_
      rw [hV]
      simp [Instr.typeAssert, run_underlying hu, info_ok h6, hm]
    · rename_i hm'
      obtain ⟨m, hm⟩ := missing_true hm'
      cases h7
      refine fails rfl (fun hk => ?_)
      rw [hV, hk]
      simp [Instr.typeAssert, run_underlying hu, info_ok h6, hm]
  · rename_i hni
    cases h5
    simp only [conc] at hx
    refine fails rfl (fun hk => ?_)
    rw [← Option.some.inj hx, hk]
    cases u <;> first | (exact (hni _ rfl rfl).elim) | (exact (hni _ rfl).elim) | simp [Instr.typeAssert, run_underlying hu]
  · rename_i ty vy hni
    obtain ⟨U, hU, hV⟩ := conc_iface hx
    split at h5
    · rename_i hb
      cases h5
      have hty := Nat.eq_of_beq_eq_true hb
      subst hty
      refine holds hU rfl ?_
      rw [hV]
      cases u <;> first | (exact (hni _ _ _ rfl rfl).elim) | (exact (hni _ rfl).elim) | simp [Instr.typeAssert, run_underlying hu]
    · rename_i hb
      cases h5
      have hty : ty ≠ t := fun he => by subst he; simp at hb
      refine fails rfl (fun hk => ?_)
      rw [hV, hk]
      cases u <;> first | (exact (hni _ _ _ rfl rfl).elim) | (exact (hni _ rfl).elim) | simp [Instr.typeAssert, run_underlying hu, hty]
  · cases h5

/-! ### Lengths, the least, the greatest -/
theorem call_builtin {c : Call} {b : Builtin} (ho : o.op = .call c) (hb : c.callee = .builtin b) :
    ∃ consts, (execOp a.eval o).run P w = (builtin b c.argTypes o.type consts (c.args.map a.eval)).run P w := by
  refine ⟨c.args.map fun | .const _ => true | _ => false, ?_⟩
  simp only [execOp, ho, resolve, hb]
  simp only [Sem.run_bind, Sem.run_pure, Result.andThen_ok, invoke]
  rfl
theorem lenD_ok (r : Rel P e h w) {c : Call} {x : IV} {X : Value} {t : TypeId} (hx : conc e x = some X) (hd : lenD P h t x = some v) (ts : Array TypeId) (ht : ts[0]? = some t) (ty : TypeId) : ∃ V, conc e v = some V ∧ (Builtin.len_ ts ty #[X]).run P w = .ok V w := by
  obtain ⟨u, hu, h1⟩ := ob_some hd
  split at h1
  · cases h1; simp only [conc] at hx; cases hx
    exact ⟨_, rfl, by simp [Builtin.len_, ht, run_underlying hu, goInt, size_ba]⟩
  · cases h1; simp only [conc] at hx; cases hx
    exact ⟨_, rfl, by simp [Builtin.len_, ht, run_underlying hu, goInt, size_ba, den_len]⟩
  · cases h1; obtain ⟨p, hp, rfl⟩ := conc_slice hx
    exact ⟨_, rfl, by simp [Builtin.len_, ht, run_underlying hu, goInt]⟩
  · cases h1; obtain ⟨p, hp, ⟨g0, g1, g2, g3⟩, rfl⟩ := conc_sslice hx
    exact ⟨_, rfl, by simp [Builtin.len_, ht, run_underlying hu, goInt, Int.toNat_of_nonneg g1]⟩
  · cases h1; simp only [conc] at hx; cases hx
    exact ⟨_, rfl, by simp [Builtin.len_, ht, run_underlying hu, goInt]⟩
  · cases h1; simp only [conc] at hx; cases hx
    exact ⟨_, rfl, by simp [Builtin.len_, ht, run_underlying hu, goInt]⟩
  · obtain ⟨blk, h2, h3⟩ := ob_some h1
    split at h3
    · cases h3
      obtain ⟨p, hp, rfl⟩ := conc_map hx
      obtain ⟨E, clk, h4, h5⟩ := map_at r h2 hp
      refine ⟨_, rfl, ?_⟩
      have hl := h5.1
      simp at hl
      simp [Builtin.len_, ht, run_underlying hu, goInt, run_getObj_map h4, hl]
    · cases h3
  · cases h1
end
end Go.Den

/- D8 -/
set_option linter.unusedVariables false
set_option linter.unusedSimpArgs false
set_option linter.unusedSectionVars false
namespace Go.Den
variable [Interp]
section
variable {P : Program} {e : Env} {h h' : H} {w : World} {tm : Tm} {a : Act} {o : Oper} {v : IV}

/-! ### Builds -/
def PairsOK (e : Env) (ps : List (Nat × IV)) (L : List (Nat × Value)) : Prop := ps.map (·.1) = L.map (·.1) ∧ concL e (ps.map (·.2)) = some (L.map (·.2))
theorem PairsOK.cons {ps : List (Nat × IV)} {L : List (Nat × Value)} {i : Nat} {v : IV} (h : PairsOK e ((i, v) :: ps) L) : ∃ V R, L = (i, V) :: R ∧ conc e v = some V ∧ PairsOK e ps R := by
  cases L with
  | nil => exact absurd h.1 (by simp)
  | cons p R =>
    obtain ⟨h1, h2⟩ := h
    simp at h1
    obtain ⟨V, R', h3, h4, h5⟩ := concL_cons h2
    simp at h5
    exact ⟨p.2, R, by rw [h1.1], by rw [h3, h5.1], h1.2, by rw [h4, h5.2]⟩
theorem evp_ok (k : TmOK e tm a.tmps) (r : Rel P e h w) : ∀ {l : List (Nat × Operand)} {ps : List (Nat × IV)}, evp P tm l = some ps → PairsOK e ps (l.map fun p => (p.1, a.eval p.2))
  | [], ps, hx => by cases hx; exact ⟨rfl, rfl⟩
  | x :: l, ps, hx => by
    obtain ⟨v, h1, h2⟩ := ob_some hx
    obtain ⟨vl, h3, h4⟩ := ob_some h2
    cases h4
    obtain ⟨q1, q2⟩ := evp_ok k r h3
    refine ⟨by simp [q1], ?_⟩
    exact concL_mk (ev_ok k r h1) q2
theorem fill_fold : ∀ (V : List Value) (off k : Nat) (A : Array Value), off + k + V.length ≤ A.size →
    ((V.zipIdx k).foldl (fun cs (p : Value × Nat) => cs.setIfInBounds (off + p.2) p.1) A).toList = A.toList.take (off + k) ++ V ++ A.toList.drop (off + k + V.length)
  | [], off, k, A, _ => by simp
  | v :: r, off, k, A, hl => by
    simp only [List.zipIdx_cons, List.foldl_cons]
    have hl' : off + k + (r.length + 1) ≤ A.size := hl
    rw [fill_fold r off (k + 1) _ (by simp; omega)]
    have hlt : off + k < A.toList.length := by simp; omega
    simp only [Array.toList_setIfInBounds]
    rw [show off + (k + 1) = off + k + 1 by omega, List.drop_set_of_lt (by omega), List.take_succ_eq_append_getElem (by simpa using hlt), List.take_set_of_le (Nat.le_refl _)]
    simp [Nat.add_assoc, Nat.add_comm, Nat.add_left_comm]
theorem fillL_some : ∀ (cs : List IV) (n : Nat) (v : IV) (vs : List IV) {cs' : List IV}, fillL cs n (v :: vs) = some cs' → n + (vs.length + 1) ≤ cs.length ∧ cs' = cs.take n ++ (v :: vs) ++ cs.drop (n + (vs.length + 1))
  | [], n, v, vs, cs', hf => by cases hf
  | c :: cs, 0, v, vs, cs', hf => by
    have hf' : ob (fillL cs 0 vs) (fun l => some (v :: l)) = some cs' := hf
    obtain ⟨l, h1, h2⟩ := ob_some hf'
    cases h2
    cases vs with
    | nil =>
      have : fillL cs 0 [] = some cs := by cases cs <;> rfl
      rw [this] at h1; cases h1
      simp
    | cons x xs =>
      obtain ⟨h3, h4⟩ := fillL_some cs 0 x xs h1
      subst h4
      simp at h3 ⊢
      omega
  | c :: cs, n + 1, v, vs, cs', hf => by
    have hf' : ob (fillL cs n (v :: vs)) (fun l => some (c :: l)) = some cs' := hf
    obtain ⟨l, h1, h2⟩ := ob_some hf'
    cases h2
    obtain ⟨h3, h4⟩ := fillL_some cs n v vs h1
    subst h4
    have : n + 1 + (vs.length + 1) = n + (vs.length + 1) + 1 := by omega
    rw [this]
    exact ⟨by simp; omega, by simp⟩
theorem fill_step {cs cs' : List IV} {L : List Value} {off n : Nat} {v : IV} {V : Value} (hc : concL e cs = some L) (hv : conc e v = some V) (hn : v.cells.length = n + 1) (hf : fillL cs off v.cells = some cs') :
    ∃ L', (V.cells.size = n + 1 ∧ off + V.cells.size ≤ L.length) ∧ V.cells.zipIdx.foldl (fun cs (p : Value × Nat) => cs.setIfInBounds (off + p.2) p.1) L.toArray = L'.toArray ∧ concL e cs' = some L' := by
  have hcv := conc_cells hv
  cases hvc : v.cells with
  | nil => rw [hvc] at hn; simp at hn
  | cons x xs =>
    rw [hvc] at hf hcv hn
    obtain ⟨h1, h2⟩ := fillL_some cs off x xs hf
    have hlen := concL_length hcv
    have hlen2 := concL_length hc
    have hsz : V.cells.size = n + 1 := by rw [← Array.length_toList, hlen, hn]
    have hxs : xs.length = n := by simpa using hn
    refine ⟨L.take off ++ V.cells.toList ++ L.drop (off + V.cells.toList.length), ⟨hsz, by omega⟩, ?_, ?_⟩
    · apply Array.ext'
      have := fill_fold V.cells.toList off 0 L.toArray (by simp; omega)
      simp only [Nat.add_zero] at this
      rw [← this]
      congr 1
      rw [← Array.foldl_toList]
      simp
    · subst h2
      refine concL_append (concL_append (concL_take off hc) hcv) ?_
      have : off + V.cells.toList.length = off + (xs.length + 1) := by rw [hlen]; rfl
      rw [this]
      exact concL_drop _ hc
theorem fill_cons {place : Nat → Option (Nat × Nat)} {cells : Array Value} {i off n : Nat} {V : Value} {R : List (Nat × Value)} (hp : place i = some (off, n)) (h1 : V.cells.size = n) (h2 : off + V.cells.size ≤ cells.size) :
    Instr.fill place cells ((i, V) :: R) = Instr.fill place (V.cells.zipIdx.foldl (fun cs (p : Value × Nat) => cs.setIfInBounds (off + p.2) p.1) cells) R := by
  have h3 : ¬ (off + V.cells.size > cells.size) := by omega
  simp only [Instr.fill, hp, h1]
  simp
  intro hc
  rw [h1] at h2
  omega
theorem buildArr_ok {sz : Nat} : ∀ {ps : List (Nat × IV)} {R : List (Nat × Value)} {cs cs' : List IV} {L : List Value}, buildArr sz ps cs = some cs' → PairsOK e ps R → concL e cs = some L →
    ∃ L', Instr.fill (fun i => some (i * sz, sz)) L.toArray R = some L'.toArray ∧ concL e cs' = some L'
  | [], R, cs, cs', L, hb, hp, hc => by
    cases hb
    cases R with
    | nil => exact ⟨L, rfl, hc⟩
    | cons q r => exact absurd hp.1 (by simp)
  | (i, v) :: ps, R, cs, cs', L, hb, hp, hc => by
    obtain ⟨V, R', rfl, hv, hp'⟩ := hp.cons
    cases sz with
    | zero => cases hb
    | succ n =>
      have hb' : @Bool.rec (fun _ => Option (List IV)) none (ob (fillL cs (i * (n + 1)) v.cells) (buildArr (n + 1) ps)) (Nat.beq v.cells.length (n + 1)) = some cs' := hb
      cases hq : Nat.beq v.cells.length (n + 1) with
      | false => rw [hq] at hb'; cases hb'
      | true =>
        rw [hq] at hb'
        obtain ⟨c1, h1, h2⟩ := ob_some hb'
        obtain ⟨L1, ⟨h3, h4⟩, h5, h6⟩ := fill_step hc hv (Nat.eq_of_beq_eq_true hq) h1
        obtain ⟨L2, h7, h8⟩ := buildArr_ok h2 hp' h6
        exact ⟨L2, by rw [fill_cons (by rfl) h3 (by simpa using h4), h5, h7], h8⟩
theorem places_ok : ∀ {l : List Field}, sizesD P l = true → ∃ places, l.mapM (fun f => (P.info? f.type).map fun i => (f.offset, i.size)) = some places ∧ ∀ (i : Nat) (f : Field) (n : Nat), l[i]? = some f → size P f.type = some n → places[i]? = some (f.offset, n)
  | [], _ => ⟨[], rfl, by simp⟩
  | f :: l, hs => by
    have hs' : @Option.rec Nat (fun _ => Bool) false (fun _ => sizesD P l) (size P f.type) = true := hs
    cases hn : size P f.type with
    | none => rw [hn] at hs'; cases hs'
    | some n =>
      rw [hn] at hs'
      obtain ⟨pl, h1, h2⟩ := places_ok hs'
      obtain ⟨i, hi, hin⟩ := size_info hn
      refine ⟨(f.offset, n) :: pl, by simp [List.mapM_cons, hi, h1, hin], fun j g m hj hm => ?_⟩
      cases j with
      | zero => simp at hj; subst hj; rw [hn] at hm; cases hm; rfl
      | succ j => simpa using h2 j g m (by simpa using hj) hm
theorem buildStruct_ok {fs : Array Field} {places : List (Nat × Nat)} (hpl : ∀ (i : Nat) (f : Field) (n : Nat), fs[i]? = some f → size P f.type = some n → places[i]? = some (f.offset, n)) :
    ∀ {ps : List (Nat × IV)} {R : List (Nat × Value)} {cs cs' : List IV} {L : List Value}, buildStruct P fs ps cs = some cs' → PairsOK e ps R → concL e cs = some L →
    ∃ L', Instr.fill (places.toArray[·]?) L.toArray R = some L'.toArray ∧ concL e cs' = some L'
  | [], R, cs, cs', L, hb, hp, hc => by
    cases hb
    cases R with
    | nil => exact ⟨L, rfl, hc⟩
    | cons q r => exact absurd hp.1 (by simp)
  | (i, v) :: ps, R, cs, cs', L, hb, hp, hc => by
    obtain ⟨V, R', rfl, hv, hp'⟩ := hp.cons
    obtain ⟨f, hf, hb1⟩ := ob_some hb
    obtain ⟨n, hn, hb2⟩ := ob_some hb1
    cases n with
    | zero => cases hb2
    | succ n =>
      have hb' : @Bool.rec (fun _ => Option (List IV)) none (ob (fillL cs f.offset v.cells) (buildStruct P fs ps)) (Nat.beq v.cells.length (n + 1)) = some cs' := hb2
      cases hq : Nat.beq v.cells.length (n + 1) with
      | false => rw [hq] at hb'; cases hb'
      | true =>
        rw [hq] at hb'
        obtain ⟨c1, h1, h2⟩ := ob_some hb'
        obtain ⟨L1, ⟨h3, h4⟩, h5, h6⟩ := fill_step hc hv (Nat.eq_of_beq_eq_true hq) h1
        obtain ⟨L2, h7, h8⟩ := buildStruct_ok hpl h2 hp' h6
        exact ⟨L2, by rw [fill_cons (place := (places.toArray[·]?)) (by simpa using hpl i f (n + 1) hf hn) h3 (by simpa using h4), h5, h7], h8⟩
theorem doBuild_ok (k : TmOK e tm a.tmps) (r : Rel P e h w) {t : TypeId} {parts : Array (Nat × Operand)} (ho : o.op = .build t parts) (hd : doBuild P tm h t parts = some (.val v h')) : h' = h ∧ Val P e w a o v := by
  obtain ⟨z, h1, h2⟩ := ob_some hd
  obtain ⟨ps, h3, h4⟩ := ob_some h2
  obtain ⟨i, Z, hi, hZ, hzz⟩ := zero_ok h1
  have hz := conc_cells (ofValue_ok (e := e) hzz)
  have hps := evp_ok k r h3
  have hE : execOp a.eval o = (do pure (Next.value (← Instr.build t (parts.map fun (i, x) => (i, a.eval x))))) := by simp only [execOp, ho]
  have hpl : (parts.map fun (i, x) => (i, a.eval x)).toList = parts.toList.map fun p => (p.1, a.eval p.2) := by simp
  split at h4
  · rename_i fs hu
    cases hs : sizesD P fs.toList with
    | false => rw [hs] at h4; cases h4
    | true =>
      rw [hs] at h4
      obtain ⟨cs, h5, h6⟩ := ob_some h4
      cases h6
      obtain ⟨places, h7, h8⟩ := places_ok hs
      obtain ⟨L', h9, h10⟩ := buildStruct_ok (e := e) (fun i f n hf hn => h8 i f n (by simpa using hf) hn) h5 hps hz
      refine ⟨rfl, Val.mk hE (V := .agg L'.toArray) (by simp only [conc, h10]) (run_build w t _ _ ?_)⟩
      rw [hpl]
      unfold Program.built
      simp only [hi, hu, hZ, h7]
      simpa using h9
  · rename_i n el hu
    obtain ⟨sz, h5, h6⟩ := ob_some h4
    obtain ⟨cs, h7, h8⟩ := ob_some h6
    cases h8
    obtain ⟨j, hj, hjs⟩ := size_info h5
    obtain ⟨L', h9, h10⟩ := buildArr_ok (e := e) h7 hps hz
    refine ⟨rfl, Val.mk hE (V := .agg L'.toArray) (by simp only [conc, h10]) (run_build w t _ _ ?_)⟩
    rw [hpl]
    unfold Program.built
    simp only [hi, hu, hZ, hj, hjs]
    simpa using h9
  · cases h4
end
end Go.Den

/- D9 -/
set_option linter.unusedVariables false
set_option linter.unusedSimpArgs false
set_option linter.unusedSectionVars false
namespace Go.Den
variable [Interp]
section
variable {P : Program} {e : Env} {h h' : H} {w : World} {tm : Tm} {a : Act} {o : Oper} {v : IV}

/-! ### Conversions that make no row -/
theorem bytesOf_ok : ∀ {l : List IV} {s : List UInt8} {L : List Value}, bytesOf l = some s → concL e l = some L → ∃ ns : List Int, L = ns.map (Value.int .u8) ∧ ns.map (fun n => UInt8.ofNat n.toNat) = s
  | [], s, L, hb, hc => by cases hb; simp only [concL] at hc; cases hc; exact ⟨[], rfl, rfl⟩
  | v :: l, s, L, hb, hc => by
    obtain ⟨V, R, h1, h2, rfl⟩ := concL_cons hc
    cases v with
    | int k n =>
      cases k <;> first | (exact absurd hb (by intro hh; cases hh)) | skip
      have hb' : ob (bytesOf l) (fun r => some (UInt8.ofNat n.toNat :: r)) = some s := hb
      obtain ⟨r, h3, h4⟩ := ob_some hb'
      cases h4
      obtain ⟨ns, h5, h6⟩ := bytesOf_ok h3 h2
      simp only [conc] at h1; cases h1
      exact ⟨n :: ns, by rw [h5]; rfl, by simp [h6]⟩
    | _ => cases hb
theorem bytesT_ok : ∀ {l : List IV} {s : SE} {L : List Value}, bytesT l = some s → concL e l = some L → ∃ ns : List Int, L = ns.map (Value.int .u8) ∧ ns.map (fun n => UInt8.ofNat n.toNat) = s.str e.ρ
  | [], s, L, hb, hc => by cases hb; simp only [concL] at hc; cases hc; exact ⟨[], rfl, rfl⟩
  | v :: l, s, L, hb, hc => by
    obtain ⟨V, R, h1, h2, rfl⟩ := concL_cons hc
    cases v with
    | int k n =>
      cases k <;> first | (exact absurd hb (by intro hh; cases hh)) | skip
      have hb' : ob (bytesT l) (fun r => some (tCat (tChr (.n n)) r)) = some s := hb
      obtain ⟨r, h3, h4⟩ := ob_some hb'
      cases h4
      obtain ⟨ns, h5, h6⟩ := bytesT_ok h3 h2
      simp only [conc] at h1; cases h1
      exact ⟨n :: ns, by rw [h5]; rfl, by rw [str_cat, str_chr, den_n, ← h6]; rfl⟩
    | sint k n =>
      cases k <;> first | (exact absurd hb (by intro hh; cases hh)) | skip
      have hb' : ob (bytesT l) (fun r => some (tCat (tChr n) r)) = some s := hb
      obtain ⟨r, h3, h4⟩ := ob_some hb'
      cases h4
      obtain ⟨ns, h5, h6⟩ := bytesT_ok h3 h2
      simp only [conc] at h1; cases h1
      exact ⟨n.den e.ρ :: ns, by rw [h5]; rfl, by rw [str_cat, str_chr, ← h6]; rfl⟩
    | _ => cases hb
theorem textOf_ok {l : List IV} {v : IV} {L : List Value} (hb : textOf l = some v) (hc : concL e l = some L) : ∃ (ns : List Int) (bs : List UInt8), L = ns.map (Value.int .u8) ∧ ns.map (fun n => UInt8.ofNat n.toNat) = bs ∧ conc e v = some (.string ⟨bs.toArray⟩) := by
  have hb' : @Option.rec (List UInt8) (fun _ => Option IV) (ob (bytesT l) fun t => some (.sstr t)) (fun s => some (.str s)) (bytesOf l) = some v := hb
  cases hs : bytesOf l with
  | some s =>
    rw [hs] at hb'; cases hb'
    obtain ⟨ns, h1, h2⟩ := bytesOf_ok hs hc
    exact ⟨ns, s, h1, h2, rfl⟩
  | none =>
    rw [hs] at hb'
    obtain ⟨t, h1, h2⟩ := ob_some hb'
    cases h2
    obtain ⟨ns, h3, h4⟩ := bytesT_ok h1 hc
    exact ⟨ns, t.str e.ρ, h3, h4, rfl⟩
theorem push_fold : ∀ (ns : List Int) (s : List UInt8), ns.foldl (fun (r : ByteArray) n => r.push (UInt8.ofNat n.toNat)) ⟨s.toArray⟩ = ⟨(s ++ ns.map fun n => UInt8.ofNat n.toNat).toArray⟩
  | [], s => by simp
  | n :: ns, s => by
    simp only [List.foldl_cons]
    have : (⟨s.toArray⟩ : ByteArray).push (UInt8.ofNat n.toNat) = ⟨(s ++ [UInt8.ofNat n.toNat]).toArray⟩ := by
      apply ByteArray.ext; simp [ByteArray.push]
    rw [this, push_fold ns]
    simp
/-- Does the conversion make a row? -/
def makesRow (P : Program) (d : TypeId) : Bool := match P.underlying d with
  | some (.slice _) => true
  | _ => false
theorem doConvert_ok (k : TmOK e tm a.tmps) (r : Rel P e h w) {s d : TypeId} {x : Operand} (hm : makesRow P d = false) (ho : o.op = .convert s d x) (hd : doConvert P tm h s d x = some (.val v h')) : h' = h ∧ Val P e w a o v := by
  obtain ⟨p, h1, h2⟩ := ob_some hd
  obtain ⟨q, h3, h4⟩ := ob_some h2
  have hx := ev_ok k r h1
  have hE : execOp a.eval o = (do pure (Next.value (← convert s d (a.eval x)))) := by simp only [execOp, ho]
  obtain ⟨u, hu, h5⟩ := ob_some h3
  split at h5
  · split at h5
    · rename_i us hs
      cases h5; cases h4
      simp only [conc] at hx
      refine ⟨rfl, Val.mk hE rfl ?_⟩
      rw [← Option.some.inj hx]
      simp [convert, run_underlying hu, run_underlying hs, Conv.intToInt]
    · cases h5
  · split at h5
    · rename_i us hs
      cases h5; cases h4
      simp only [conc] at hx
      refine ⟨rfl, Val.mk hE rfl ?_⟩
      rw [← Option.some.inj hx]
      simp [convert, run_underlying hu, run_underlying hs, Conv.intToInt, SE.den, SE.D, dyI]
    · cases h5
  · split at h5
    · rename_i us hs
      cases h5; cases h4
      simp only [conc] at hx
      refine ⟨rfl, Val.mk hE rfl ?_⟩
      rw [← Option.some.inj hx]
      cases us <;> simp [convert, run_underlying hu, run_underlying hs]
    · cases h5
  · rename_i el ss
    simp [makesRow, hu] at hm
  · split at h5
    · rename_i el hs
      split at h5
      · rename_i hel
        cases h5; cases h4
        simp only [conc] at hx
        refine ⟨rfl, Val.mk hE rfl ?_⟩
        rw [← Option.some.inj hx]
        simp only [convert, Sem.run_bind, run_underlying hu, run_underlying hs, run_underlying hel, Result.andThen_ok, Conv.bytesToString]
        rfl
      · cases h5
    · cases h5
  · rename_i b off n c
    split at h5
    · rename_i el hs
      split at h5
      · rename_i hel
        obtain ⟨blk, h6, h7⟩ := ob_some h5
        obtain ⟨l, h8, h9⟩ := ob_some h7
        obtain ⟨tv, h10, h11⟩ := ob_some h9
        cases h11; cases h4
        obtain ⟨p, hp, hV⟩ := conc_slice hx
        obtain ⟨L, h12, h13, h14⟩ := run_loadN (r.at h6 hp) h8
        obtain ⟨ns, bs, h15, h16, h17⟩ := textOf_ok h10 h12
        refine ⟨rfl, Val.mk hE (V := .string ⟨bs.toArray⟩) h17 ?_⟩
        rw [hV, run_convert_bytes_string w s d el _ n _ hs hel hu, run_bytesToString w _ n _ ns (by rw [h14, h15])]
        have := push_fold ns []
        simp only [List.nil_append] at this
        rw [h16] at this
        rw [← this]
        rfl
      · cases h5
    · cases h5
  · split at h5
    · rename_i us hs
      cases h5; cases h4
      simp only [conc] at hx
      refine ⟨rfl, Val.mk hE rfl ?_⟩
      rw [← Option.some.inj hx]
      cases us <;> simp [convert, run_underlying hu, run_underlying hs]
    · cases h5
  · rename_i el ss
    simp [makesRow, hu] at hm
  · cases h5

/-! ### Calls that read -/
theorem doCall_read_ok (k : TmOK e tm a.tmps) (r : Rel P e h w) {c : Call} {b : Builtin} (hb : c.callee = .builtin b) (hk : b = .len ∨ b = .max ∨ b = .min) (ho : o.op = .call c) (hd : callD P tm h c = some (.val v h')) : h' = h ∧ Val P e w a o v := by
  obtain ⟨args, h1, h2⟩ := ob_some hd
  have hx := evs_ok k r h1
  obtain ⟨consts, hrun⟩ := call_builtin (P := P) (w := w) (a := a) ho hb
  have hargs : (c.args.map a.eval) = (c.args.toList.map a.eval).toArray := by apply Array.ext'; simp
  rw [hb] at h2
  simp only at h2
  split at h2
  · rename_i x
    obtain ⟨t, h3, h4⟩ := ob_some h2
    obtain ⟨u, h5, h6⟩ := ob_some h4
    cases h6
    obtain ⟨V, R, h7, h8, h9⟩ := concL_cons hx
    simp only [concL] at h8; cases h8
    obtain ⟨U, h10, h11⟩ := lenD_ok (c := c) r h7 h5 c.argTypes h3 o.type
    refine ⟨rfl, U, h10, ?_⟩
    rw [hrun, hargs, h9]
    simp [builtin, h11]
  · rcases hk with hk | hk | hk <;> cases hk
  · rcases hk with hk | hk | hk <;> cases hk
  · rcases hk with hk | hk | hk <;> cases hk
  · rename_i kk m kk' n
    cases h2
    obtain ⟨V, R, h7, h8, h9⟩ := concL_cons hx
    obtain ⟨V2, R2, h10, h11, h12⟩ := concL_cons h8
    simp only [concL] at h11; cases h11
    simp only [conc] at h7 h10; cases h7; cases h10
    refine ⟨rfl, _, rfl, ?_⟩
    rw [hrun, hargs, h9, h12]
    simp only [leZ_eq]
    by_cases hle : n ≤ m
    · have : ¬ n > m := by omega
      simp [builtin, Builtin.max_, Builtin.max2, hle, this]
    · have : n > m := by omega
      simp [builtin, Builtin.max_, Builtin.max2, hle, this]
  · rename_i kk m kk' n
    obtain ⟨r1, q1, q2⟩ := ob_some h2
    cases q2
    obtain ⟨V, R, h7, h8, h9⟩ := concL_cons hx
    obtain ⟨V2, R2, h10, h11, h12⟩ := concL_cons h8
    simp only [concL] at h11; cases h11
    simp only [conc] at h7 h10; cases h7; cases h10
    have h13 : decide (n.den e.ρ ≤ m) = r1 := r.asm .le n (.n m) r1 q1
    refine ⟨rfl, .int kk (if n.den e.ρ ≤ m then m else n.den e.ρ), ?_, ?_⟩
    · by_cases hle : n.den e.ρ ≤ m
      · rw [if_pos hle]; rw [decide_eq_true hle] at h13; rw [← h13]; rfl
      · rw [if_neg hle]; rw [decide_eq_false hle] at h13; rw [← h13]; rfl
    · rw [hrun, hargs, h9, h12]
      by_cases hle : n.den e.ρ ≤ m
      · have : ¬ n.den e.ρ > m := by omega
        simp [builtin, Builtin.max_, Builtin.max2, hle, this]
      · have : n.den e.ρ > m := by omega
        simp [builtin, Builtin.max_, Builtin.max2, hle, this]
  · rename_i kk m kk' n
    obtain ⟨r1, q1, q2⟩ := ob_some h2
    cases q2
    obtain ⟨V, R, h7, h8, h9⟩ := concL_cons hx
    obtain ⟨V2, R2, h10, h11, h12⟩ := concL_cons h8
    simp only [concL] at h11; cases h11
    simp only [conc] at h7 h10; cases h7; cases h10
    have h13 : decide (n ≤ m.den e.ρ) = r1 := r.asm .le (.n n) m r1 q1
    refine ⟨rfl, .int kk (if n ≤ m.den e.ρ then m.den e.ρ else n), ?_, ?_⟩
    · by_cases hle : n ≤ m.den e.ρ
      · rw [if_pos hle]; rw [decide_eq_true hle] at h13; rw [← h13]; rfl
      · rw [if_neg hle]; rw [decide_eq_false hle] at h13; rw [← h13]; rfl
    · rw [hrun, hargs, h9, h12]
      by_cases hle : n ≤ m.den e.ρ
      · have : ¬ n > m.den e.ρ := by omega
        simp [builtin, Builtin.max_, Builtin.max2, hle, this]
      · have : n > m.den e.ρ := by omega
        simp [builtin, Builtin.max_, Builtin.max2, hle, this]
  · rename_i kk m kk' n
    obtain ⟨r1, q1, q2⟩ := ob_some h2
    cases q2
    obtain ⟨V, R, h7, h8, h9⟩ := concL_cons hx
    obtain ⟨V2, R2, h10, h11, h12⟩ := concL_cons h8
    simp only [concL] at h11; cases h11
    simp only [conc] at h7 h10; cases h7; cases h10
    have h13 : decide (m ≤ n.den e.ρ) = r1 := r.asm .le (.n m) n r1 q1
    refine ⟨rfl, .int kk (if m ≤ n.den e.ρ then m else n.den e.ρ), ?_, ?_⟩
    · by_cases hle : m ≤ n.den e.ρ
      · rw [if_pos hle]; rw [decide_eq_true hle] at h13; rw [← h13]; rfl
      · rw [if_neg hle]; rw [decide_eq_false hle] at h13; rw [← h13]; rfl
    · rw [hrun, hargs, h9, h12]
      by_cases hle : m ≤ n.den e.ρ
      · have : ¬ n.den e.ρ < m := by omega
        simp [builtin, Builtin.min_, Builtin.min2, hle, this]
      · have : n.den e.ρ < m := by omega
        simp [builtin, Builtin.min_, Builtin.min2, hle, this]
  · rename_i kk m kk' n
    obtain ⟨r1, q1, q2⟩ := ob_some h2
    cases q2
    obtain ⟨V, R, h7, h8, h9⟩ := concL_cons hx
    obtain ⟨V2, R2, h10, h11, h12⟩ := concL_cons h8
    simp only [concL] at h11; cases h11
    simp only [conc] at h7 h10; cases h7; cases h10
    have h13 : decide (m.den e.ρ ≤ n) = r1 := r.asm .le m (.n n) r1 q1
    refine ⟨rfl, .int kk (if m.den e.ρ ≤ n then m.den e.ρ else n), ?_, ?_⟩
    · by_cases hle : m.den e.ρ ≤ n
      · rw [if_pos hle]; rw [decide_eq_true hle] at h13; rw [← h13]; rfl
      · rw [if_neg hle]; rw [decide_eq_false hle] at h13; rw [← h13]; rfl
    · rw [hrun, hargs, h9, h12]
      by_cases hle : m.den e.ρ ≤ n
      · have : ¬ n < m.den e.ρ := by omega
        simp [builtin, Builtin.min_, Builtin.min2, hle, this]
      · have : n < m.den e.ρ := by omega
        simp [builtin, Builtin.min_, Builtin.min2, hle, this]
  · rename_i kk m kk' n
    obtain ⟨r1, q1, q2⟩ := ob_some h2
    cases q2
    obtain ⟨V, R, h7, h8, h9⟩ := concL_cons hx
    obtain ⟨V2, R2, h10, h11, h12⟩ := concL_cons h8
    simp only [concL] at h11; cases h11
    simp only [conc] at h7 h10; cases h7; cases h10
    have h13 : decide (n.den e.ρ ≤ m.den e.ρ) = r1 := r.asm .le n m r1 q1
    refine ⟨rfl, .int kk (if n.den e.ρ ≤ m.den e.ρ then m.den e.ρ else n.den e.ρ), ?_, ?_⟩
    · simp only [conc]
      congr 2
      by_cases hle : n.den e.ρ ≤ m.den e.ρ
      · rw [if_pos hle]; rw [decide_eq_true hle] at h13; rw [← h13]
      · rw [if_neg hle]; rw [decide_eq_false hle] at h13; rw [← h13]
    · rw [hrun, hargs, h9, h12]
      by_cases hle : n.den e.ρ ≤ m.den e.ρ
      · have : ¬ n.den e.ρ > m.den e.ρ := by omega
        simp [builtin, Builtin.max_, Builtin.max2, hle, this]
      · have : n.den e.ρ > m.den e.ρ := by omega
        simp [builtin, Builtin.max_, Builtin.max2, hle, this]
  · rename_i kk m kk' n
    obtain ⟨r1, q1, q2⟩ := ob_some h2
    cases q2
    obtain ⟨V, R, h7, h8, h9⟩ := concL_cons hx
    obtain ⟨V2, R2, h10, h11, h12⟩ := concL_cons h8
    simp only [concL] at h11; cases h11
    simp only [conc] at h7 h10; cases h7; cases h10
    have h13 : decide (m.den e.ρ ≤ n.den e.ρ) = r1 := r.asm .le m n r1 q1
    refine ⟨rfl, .int kk (if m.den e.ρ ≤ n.den e.ρ then m.den e.ρ else n.den e.ρ), ?_, ?_⟩
    · simp only [conc]
      congr 2
      by_cases hle : m.den e.ρ ≤ n.den e.ρ
      · rw [if_pos hle]; rw [decide_eq_true hle] at h13; rw [← h13]
      · rw [if_neg hle]; rw [decide_eq_false hle] at h13; rw [← h13]
    · rw [hrun, hargs, h9, h12]
      by_cases hle : m.den e.ρ ≤ n.den e.ρ
      · have : ¬ n.den e.ρ < m.den e.ρ := by omega
        simp [builtin, Builtin.min_, Builtin.min2, hle, this]
      · have : n.den e.ρ < m.den e.ρ := by omega
        simp [builtin, Builtin.min_, Builtin.min2, hle, this]
  · rename_i kk m kk' n
    cases h2
    obtain ⟨V, R, h7, h8, h9⟩ := concL_cons hx
    obtain ⟨V2, R2, h10, h11, h12⟩ := concL_cons h8
    simp only [concL] at h11; cases h11
    simp only [conc] at h7 h10; cases h7; cases h10
    refine ⟨rfl, _, rfl, ?_⟩
    rw [hrun, hargs, h9, h12]
    simp only [leZ_eq]
    by_cases hle : m ≤ n
    · have : ¬ n < m := by omega
      simp [builtin, Builtin.min_, Builtin.min2, hle, this]
    · have : n < m := by omega
      simp [builtin, Builtin.min_, Builtin.min2, hle, this]
  · cases h2
end
end Go.Den

/- D10 -/
set_option linter.unusedVariables false
set_option linter.unusedSimpArgs false
set_option linter.unusedSectionVars false
namespace Go.Den
variable [Interp]
/-- The operation makes one block, and touches nothing. -/
def Alloc (P : Program) (e : Env) (w : World) (a : Act) (o : Oper) (id : Nat) (v : IV) (b : Blk) : Prop :=
  ∃ (c : Nat → Nat) (V : Value) (w' : World) (obj : Obj), (execOp a.eval o).run P w = .ok (.value V) w' ∧ w'.heap = w.heap.push obj ∧ w'.os = w.os ∧ w'.tape = w.tape ∧ w'.output = w.output ∧
    ∀ e1 : Env, e.le e1 → e1 id = some (w.heap.size, c) → conc e1 v = some V ∧ BlkOK P e1 b (w.heap.size, c) w'
section
variable {P : Program} {e : Env} {h h0 h' : H} {w : World} {tm : Tm} {a : Act} {o : Oper} {v : IV}

/-! ### Rows of lists -/
theorem listT_get : ∀ (l : List IV) (i : Nat) (t : T IV) (j : Nat), (listT l i t).get j = if i ≤ j ∧ j < i + l.length then l[j - i]? else t.get j
  | [], i, t, j => by
    have : listT [] i t = t := rfl
    rw [this, if_neg (by simp)]
  | v :: l, i, t, j => by
    have : listT (v :: l) i t = listT l (i + 1) (t.put i v) := rfl
    rw [this, listT_get l (i + 1) _ j, get_put]
    by_cases h1 : i + 1 ≤ j ∧ j < i + 1 + l.length
    · rw [if_pos h1, if_pos (by simp; omega)]
      have : j - i = (j - (i + 1)) + 1 := by omega
      rw [this]; rfl
    · rw [if_neg h1]
      by_cases h2 : j = i
      · subst h2; rw [if_pos rfl, if_pos (by simp)]; simp
      · rw [if_neg h2, if_neg (by simp; omega)]
theorem cell_listT {t : TypeId} {n md o : Nat} {cs : List IV} (hc : (Blk.cells t n [] (listT cs 0 .nil) md).cell o = some v) : cs[o]? = some v := by
  have hc' : (match Nat.blt o n with
    | true => match (listT cs 0 .nil).get o with
      | some v => some v
      | none => ([] : List IV)[o % ([] : List IV).length]?
    | false => none) = some v := hc
  split at hc'
  · rw [listT_get] at hc'
    split at hc'
    · rename_i u hu
      split at hu
      · cases hc'; simpa using hu
      · rw [get_nil] at hu; cases hu
    · simp at hc'
  · cases hc'
/-- A new row of known cells. -/
theorem fresh_row {e1 : Env} {t : TypeId} {n : Nat} {cs : List IV} {L rest : List Value} {cur : Array Value} {fr : Nat × Nat} {p : Nat × (Nat → Nat)} {w1 : World} {md : Nat}
    (hh : w1.heap[p.1]? = some (.cells cur t fr)) (hc : concL e1 cs = some L) (hcur : cur.toList = L ++ rest) (hn : n ≤ cur.size) (hfr : ∀ o, o < cur.size → ¬ (fr.1 ≤ o ∧ o < fr.2))
    (hmd : md = 1 → ∃ i C, P.info? t = some i ∧ 0 < i.size ∧ cur.size = C * i.size ∧ C ≤ maxLen ∧ ∀ o, p.2 o = C - o / i.size) : BlkOK P e1 (.cells t n [] (listT cs 0 .nil) md) p w1 := by
  refine ⟨cur, t, fr, hh, fun _ => rfl, hn, fun _ => hfr, fun o v hv => ?_, hmd⟩
  obtain ⟨V, h1, h2⟩ := concL_get hc o v (cell_listT hv)
  refine ⟨V, h1, ?_⟩
  rw [← Array.getElem?_toList, hcur, List.getElem?_append_left (by have := (List.getElem?_eq_some_iff.1 h2).1; exact this)]
  exact h2
theorem no_frozen {n : Nat} : ∀ o, o < n → ¬ ((0, 0).1 ≤ o ∧ o < (0, 0).2) := fun o _ hh => by simp at hh
theorem doAlloc_ok {t : TypeId} (ho : o.op = .alloc t) (hd : doAlloc P tm h t = some (.val v h')) : ∃ b, h' = h.new b ∧ b.rw = true ∧ Alloc P e w a o h.next v b := by
  obtain ⟨z, h1, h2⟩ := ob_some hd
  cases h2
  obtain ⟨i, Z, hi, hZ, hz⟩ := zero_ok h1
  refine ⟨_, rfl, rfl, fun _ => 0, .pointer (some ⟨w.heap.size, 0, none⟩), { w with heap := w.heap.push (.cells Z.cells t) }, .cells Z.cells t, ?_, rfl, rfl, rfl, rfl, fun e1 hle hp => ⟨?_, ?_⟩⟩
  · simp only [execOp, ho]
    simp [Instr.alloc, run_zeroValue' hi hZ, newVar, newRow]
  · simp only [conc, hp]
  · have hc := conc_cells (ofValue_ok (e := e1) hz)
    have hlen := concL_length hc
    exact fresh_row (cur := Z.cells) (fr := (0, 0)) (rest := []) (by simp) hc (by simp) (by rw [← hlen]; simp) no_frozen (fun hh => absurd hh (by simp))
theorem doBox_ok (k : TmOK e tm a.tmps) (r : Rel P e h0 w) {t : TypeId} {x : Operand} (ho : o.op = .box t x) (hd : doBox P tm h t x = some (.val v h')) : ∃ b, h' = h.new b ∧ b.rw = true ∧ Alloc P e w a o h.next v b := by
  obtain ⟨u, h1, h2⟩ := ob_some hd
  cases h2
  have hx := ev_ok k r h1
  refine ⟨_, rfl, rfl, fun _ => 0, .pointer (some ⟨w.heap.size, 0, none⟩), { w with heap := w.heap.push (.cells (a.eval x).cells t) }, .cells (a.eval x).cells t, ?_, rfl, rfl, rfl, rfl, fun e1 hle hp => ⟨?_, ?_⟩⟩
  · simp only [execOp, ho]
    simp [Instr.box, newVar, newRow]
  · simp only [conc, hp]
  · have hc := conc_cells (conc_mono hle _ hx)
    have hlen := concL_length hc
    exact fresh_row (cur := (a.eval x).cells) (fr := (0, 0)) (rest := []) (by simp) hc (by simp) (by rw [← hlen]; simp) no_frozen (fun hh => absurd hh (by simp))
theorem doMakeMap_ok {t : TypeId} {x : Option Operand} (ho : o.op = .makeMap t x) (hd : doMakeMap tm h x = some (.val v h')) : ∃ b, h' = h.new b ∧ b.rw = true ∧ Alloc P e w a o h.next v b := by
  cases x with
  | some y => cases hd
  | none =>
    cases hd
    refine ⟨_, rfl, rfl, fun _ => 0, .map (some w.heap.size), { w with heap := w.heap.push (.map #[] 0) }, .map #[] 0, ?_, rfl, rfl, rfl, rfl, fun e1 hle hp => ⟨?_, ?_⟩⟩
    · simp only [execOp, ho]
      simp [Instr.makeMap]
    · simp only [conc, hp]
    · exact ⟨#[], 0, by simp, rfl, by simp⟩
theorem doRange_ok (k : TmOK e tm a.tmps) (r : Rel P e h0 w) {t : TypeId} {x : Operand} (ho : o.op = .range t x) (hd : doRange P tm h t x = some (.val v h')) : ∃ b, h' = h.new b ∧ b.rw = true ∧ Alloc P e w a o h.next v b := by
  obtain ⟨u, h1, h2⟩ := ob_some hd
  have hx := ev_ok k r h1
  split at h2
  · rename_i s hu
    cases h2
    simp only [conc] at hx
    refine ⟨_, rfl, rfl, fun _ => 0, .pointer (some ⟨w.heap.size, 0, none⟩), { w with heap := w.heap.push (.stringIter ⟨s.toArray⟩ 0) }, .stringIter ⟨s.toArray⟩ 0, ?_, rfl, rfl, rfl, rfl, fun e1 hle hp => ⟨?_, ?_⟩⟩
    · simp only [execOp, ho, ← Option.some.inj hx]
      simp [Instr.range, run_underlying hu]
    · simp only [conc, hp]
    · show ({ w with heap := w.heap.push (.stringIter ⟨s.toArray⟩ 0) } : World).heap[w.heap.size]? = _
      simp
  · rename_i s hu
    cases h2
    simp only [conc] at hx
    refine ⟨_, rfl, rfl, fun _ => 0, .pointer (some ⟨w.heap.size, 0, none⟩), { w with heap := w.heap.push (.stringIter ⟨(s.str e.ρ).toArray⟩ 0) }, .stringIter ⟨(s.str e.ρ).toArray⟩ 0, ?_, rfl, rfl, rfl, rfl, fun e1 hle hp => ⟨?_, ?_⟩⟩
    · simp only [execOp, ho, ← Option.some.inj hx]
      simp [Instr.range, run_underlying hu]
    · simp only [conc, hp]
    · refine ⟨Int.le_refl _, ?_⟩
      show ({ w with heap := w.heap.push (.stringIter ⟨(s.str e.ρ).toArray⟩ 0) } : World).heap[w.heap.size]? = _
      rw [hle.ρ]
      simp [den_n]
  · cases h2
theorem zeros_ok {z : List IV} {Z : Array Value} (hz : concL e z = some Z.toList) : ∀ n, concL e (zeros z n) = some (Builtin.zeroCells Z n).toList
  | 0 => by
    have : zeros z 0 = [] := rfl
    rw [this]; simp [concL, Builtin.zeroCells]
  | n + 1 => by
    have h1 : zeros z (n + 1) = z ++ zeros z n := rfl
    rw [h1]
    have h2 := concL_append hz (zeros_ok hz n)
    rw [h2]
    congr 1
    apply List.ext_getElem?
    intro j
    have hsz : (n + 1) * Z.size = Z.size + n * Z.size := by rw [Nat.add_mul, Nat.one_mul, Nat.add_comm]
    simp only [Builtin.zeroCells, Array.toList_map, Array.toList_range, List.getElem?_map]
    by_cases hj : j < Z.size
    · rw [List.getElem?_append_left (by simpa using hj), List.getElem?_range (by rw [hsz]; omega)]
      simp [Nat.mod_eq_of_lt hj, hj]
    · rw [List.getElem?_append_right (by simpa using hj)]
      simp only [Array.length_toList, List.getElem?_map]
      by_cases hj2 : j < Z.size + n * Z.size
      · rw [List.getElem?_range (by omega), List.getElem?_range (by rw [hsz]; omega)]
        simp only [Option.map_some]
        rw [Nat.mod_eq_sub_mod (by omega : j ≥ Z.size)]
      · rw [List.getElem?_eq_none (by simp; omega), List.getElem?_eq_none (by simp [hsz]; omega)]
theorem madeCells_eq (Z : Array Value) (n : Nat) : madeCells Z (n * Z.size) = Builtin.zeroCells Z n := rfl
theorem doMakeSlice_ok (k : TmOK e tm a.tmps) (r : Rel P e h0 w) {t : TypeId} {x y : Operand} (ho : o.op = .makeSlice t x y) (hd : doMakeSlice P tm h t x y = some (.val v h')) : ∃ b, h' = h.new b ∧ b.rw = true ∧ Alloc P e w a o h.next v b := by
  unfold doMakeSlice at hd
  split at hd
  · rename_i el hu
    obtain ⟨l, h1, h2⟩ := ob_some hd
    obtain ⟨c, h3, h4⟩ := ob_some h2
    have hx := ev_ok k r h1
    have hy := ev_ok k r h3
    split at h4
    · rename_i kl l kc c
      split at h4
      · rename_i hl hc
        obtain ⟨i, hi, h5⟩ := ob_some h4
        obtain ⟨z, h6, h7⟩ := ob_some h5
        split at h7
        · rename_i hby hzs
          cases h7
          obtain ⟨i', Z, hi', hZ, hz⟩ := zero_ok h6
          rw [hi] at hi'; cases hi'
          have hl' := Nat.ble_eq.mp hl
          have hc' := Nat.ble_eq.mp hc
          have hby' := Nat.ble_eq.mp hby
          have hzs' := Nat.eq_of_beq_eq_true hzs
          simp only [conc] at hx hy
          have hmul : i.bytes * c ≤ 1000000 * 1000000 := Nat.mul_le_mul hby' hc'
          have hmul2 : (i.bytes : Int) * (c : Int) ≤ 281474976710656 := by
            have h0 : ((i.bytes * c : Nat) : Int) ≤ 1000000000000 := by omega
            rw [Int.natCast_mul] at h0
            omega
          have hrun := run_make (P := P) w t el i Z hu hi hZ kl kc l c (by omega) (by omega) hmul2 (by omega)
          simp only [Int.toNat_natCast] at hrun
          refine ⟨_, rfl, rfl, fun _ => 0, .slice (some ⟨w.heap.size, 0, none⟩) l c, w.alloc (.cells (madeCells Z.cells (c * i.size)) el), .cells (madeCells Z.cells (c * i.size)) el, ?_, rfl, rfl, rfl, rfl, fun e1 hle hp => ⟨?_, ?_⟩⟩
          · simp only [execOp, ho, ← Option.some.inj hx, ← Option.some.inj hy]
            simp only [Sem.run_bind]
            have hrun' : (Instr.makeSlice t (.int kl (Int.ofNat l)) (.int kc (Int.ofNat c))).run P w = _ := hrun
            rw [hrun']
            rfl
          · exact conc_exact hp (by unfold loose; omega)
          · have hcz := conc_cells (ofValue_ok (e := e1) hz)
            have hlen := concL_length hcz
            have hZs : Z.cells.size = i.size := by rw [← Array.length_toList, hlen, hzs']
            refine ⟨madeCells Z.cells (c * i.size), el, (0, 0), heap_alloc_new w _, fun _ => rfl, by simp [madeCells], fun _ => no_frozen, fun o u hu => ?_, fun hh => absurd hh (by simp)⟩
            have hu' : (match Nat.blt o (c * i.size) with
              | true => match (T.nil : T IV).get o with
                | some v => some v
                | none => z.cells[o % z.cells.length]?
              | false => none) = some u := hu
            rw [get_nil] at hu'
            split at hu'
            · rename_i hlt
              have hlt' : o < c * i.size := Nat.blt_eq.mp hlt
              simp only at hu'
              obtain ⟨U, h8, h9⟩ := concL_get hcz _ u hu'
              refine ⟨U, h8, ?_⟩
              simp only [madeCells]
              rw [Array.getElem?_map, Array.getElem?_range, if_pos hlt']
              simp only [Option.map_some]
              rw [hzs', ← hZs] at h9
              have hpos : 0 < Z.cells.size := by
                rcases Nat.eq_zero_or_pos Z.cells.size with hz0 | hz0
                · rw [hZs] at hz0; rw [hz0] at hlt'; simp at hlt'
                · exact hz0
              have : o % Z.cells.size < Z.cells.size := Nat.mod_lt _ hpos
              simp only [Array.getElem?_toList] at h9
              rw [getElem!_pos Z.cells _ this]
              rw [← h9, getElem?_pos Z.cells _ this]
            · cases hu'
        · cases h7
      · cases h4
    · cases h4
  · cases hd
theorem fold_size {off : Nat} : ∀ (l : List (Value × Nat)) (A : Array Value), (l.foldl (fun cs (p : Value × Nat) => cs.setIfInBounds (off + p.2) p.1) A).size = A.size
  | [], A => rfl
  | p :: l, A => by simp only [List.foldl_cons]; rw [fold_size l]; simp
theorem fill_size {place : Nat → Option (Nat × Nat)} : ∀ {R : List (Nat × Value)} {A B : Array Value}, Instr.fill place A R = some B → B.size = A.size
  | [], A, B, hf => by simp only [Instr.fill] at hf; cases hf; rfl
  | (i, V) :: R, A, B, hf => by
    simp only [Instr.fill] at hf
    split at hf
    · cases hf
    · split at hf
      · cases hf
      · rw [fill_size hf]
        rw [← Array.foldl_toList]
        exact fold_size _ _
theorem modify_push {α : Type} (A : Array α) (x : α) (f : α → α) : (A.push x).modify A.size f = A.push (f x) := by
  apply Array.ext'
  simp [Array.modify, Array.modifyM, Id.run]
  show ((A.push x).set A.size (f x) (by simp)).toList = _
  simp
theorem doBuildSlice_ok (k : TmOK e tm a.tmps) (r : Rel P e h0 w) {t : TypeId} {n : Nat} {parts : Array (Nat × Operand)} (ho : o.op = .buildSlice t n parts) (hd : doBuildSlice P tm h t n parts = some (.val v h')) : ∃ b, h' = h.new b ∧ b.rw = true ∧ Alloc P e w a o h.next v b := by
  unfold doBuildSlice at hd
  split at hd
  · rename_i el hu
    obtain ⟨sz, h1, h2⟩ := ob_some hd
    obtain ⟨z, h3, h4⟩ := ob_some h2
    obtain ⟨ps, h5, h6⟩ := ob_some h4
    obtain ⟨cs, h7, h8⟩ := ob_some h6
    split at h8
    · rename_i c1 c2 c3
      cases h8
      obtain ⟨i, Z, hi, hZ, hz⟩ := zero_ok h3
      have hle := Nat.ble_eq.mp c1
      have hzs := Nat.eq_of_beq_eq_true c2
      have hlo := Nat.blt_eq.mp c3
      have hcz := conc_cells (ofValue_ok (e := e) hz)
      have hlen := concL_length hcz
      have hZs : Z.cells.size = sz := by rw [← Array.length_toList, hlen, hzs]
      have hps := evp_ok k r h5
      obtain ⟨L', h9, h10⟩ := buildArr_ok (e := e) h7 hps (zeros_ok hcz n)
      have hpl : (parts.map fun (i, x) => (i, a.eval x)).toList = parts.toList.map fun p => (p.1, a.eval p.2) := by simp
      have hstart : ∀ w1 : World, ((if n * sz = 0 then pure #[] else do pure (← zeroValue el).cells : Sem (Array Value))).run P w1 = .ok (if n * sz = 0 then #[] else Z.cells) w1 := by
        intro w1
        by_cases h0 : n * sz = 0
        · simp [h0]
        · simp [h0, run_zeroValue' hi hZ]
      have hcells : (Array.range (n * sz)).map ((if n * sz = 0 then #[] else Z.cells : Array Value)[· % (if n * sz = 0 then #[] else Z.cells : Array Value).size]!) = Builtin.zeroCells Z.cells n := by
        by_cases h0 : n * sz = 0
        · rw [if_pos h0, h0]
          unfold Builtin.zeroCells
          rw [hZs, h0]
          simp
        · rw [if_neg h0]
          unfold Builtin.zeroCells
          rw [hZs]
      have hL : L'.length = n * sz := by
        have e1 := fill_size h9
        have e2 : (Builtin.zeroCells Z.cells n).toList.toArray.size = n * Z.cells.size := by simp [Builtin.zeroCells]
        rw [e2, hZs] at e1
        simpa using e1
      refine ⟨_, rfl, rfl, fun _ => 0, .slice (some ⟨w.heap.size, 0, none⟩) n n, w.alloc (.cells L'.toArray el), .cells L'.toArray el, ?_, rfl, rfl, rfl, rfl, fun e1 hle1 hp => ⟨?_, ?_⟩⟩
      · simp only [execOp, ho]
        have hno : ¬ (n * sz > 2 ^ 24) := by omega
        have hfill : Instr.fill (fun i => some (i * sz, sz)) (Builtin.zeroCells Z.cells n) (List.map (fun x => (x.1, a.eval x.2)) parts.toList) = some L'.toArray := by
          simpa using h9
        have hb : (Instr.buildSlice t n (parts.map fun (i, x) => (i, a.eval x))).run P w = .ok (.slice (some ⟨w.heap.size, 0, none⟩) n n) (w.alloc (.cells L'.toArray el)) := by
          rw [← hcells] at hfill
          by_cases h0 : n * sz = 0
          · rw [if_pos h0, h0] at hfill
            have hr0 : Array.range 0 = #[] := rfl
            rw [hr0, Array.map_empty] at hfill
            simp [Instr.buildSlice, run_underlying hu, size_ok h1, h0, newRow, hfill, hr0]
          · rw [if_neg h0] at hfill
            simp [Instr.buildSlice, run_underlying hu, size_ok h1, h0, newRow, hfill, run_zeroValue' hi hZ, (show ¬ 16777216 < n * sz by omega)]
        simp only [Sem.run_bind]
        rw [hb]
        rfl
      · exact conc_exact hp (by omega)
      · have h11 := concL_mono hle1 _ h10
        exact fresh_row (cur := L'.toArray) (fr := (0, 0)) (rest := []) (heap_alloc_new w _) h11 (by simp) (by simp [hL]) no_frozen (fun hh => absurd hh (by simp))
    · cases h8
  · cases hd
theorem ofBytes_ok : ∀ (s : List UInt8), concL e (ofBytes s) = some (s.map fun b => Value.int .u8 b.toNat)
  | [] => rfl
  | b :: s => concL_mk rfl (ofBytes_ok s)
theorem doConvert_row_ok (k : TmOK e tm a.tmps) (r : Rel P e h0 w) (ha : AsmOK h.asm e.ρ) {s d : TypeId} {x : Operand} (hm : makesRow P d = true) (ho : o.op = .convert s d x) (hd : doConvert P tm h s d x = some (.val v h')) : ∃ b, h' = h.new b ∧ b.rw = true ∧ Alloc P e w a o h.next v b := by
  obtain ⟨p, h1, h2⟩ := ob_some hd
  obtain ⟨q, h3, h4⟩ := ob_some h2
  have hx := ev_ok k r h1
  obtain ⟨u, hu, h5⟩ := ob_some h3
  split at h5
  · simp [makesRow, hu] at hm
  · simp [makesRow, hu] at hm
  · simp [makesRow, hu] at hm
  · rename_i el ss
    split at h5
    · rename_i hs hel
      obtain ⟨sz, h6, h7⟩ := ob_some h5
      cases hb1 : Nat.beq sz 1 with
      | false => rw [hb1] at h7; cases h7
      | true =>
        cases hb2 : Nat.ble ss.length 9223372036854775807 with
        | false => rw [hb1, hb2] at h7; cases h7
        | true =>
          rw [hb1, hb2] at h7
          cases h7; cases h4
          have hsz := Nat.eq_of_beq_eq_true hb1
          subst hsz
          have hmax : ss.length ≤ maxLen := by have := Nat.ble_eq.mp hb2; simp only [maxLen]; omega
          obtain ⟨i, hi, hi1⟩ := size_info h6
          simp only [conc] at hx
          have hge := grownCap_ge w ss.length 0 el
          have hcm := grownCap_le_maxLen w ss.length 0 el hmax
          have hcur : ∃ cur : Array Value, cur = (⟨ss.toArray⟩ : ByteArray).data.map (fun b => Value.int .u8 b.toNat) ++ Array.replicate (grownCap w ss.length 0 el - ss.length) (Value.int .u8 0) := ⟨_, rfl⟩
          obtain ⟨cur, hcur⟩ := hcur
          have hcs : cur.size = grownCap w ss.length 0 el := by rw [hcur]; simp; omega
          refine ⟨_, rfl, rfl, fun o => grownCap w ss.length 0 el - o / i.size, .slice (some ⟨w.heap.size, 0, none⟩) ss.length (grownCap w ss.length 0 el), { w.drew with heap := w.heap.push (.cells cur el (cur.size, cur.size + 1)) }, .cells cur el (cur.size, cur.size + 1), ?_, rfl, rfl, rfl, rfl, fun e1 hle1 hp => ⟨?_, ?_⟩⟩
          · simp only [execOp, ho, ← Option.some.inj hx]
            have hb : (convert s d (.string ⟨ss.toArray⟩)).run P w = .ok (.slice (some ⟨w.heap.size, 0, none⟩) ss.length (grownCap w ss.length 0 el)) { w.drew with heap := w.heap.push (.cells cur el (cur.size, cur.size + 1)) } := by
              simp only [convert, Sem.run_bind, run_underlying hs, run_underlying hu, run_underlying hel, Result.andThen_ok, Conv.stringToBytes, run_choose, size_ba]
              simp only [Question.forced, Bool.false_eq_true, if_false, Result.andThen_ok, newRow, Sem.run_bind, run_newObj, Sem.run_pure, markStringish, run_shape]
              have hg : (Question.appendCap ss.length 0 el).cut (w.tape w.drawn (.appendCap ss.length 0 el)) = grownCap w ss.length 0 el := rfl
              rw [hg, ← hcur]
              simp [World.shape?, World.freeze, modify_push]
              exact ⟨rfl, rfl⟩
            simp only [Sem.run_bind]
            rw [hb]
            rfl
          · simp only [conc, hp, if_true]
            simp
          · refine fresh_row (cur := cur) (fr := (cur.size, cur.size + 1)) (L := ss.map fun b => Value.int .u8 b.toNat) (rest := List.replicate (grownCap w ss.length 0 el - ss.length) (Value.int .u8 0)) ?_ (ofBytes_ok ss) ?_ ?_ ?_ (fun _ => ⟨i, grownCap w ss.length 0 el, hi, by omega, by rw [hcs, hi1]; simp, hcm, fun o => rfl⟩)
            · simp
            · rw [hcur]; simp
            · omega
            · intro o hlt hh; simp at hh; omega
    · cases h5
  · simp [makesRow, hu] at hm
  · simp [makesRow, hu] at hm
  · simp [makesRow, hu] at hm
  · rename_i el t
    split at h5
    · rename_i hs hel hless
      obtain ⟨sz, h6, h7⟩ := ob_some h5
      cases hb1 : Nat.beq sz 1 with
      | false => rw [hb1] at h7; cases h7
      | true =>
        rw [hb1] at h7
        cases h7; cases h4
        have hsz := Nat.eq_of_beq_eq_true hb1
        subst hsz
        have hlt := less_ok ha hless
        rw [den_n] at hlt
        obtain ⟨ss, hss⟩ : ∃ ss, ss = t.str e.ρ := ⟨_, rfl⟩
        have hlen : (tLen t).den e.ρ = (ss.length : Int) := by
          rw [hss]
          unfold tLen
          split <;> rfl
        rw [hlen] at hlt
        have hmax : ss.length ≤ maxLen := by simp only [maxLen]; omega
        obtain ⟨i, hi, hi1⟩ := size_info h6
        simp only [conc] at hx
        rw [← hss] at hx
        have hge := grownCap_ge w ss.length 0 el
        have hcm := grownCap_le_maxLen w ss.length 0 el hmax
        have hcur : ∃ cur : Array Value, cur = (⟨ss.toArray⟩ : ByteArray).data.map (fun b => Value.int .u8 b.toNat) ++ Array.replicate (grownCap w ss.length 0 el - ss.length) (Value.int .u8 0) := ⟨_, rfl⟩
        obtain ⟨cur, hcur⟩ := hcur
        have hcs : cur.size = grownCap w ss.length 0 el := by rw [hcur]; simp; omega
        refine ⟨_, rfl, rfl, fun o => grownCap w ss.length 0 el - o / 1, .slice (some ⟨w.heap.size, 0, none⟩) ss.length (grownCap w ss.length 0 el), { w.drew with heap := w.heap.push (.cells cur el (cur.size, cur.size + 1)) }, .cells cur el (cur.size, cur.size + 1), ?_, rfl, rfl, rfl, rfl, fun e1 hle1 hp => ⟨?_, ?_⟩⟩
        · simp only [execOp, ho, ← Option.some.inj hx]
          have hb : (convert s d (.string ⟨ss.toArray⟩)).run P w = .ok (.slice (some ⟨w.heap.size, 0, none⟩) ss.length (grownCap w ss.length 0 el)) { w.drew with heap := w.heap.push (.cells cur el (cur.size, cur.size + 1)) } := by
            simp only [convert, Sem.run_bind, run_underlying hs, run_underlying hu, run_underlying hel, Result.andThen_ok, Conv.stringToBytes, run_choose, size_ba]
            simp only [Question.forced, Bool.false_eq_true, if_false, Result.andThen_ok, newRow, Sem.run_bind, run_newObj, Sem.run_pure, markStringish, run_shape]
            have hg : (Question.appendCap ss.length 0 el).cut (w.tape w.drawn (.appendCap ss.length 0 el)) = grownCap w ss.length 0 el := rfl
            rw [hg, ← hcur]
            simp [World.shape?, World.freeze, modify_push]
            exact ⟨rfl, rfl⟩
          simp only [Sem.run_bind]
          rw [hb]
          rfl
        · have hl1 : (tLen t).den e1.ρ = (ss.length : Int) := by rw [hle1.ρ]; exact hlen
          simp only [conc, hp, hl1, den_n]
          rw [if_pos (by omega)]
          simp
        · have hrow : (tBytes t).row e1.ρ = ss.map fun b => [((b.toNat : Int), ([] : List UInt8))] := by rw [hle1.ρ, hss]; rfl
          refine ⟨cur, el, (cur.size, cur.size + 1), ?_, fun _ => rfl, rfl, by omega, ?_, fun _ o hlt hh => by simp at hh; omega, fun x j f hx2 hf => ?_, fun _ => ⟨i, grownCap w ss.length 0 el, hi, hi1, by rw [hcs]; simp, hcm, fun o => rfl⟩⟩
          · simp
          · rw [hrow, shO_1]; simp; omega
          · rw [hrow, List.length_map] at hx2
            cases j with
            | succ j => simp at hf
            | zero =>
              simp at hf
              subst hf
              refine fun _ => ⟨.int .u8 (ss[x]).toNat, ?_, ?_⟩
              · have hc : ((tBytes t).row e1.ρ)[x]? = some [(((ss[x]).toNat : Int), [])] := by rw [hrow, List.getElem?_map, List.getElem?_eq_getElem hx2]; rfl
                have : (tCell (tBytes t) (.n x) 0).den e1.ρ = ((ss[x]).toNat : Int) := by
                  show (cellAt ((tBytes t).row e1.ρ) x 0).1 = _
                  unfold cellAt
                  rw [hc]; rfl
                show some (Value.int .u8 ((tCell (tBytes t) (.n x) 0).den e1.ρ)) = _
                rw [this]
              · rw [shO_1, Nat.add_zero, hcur, Array.getElem?_append_left (by simp; omega)]
                simp [hx2]
    · cases h5
  · cases h5
end
end Go.Den
