/- A deterministic evaluator for the model's Code, over values and memory of its own. -/
import GoSem.Step
set_option linter.unusedVariables false
noncomputable section
namespace Go.Den

/-! ### 1. A trie over numbers -/
inductive T (α : Type) where
  | nil
  | node (l : T α) (v : Option α) (r : T α)

/-- The road to a number. -/
inductive Pa where
  | here
  | l (p : Pa)
  | r (p : Pa)
  deriving DecidableEq
def pathF (f : Nat) : Nat → Pa :=
  @Nat.rec (fun _ => Nat → Pa) (fun _ => .here) (fun _ ih n => @Nat.rec (fun _ => Pa) .here (fun m _ => @Nat.rec (fun _ => Pa) (.l (ih (m / 2))) (fun _ _ => .r (ih (m / 2))) (m % 2)) n) f
def pathOf (n : Nat) : Pa := pathF (n + 1) n
def T.getP {α : Type} (p : Pa) : T α → Option α :=
  @Pa.rec (fun _ => T α → Option α) (fun t => @T.rec α (fun _ => Option α) none (fun _ v _ _ _ => v) t) (fun _ ih t => @T.rec α (fun _ => Option α) none (fun l _ _ _ _ => ih l) t) (fun _ ih t => @T.rec α (fun _ => Option α) none (fun _ _ r _ _ => ih r) t) p
def T.putP {α : Type} (u : Option α) (p : Pa) : T α → T α :=
  @Pa.rec (fun _ => T α → T α) (fun t => @T.rec α (fun _ => T α) (.node .nil u .nil) (fun l _ r _ _ => .node l u r) t) (fun _ ih t => @T.rec α (fun _ => T α) (.node (ih .nil) none .nil) (fun l v r _ _ => .node (ih l) v r) t) (fun _ ih t => @T.rec α (fun _ => T α) (.node .nil none (ih .nil)) (fun l v r _ _ => .node l v (ih r)) t) p
def T.get {α : Type} (t : T α) (n : Nat) : Option α := T.getP (pathOf n) t

/-! ### 2. Values, memory -/
/-- A number of which only the form is known. -/
inductive SE where
  | v (i : Nat)
  | n (z : Int)
  | wrap (k : IntKind) (a : SE)
  | bin (op : BinOp) (k : IntKind) (a b : SE)
  deriving Inhabited
inductive Cmp where
  | eq | lt | le
/-- What is taken for granted of numbers of which only the form is known. -/
abbrev Asm := Cmp → SE → SE → Option Bool
inductive IV where
  | int (k : IntKind) (n : Int)
  | sint (k : IntKind) (s : SE)
  | optr (i : Nat)
  | bool (b : Bool)
  | str (s : List UInt8)
  | ptr (b o : Nat)
  | nilPtr
  | slice (b o len cap : Nat)
  | nilSlice
  | map (b : Nat)
  | nilMap
  | func (fn : Fn) (first caps : List IV)
  | nilFunc
  | iface (t : TypeId) (v : IV)
  | nilIface
  | agg (cs : List IV)
  | tuple (vs : List IV)
  deriving Inhabited

/-- The capacity of a slice of which only its length is known. -/
def loose : Nat := 9223372036854775808

/-- mode 0: capacities are known; 1: one row that may have more room than is used; 2: may not be written. -/
inductive Blk where
  | cells (elem : TypeId) (n : Nat) (z : List IV) (t : T IV) (mode : Nat)
  | map (es : List (IV × IV))
  | iter (s : List UInt8) (pos : Nat)

structure H where
  next : Nat
  m : T Blk
  asm : Asm

abbrev Tm := T IV

def ob {α β : Type} (x : Option α) (f : α → Option β) : Option β := @Option.rec α (fun _ => Option β) none f x

def T.put {α : Type} (t : T α) (n : Nat) (v : α) : T α := T.putP (some v) (pathOf n) t
def T.del {α : Type} (t : T α) (n : Nat) : T α := T.putP none (pathOf n) t

def ofScalar : Value → Option IV
  | .int k n => some (.int k n)
  | .bool b => some (.bool b)
  | .string s => some (.str s.data.toList)
  | .pointer none => some .nilPtr
  | .slice none 0 0 => some .nilSlice
  | .map none => some .nilMap
  | .nilFunc => some .nilFunc
  | .nilIface => some .nilIface
  | _ => none
def ofScalars (l : List Value) : Option (List IV) :=
  @List.rec Value (fun _ => Option (List IV)) (some []) (fun v _ ih => ob (ofScalar v) fun a => ob ih fun l => some (a :: l)) l
def ofValue : Value → Option IV
  | .agg cs => ob (ofScalars cs.toList) fun l => some (.agg l)
  | .tuple cs => ob (ofScalars cs.toList) fun l => some (.tuple l)
  | .iface t v => ob (ofScalar v) fun a => some (.iface t a)
  | v => ofScalar v

def IV.cells : IV → List IV
  | .agg cs => cs
  | v => [v]

def listT (l : List IV) : Nat → T IV → T IV :=
  @List.rec IV (fun _ => Nat → T IV → T IV) (fun _ t => t) (fun v _ ih i t => ih (i + 1) (t.put i v)) l
def H.put (h : H) (b : Nat) (x : Blk) : H := ⟨h.next, h.m.put b x, h.asm⟩
def H.new (h : H) (x : Blk) : H := ⟨h.next + 1, h.m.put h.next x, h.asm⟩

def Blk.cell (x : Blk) (o : Nat) : Option IV := match x with
  | .cells _ n z t _ => match Nat.blt o n with
    | true => match t.get o with
      | some v => some v
      | none => z[o % z.length]?
    | false => none
  | _ => none
def loadN (x : Blk) (o n : Nat) : Option (List IV) :=
  @Nat.rec (fun _ => Nat → Option (List IV)) (fun _ => some []) (fun _ ih o => ob (x.cell o) fun v => ob (ih (o + 1)) fun l => some (v :: l)) n o
/-- A value that takes one cell. -/
def one : IV → Bool
  | .agg _ => false
  | .tuple _ => false
  | _ => true
def storeT (n : Nat) (l : List IV) : T IV → Nat → Option (T IV) :=
  @List.rec IV (fun _ => T IV → Nat → Option (T IV)) (fun t _ => some t) (fun v _ ih t o => @Bool.rec (fun _ => Option (T IV)) none (@Bool.rec (fun _ => Option (T IV)) none (ih (t.put o v) (o + 1)) (one v)) (Nat.blt o n)) l
def H.store (h : H) (b o : Nat) (vs : List IV) : Option H := ob (h.m.get b) fun x => match x with
  | .cells e n z t md => match Nat.beq md 2 with
    | true => none
    | false => ob (storeT n vs t o) fun t => some (h.put b (.cells e n z t md))
  | _ => none

/-! ### 3. Numbers, texts -/
def leZ (a b : Int) : Bool :=
  @Int.rec (fun _ => Bool) (fun a => @Int.rec (fun _ => Bool) (fun b => Nat.ble a b) (fun _ => false) b) (fun a => @Int.rec (fun _ => Bool) (fun _ => true) (fun b => Nat.ble b a) b) a
def eqZ (a b : Int) : Bool :=
  @Int.rec (fun _ => Bool) (fun a => @Int.rec (fun _ => Bool) (fun b => Nat.beq a b) (fun _ => false) b) (fun a => @Int.rec (fun _ => Bool) (fun _ => false) (fun b => Nat.beq a b) b) a
def kindN (k : IntKind) : Nat := @IntKind.rec (fun _ => Nat) 0 1 2 3 4 5 6 7 k
def eqU (a : List UInt8) : List UInt8 → Bool :=
  @List.rec UInt8 (fun _ => List UInt8 → Bool) (fun b => @List.rec UInt8 (fun _ => Bool) true (fun _ _ _ => false) b)
    (fun x _ ih b => @List.rec UInt8 (fun _ => Bool) false (fun y r _ => @Bool.rec (fun _ => Bool) false (ih r) (Nat.beq x.toNat y.toNat)) b) a
def ltU (a : List UInt8) : List UInt8 → Bool :=
  @List.rec UInt8 (fun _ => List UInt8 → Bool) (fun b => @List.rec UInt8 (fun _ => Bool) false (fun _ _ _ => true) b)
    (fun x _ ih b => @List.rec UInt8 (fun _ => Bool) false (fun y r _ => @Bool.rec (fun _ => Bool) (@Bool.rec (fun _ => Bool) false (ih r) (Nat.beq x.toNat y.toNat)) true (Nat.blt x.toNat y.toNat)) b) a
def opN (o : BinOp) : Nat := @BinOp.rec (fun _ => Nat) 0 1 2 3 4 5 6 7 8 9 10 11 12 13 14 15 16 o
def eqSE (a : SE) : SE → Bool :=
  @SE.rec (fun _ => SE → Bool) (fun i b => @SE.rec (fun _ => Bool) (fun j => Nat.beq i j) (fun _ => false) (fun _ _ _ => false) (fun _ _ _ _ _ _ => false) b)
    (fun z b => @SE.rec (fun _ => Bool) (fun _ => false) (fun y => eqZ z y) (fun _ _ _ => false) (fun _ _ _ _ _ _ => false) b)
    (fun k _ ih b => @SE.rec (fun _ => Bool) (fun _ => false) (fun _ => false) (fun j c _ => @Bool.rec (fun _ => Bool) false (ih c) (Nat.beq (kindN k) (kindN j))) (fun _ _ _ _ _ _ => false) b)
    (fun o k _ _ ia ib b => @SE.rec (fun _ => Bool) (fun _ => false) (fun _ => false) (fun _ _ _ => false)
      (fun p j c d _ _ => @Bool.rec (fun _ => Bool) false (@Bool.rec (fun _ => Bool) false (@Bool.rec (fun _ => Bool) false (ib d) (ia c)) (Nat.beq (kindN k) (kindN j))) (Nat.beq (opN o) (opN p))) b) a
def toSE : IV → Option (IntKind × SE)
  | .int k n => some (k, .n n)
  | .sint k s => some (k, s)
  | _ => none
def symEq (asm : Asm) (a b : SE) : Option Bool := @Bool.rec (fun _ => Option Bool) (asm .eq a b) (some true) (eqSE a b)
def symNZ (asm : Asm) (b : SE) : Bool := match b with
  | .n z => !(eqZ z 0)
  | b => match asm .eq b (.n 0) with
    | some false => true
    | _ => false
def symOp (asm : Asm) (op : BinOp) (k : IntKind) (a b : SE) : Option IV := match op with
  | .add => some (.sint k (.bin op k a b))
  | .sub => some (.sint k (.bin op k a b))
  | .mul => some (.sint k (.bin op k a b))
  | .and => some (.sint k (.bin op k a b))
  | .or => some (.sint k (.bin op k a b))
  | .xor => some (.sint k (.bin op k a b))
  | .andNot => some (.sint k (.bin op k a b))
  | .quo => match symNZ asm b with
    | true => some (.sint k (.bin op k a b))
    | false => none
  | .rem => match symNZ asm b with
    | true => some (.sint k (.bin op k a b))
    | false => none
  | .eql => ob (symEq asm a b) fun r => some (.bool r)
  | .neq => ob (symEq asm a b) fun r => some (.bool (!r))
  | .lss => ob (asm .lt a b) fun r => some (.bool r)
  | .leq => ob (asm .le a b) fun r => some (.bool r)
  | .gtr => ob (asm .lt b a) fun r => some (.bool r)
  | .geq => ob (asm .le b a) fun r => some (.bool r)
  | _ => none
section
variable (P : Program)
def tinfo (t : TypeId) : Option TypeInfo := P.info? t
def size (t : TypeId) : Option Nat := match P.info? t with
  | some i => some i.size
  | none => none
def zero (t : TypeId) : Option IV := match P.info? t with
  | some i => match i.zero with
    | some v => ofValue v
    | none => none
  | none => none
def isAgg (t : TypeId) : Option Bool := match P.underlying t with
  | some (.struct _) => some true
  | some (.array _ _) => some true
  | some _ => some false
  | none => none

def loadVar (h : H) (t : TypeId) (b o : Nat) : Option IV :=
  ob (h.m.get b) fun x => ob (isAgg P t) fun a => match a with
    | true => ob (size P t) fun n => ob (loadN x o n) fun l => some (.agg l)
    | false => x.cell o

def part (t : TypeId) (cs : List IV) (off : Nat) : Option IV := ob (isAgg P t) fun a => match a with
  | true => ob (size P t) fun n => some (.agg ((cs.drop off).take n))
  | false => cs[off]?

def eqFields (eq : TypeId → IV → IV → Option Bool) (l : List Field) (xs ys : List IV) : Option Bool :=
  @List.rec Field (fun _ => Option Bool) (some true) (fun f _ ih => @Bool.rec (fun _ => Option Bool)
    (ob (part P f.type xs f.offset) fun x => ob (part P f.type ys f.offset) fun y => ob (eq f.type x y) fun e => @Bool.rec (fun _ => Option Bool) (some false) ih e) ih (f.name == "_")) l
def eqvStep (asm : Asm) (self : TypeId → IV → IV → Option Bool) (t : TypeId) (x y : IV) : Option Bool :=
  ob (P.underlying t) fun u => match u, x, y with
    | .bool, .bool a, .bool b => some (a == b)
    | .int _, .int k a, .int k' b => match Nat.beq (kindN k) (kindN k') with
      | true => some (eqZ a b)
      | false => none
    | .int _, .sint k a, .sint k' b => match Nat.beq (kindN k) (kindN k') with
      | true => symEq asm a b
      | false => none
    | .int _, .sint k a, .int k' b => match Nat.beq (kindN k) (kindN k') with
      | true => symEq asm a (.n b)
      | false => none
    | .int _, .int k a, .sint k' b => match Nat.beq (kindN k) (kindN k') with
      | true => symEq asm (.n a) b
      | false => none
    | .pointer _, .nilPtr, .optr _ => some false
    | .pointer _, .optr _, .nilPtr => some false
    | .string, .str a, .str b => some (eqU a b)
    | .pointer _, .nilPtr, .nilPtr => some true
    | .pointer _, .nilPtr, .ptr _ _ => some false
    | .pointer _, .ptr _ _, .nilPtr => some false
    | .interface _, .nilIface, .nilIface => some true
    | .interface _, .nilIface, .iface _ _ => some false
    | .interface _, .iface _ _, .nilIface => some false
    | .interface _, .iface tx vx, .iface ty vy => match Nat.beq tx ty with
      | false => some false
      | true => ob (P.info? tx) fun i => match i.comparable with
        | true => self tx vx vy
        | false => none
    | .struct fields, .agg xs, .agg ys => match P.stoodInHeld t with
      | true => none
      | false => eqFields P self fields.toList xs ys
    | .slice _, .nilSlice, .nilSlice => some true
    | .slice _, .nilSlice, .slice .. => some false
    | .slice _, .slice .., .nilSlice => some false
    | .func _ _ _, .nilFunc, .nilFunc => some true
    | .func _ _ _, .nilFunc, .func .. => some false
    | .func _ _ _, .func .., .nilFunc => some false
    | _, _, _ => none

def eqv (asm : Asm) (fuel : Nat) : TypeId → IV → IV → Option Bool := @Nat.rec (fun _ => TypeId → IV → IV → Option Bool) (fun _ _ _ => none) (fun _ ih => eqvStep P asm ih) fuel

def intOp (op : BinOp) (k : IntKind) (a b : Int) : Option IV :=
  match op with
  | .add => some (.int k (k.wrap (a + b)))
  | .sub => some (.int k (k.wrap (a - b)))
  | .mul => some (.int k (k.wrap (a * b)))
  | .quo => match eqZ b 0 with | true => none | false => some (.int k (k.wrap (a.tdiv b)))
  | .rem => match eqZ b 0 with | true => none | false => some (.int k (a.tmod b))
  | .and => some (.int k (k.wrap (BitVec.ofInt k.bits a &&& BitVec.ofInt k.bits b).toNat))
  | .or => some (.int k (k.wrap (BitVec.ofInt k.bits a ||| BitVec.ofInt k.bits b).toNat))
  | .xor => some (.int k (k.wrap (BitVec.ofInt k.bits a ^^^ BitVec.ofInt k.bits b).toNat))
  | .andNot => some (.int k (k.wrap (BitVec.ofInt k.bits a &&& ~~~ BitVec.ofInt k.bits b).toNat))
  | .eql => some (.bool (eqZ a b))
  | .neq => some (.bool (!eqZ a b))
  | .lss => some (.bool (!leZ b a))
  | .leq => some (.bool (leZ a b))
  | .gtr => some (.bool (!leZ a b))
  | .geq => some (.bool (leZ b a))
  | _ => none
def shiftOp (left : Bool) (k : IntKind) (a b : Int) : Option IV :=
  match b with
  | .negSucc _ => none
  | .ofNat m =>
    match left with
    | true => some (.int k (k.wrap (a * 2 ^ Nat.min m k.bits)))
    | false => some (.int k (a.fdiv (2 ^ Nat.min m k.bits)))
def strOp (op : BinOp) (a b : List UInt8) : Option IV :=
  match op with
  | .add => match Nat.ble (a.length + b.length) 9223372036854775807 with
    | true => some (.str (a ++ b))
    | false => none
  | .eql => some (.bool (eqU a b))
  | .neq => some (.bool (!eqU a b))
  | .lss => some (.bool (ltU a b))
  | .leq => some (.bool (ltU a b || eqU a b))
  | .gtr => some (.bool !(ltU a b || eqU a b))
  | .geq => some (.bool !(ltU a b))
  | _ => none
def binOpD (asm : Asm) (op : BinOp) (t : TypeId) (x y : IV) : Option IV :=
  match x, y with
  | .int k a, .int k' b => match op with
    | .shl => shiftOp true k a b
    | .shr => shiftOp false k a b
    | op => match Nat.beq (kindN k) (kindN k') with
      | true => intOp op k a b
      | false => none
  | .str a, .str b => strOp op a b
  | .sint k a, .int k' b => match op, b with
    | .shl, .ofNat m => some (.sint k (.bin .shl k a (.n m)))
    | .shr, .ofNat m => some (.sint k (.bin .shr k a (.n m)))
    | op, b => match Nat.beq (kindN k) (kindN k') with
      | true => symOp asm op k a (.n b)
      | false => none
  | .int k a, .sint k' b => match Nat.beq (kindN k) (kindN k') with
    | true => symOp asm op k (.n a) b
    | false => none
  | .sint k a, .sint k' b => match Nat.beq (kindN k) (kindN k') with
    | true => symOp asm op k a b
    | false => none
  | x, y => match op with
    | .eql => ob (eqv P asm 100 t x y) fun b => some (.bool b)
    | .neq => ob (eqv P asm 100 t x y) fun b => some (.bool (!b))
    | _ => none
def isConstOp : Operand → Bool
  | .const _ => true
  | _ => false
def eqGuardD (op : BinOp) (t : TypeId) (x y : Operand) (a b : IV) : Bool :=
  match a, b with
  | .nilIface, .nilIface => isConstOp x || isConstOp y
  | .agg _, .agg _ => !P.eqGuardType P.depth t
  | _, _ => true
def unOpD (op : UnOp) (x : IV) : Option IV :=
  match op, x with
  | .neg, .int k n => some (.int k (k.wrap (0 - n)))
  | .xor, .int k n => intOp .xor k (if k.signed then -1 else k.max) n
  | .not, .bool b => some (.bool (!b))
  | .neg, .sint k n => some (.sint k (.bin .sub k (.n 0) n))
  | .xor, .sint k n => some (.sint k (.bin .xor k (.n (if k.signed then -1 else k.max)) n))
  | _, _ => none

def bytesOf (l : List IV) : Option (List UInt8) :=
  @List.rec IV (fun _ => Option (List UInt8)) (some []) (fun v _ ih => match v with
    | .int .u8 n => ob ih fun l => some (UInt8.ofNat n.toNat :: l)
    | _ => none) l
def ofBytes (l : List UInt8) : List IV :=
  @List.rec UInt8 (fun _ => List IV) [] (fun b _ ih => .int .u8 b.toNat :: ih) l
def convertD (h : H) (src dst : TypeId) (x : IV) : Option (IV × H) :=
  ob (P.underlying dst) fun d => match d, x with
  | .int k, .int _ n => match P.underlying src with
    | some _ => some (.int k (k.wrap n), h)
    | none => none
  | .int k, .sint _ n => match P.underlying src with
    | some _ => some (.sint k (.wrap k n), h)
    | none => none
  | .string, .str s => match P.underlying src with
    | some _ => some (.str s, h)
    | none => none
  | .slice e, .str s => match P.underlying src, P.underlying e with
    | some .string, some (.int .u8) => ob (size P e) fun sz => @Bool.rec (fun _ => Option (IV × H)) none (@Bool.rec (fun _ => Option (IV × H)) none
        (some (.slice h.next 0 s.length loose, h.new (.cells e s.length [] (listT (ofBytes s) 0 .nil) 1))) (Nat.ble s.length 9223372036854775807)) (Nat.beq sz 1)
    | _, _ => none
  | .string, .nilSlice => match P.underlying src with
    | some (.slice e) => match P.underlying e with
      | some (.int .u8) => some (.str [], h)
      | _ => none
    | _ => none
  | .string, .slice b o n _ => match P.underlying src with
    | some (.slice e) => match P.underlying e with
      | some (.int .u8) => ob (h.m.get b) fun x => ob (loadN x o n) fun l => ob (bytesOf l) fun s => some (.str s, h)
      | _ => none
    | _ => none
  | _, _ => none

def bound (x : IV) (y : Nat) : Option Nat := match x with
  | .int _ (.ofNat i) => match Nat.ble i y with
    | true => some i
    | false => none
  | _ => none
def optBound (x : Option IV) (y d : Nat) : Option Nat := match x with
  | some v => bound v y
  | none => some d

/-- where a part of a row begins: at its end the base stays -/
def begins (m l o sz : Nat) : Nat := match Nat.beq m l with
  | true => o
  | false => o + l * sz
/-- a slice of a known capacity -/
def exactD (b o l c : Nat) : Option IV := match Nat.blt c loose with
  | true => some (.slice b o l c)
  | false => none
def sliceD (h : H) (t : TypeId) (x : IV) (lo hi mx : Option IV) : Option IV :=
  ob (P.underlying t) fun u => match u, x with
  | .string, .str s => match mx with
    | some _ => none
    | none => ob (optBound hi s.length s.length) fun hh => ob (optBound lo hh 0) fun l => some (.str ((s.take hh).drop l))
  | .slice e, .slice b o len cap => ob (size P e) fun sz =>
    match Nat.beq cap loose, mx with
    | true, mx => ob (h.m.get b) fun blk => match blk with
      | .cells e' n _ _ md => match Nat.beq md 1, Nat.beq e' e, Nat.ble (o + len * sz) n with
        | true, true, true => match mx with
          | none => ob (optBound hi len len) fun hh => ob (optBound lo hh 0) fun l =>
            match Nat.beq l 0, Nat.blt l len with
            | true, _ => some (.slice b (o + l * sz) (hh - l) loose)
            | false, true => some (.slice b (o + l * sz) (hh - l) loose)
            | false, false => none
          | some mv => ob (bound mv len) fun m => match hi with
            | none => none
            | some hv => ob (bound hv m) fun hh => ob (optBound lo hh 0) fun l => exactD b (begins m l o sz) (hh - l) (m - l)
        | _, _, _ => none
      | _ => none
    | false, some mv => ob (bound mv cap) fun m => match hi with
      | none => none
      | some hv => ob (bound hv m) fun hh => ob (optBound lo hh 0) fun l => exactD b (begins m l o sz) (hh - l) (m - l)
    | false, none => ob (optBound hi cap len) fun hh => ob (optBound lo hh 0) fun l => exactD b (begins cap l o sz) (hh - l) (cap - l)
  | .slice e, .nilSlice => ob (size P e) fun _ => match mx with
    | none => ob (optBound hi 0 0) fun hh => ob (optBound lo hh 0) fun _ => some .nilSlice
    | some mv => match hi with
      | none => none
      | some hv => ob (bound mv 0) fun m => ob (bound hv m) fun hh => ob (optBound lo hh 0) fun _ => some .nilSlice
  | .array n e, .ptr b o => match mx with
    | some _ => none
    | none => ob (size P e) fun sz => ob (optBound hi n n) fun hh => ob (optBound lo hh 0) fun l => exactD b (begins n l o sz) (hh - l) (n - l)
  | _, _ => none

def indexAddrD (t : TypeId) (x ix : IV) : Option IV :=
  match ix with
  | .int _ (.ofNat i) => ob (P.underlying t) fun u => match u, x with
    | .array len e, .ptr b o => match Nat.blt i len with
      | true => ob (size P e) fun sz => some (.ptr b (o + i * sz))
      | false => none
    | .slice e, .slice b o len _ => match Nat.blt i len with
      | true => ob (size P e) fun sz => some (.ptr b (o + i * sz))
      | false => none
    | _, _ => none
  | _ => none
def indexD (t : TypeId) (x ix : IV) : Option IV :=
  match ix with
  | .int _ (.ofNat i) => ob (P.underlying t) fun u => match u, x with
    | .string, .str s => ob s[i]? fun b => some (.int .u8 b.toNat)
    | .array len e, .agg cs => match Nat.blt i len with
      | true => ob (size P e) fun sz => part P e cs (i * sz)
      | false => none
    | _, _ => none
  | _ => none
def fieldD (t : TypeId) (f : Nat) : Option Field := match P.underlying t with
  | some (.struct fs) => fs[f]?
  | _ => none

def lenD (h : H) (t : TypeId) (x : IV) : Option IV := ob (P.underlying t) fun u => match u, x with
  | .string, .str s => some (.int .i64 s.length)
  | .slice _, .slice _ _ n _ => some (.int .i64 n)
  | .slice _, .nilSlice => some (.int .i64 0)
  | .map _ _, .nilMap => some (.int .i64 0)
  | .map _ _, .map b => ob (h.m.get b) fun x => match x with
    | .map es => some (.int .i64 es.length)
    | _ => none
  | _, _ => none
def firstCells (h : H) (sz n : Nat) : IV → Option (List IV)
  | .nilSlice => match n with
    | 0 => some []
    | _ => none
  | .slice b o _ _ => ob (h.m.get b) fun x => loadN x o (n * sz)
  | .str s => @Bool.rec (fun _ => Option (List IV)) none (some (ofBytes (s.take n))) (Nat.beq sz 1)
  | _ => none
def lenOf : IV → Option Nat
  | .nilSlice => some 0
  | .slice _ _ n _ => some n
  | .str s => some s.length
  | _ => none
def zeros (z : List IV) (n : Nat) : List IV := @Nat.rec (fun _ => List IV) [] (fun _ ih => z ++ ih) n
/-- what is appended: how many elements, their cells -/
def appendedD (h : H) (e : TypeId) (i : TypeInfo) (t : TypeId) (x : IV) : Option (Nat × List IV) := ob (P.underlying t) fun u => match u, x with
  | .int _, .int _ (.ofNat l) => match Nat.ble l 1000000, Nat.ble (l * i.bytes) 140737488355328 with
    | true, true => ob (zero P e) fun z => match Nat.beq z.cells.length i.size with
      | true => some (l, zeros z.cells l)
      | false => none
    | _, _ => none
  | .slice _, x => ob (lenOf x) fun n => ob (firstCells h i.size n x) fun cs => some (n, cs)
  | .string, x => ob (lenOf x) fun n => ob (firstCells h i.size n x) fun cs => some (n, cs)
  | _, _ => none
def fits (i : TypeInfo) (m : Nat) : Bool := @Bool.rec (fun _ => Bool) false (Nat.ble m 9223372036854775807) (Nat.ble (m * i.bytes) 140737488355328)
def appendD (h : H) (t t2 : TypeId) (s x : IV) : Option (IV × H) :=
  ob (P.underlying t) fun u => match u with
  | .slice e => ob (P.info? e) fun i => ob (zero P e) fun zz => ob (appendedD P h e i t2 x) fun (n, new) =>
    match Nat.beq zz.cells.length i.size with
    | false => none
    | true => match s with
    | .nilSlice => match n with
      | 0 => some (.nilSlice, h)
      | _ => match fits i n, Nat.blt 0 i.size with
        | true, true => some (.slice h.next 0 n loose, h.new (.cells e (n * i.size) [] (listT new 0 .nil) 1))
        | _, _ => none
    | .slice b o len cap => match Nat.beq cap loose with
      | true => ob (h.m.get b) fun blk => match blk with
        | .cells e' m z t md => match Nat.beq md 1, Nat.beq o 0, Nat.beq (len * i.size) m, Nat.beq e' e with
          | true, true, true, true => match fits i (len + n), Nat.blt 0 i.size with
            | true, true => ob (storeT (m + n * i.size) new t m) fun t => some (.slice h.next 0 (len + n) loose, ⟨h.next + 1, (h.m.del b).put h.next (.cells e (m + n * i.size) z t 1), h.asm⟩)
            | _, _ => none
          | _, _, _, _ => none
        | _ => none
      | false => match Nat.ble (len + n) cap with
        | true => match n * i.size with
          | 0 => some (.slice b o (len + n) cap, h)
          | _ => ob (h.store b (o + len * i.size) new) fun h => some (.slice b o (len + n) cap, h)
        | false => match fits i (len + n), Nat.blt 0 i.size with
          | true, true => ob (firstCells h i.size len s) fun old => some (.slice h.next 0 (len + n) loose, h.new (.cells e ((len + n) * i.size) [] (listT (old ++ new) 0 .nil) 1))
          | _, _ => none
    | _ => none
  | _ => none
def copyD (h : H) (t : TypeId) (d s : IV) : Option (IV × H) :=
  ob (P.underlying t) fun u => match u with
  | .slice e => ob (size P e) fun sz => ob (lenOf s) fun ls => match d with
    | .nilSlice => some (.int .i64 0, h)
    | .slice b o ld _ => ob (firstCells h sz (Nat.min ls ld) s) fun cs => match cs with
      | [] => some (.int .i64 (Nat.min ls ld), h)
      | _ => ob (h.store b o cs) fun h => some (.int .i64 (Nat.min ls ld), h)
    | _ => none
  | _ => none
def clearD (h : H) (t : TypeId) (x : IV) : Option H :=
  ob (P.underlying t) fun u => match u, x with
  | .slice _, .nilSlice => some h
  | .slice e, .slice b o n _ => match n with
    | 0 => some h
    | _ => ob (zero P e) fun z => h.store b o (zeros z.cells n)
  | _, _ => none

def fillL (cs : List IV) : Nat → List IV → Option (List IV) :=
  @List.rec IV (fun _ => Nat → List IV → Option (List IV)) (fun _ vs => @List.rec IV (fun _ => Option (List IV)) (some []) (fun _ _ _ => none) vs)
    (fun c cs ih n vs => @List.rec IV (fun _ => Option (List IV)) (some (c :: cs))
      (fun v r _ => @Nat.rec (fun _ => Option (List IV)) (ob (ih 0 r) fun l => some (v :: l)) (fun m _ => ob (ih m (v :: r)) fun l => some (c :: l)) n) vs) cs
def buildStruct (fs : Array Field) (l : List (Nat × IV)) : List IV → Option (List IV) :=
  @List.rec (Nat × IV) (fun _ => List IV → Option (List IV)) (fun cs => some cs) (fun p _ ih cs => ob fs[p.1]? fun f => ob (size P f.type) fun n =>
    @Nat.rec (fun _ => Option (List IV)) none (fun _ _ => @Bool.rec (fun _ => Option (List IV)) none (ob (fillL cs f.offset p.2.cells) ih) (Nat.beq p.2.cells.length n)) n) l
def sizesD (fs : List Field) : Bool :=
  @List.rec Field (fun _ => Bool) true (fun f _ ih => @Option.rec Nat (fun _ => Bool) false (fun _ => ih) (size P f.type)) fs
def buildArr (sz : Nat) (l : List (Nat × IV)) : List IV → Option (List IV) :=
  @List.rec (Nat × IV) (fun _ => List IV → Option (List IV)) (fun cs => some cs) (fun p _ ih cs =>
    @Nat.rec (fun _ => Option (List IV)) none (fun _ _ => @Bool.rec (fun _ => Option (List IV)) none (ob (fillL cs (p.1 * sz) p.2.cells) ih) (Nat.beq p.2.cells.length sz)) sz) l
def hasM (name : String) (sig : TypeId) (l : List Method) : Bool := @List.rec Method (fun _ => Bool) false (fun m _ ih => @Bool.rec (fun _ => Bool) ih (@Bool.rec (fun _ => Bool) ih true (m.name == name)) (Nat.beq m.sig sig)) l
def lacks (want : List (String × TypeId)) (got : List Method) : Bool := @List.rec (String × TypeId) (fun _ => Bool) false (fun p _ ih => @Bool.rec (fun _ => Bool) true ih (hasM p.1 p.2 got)) want
def assertD (x : IV) (asserted : TypeId) : Option (Option IV) :=   -- none: cannot be told; some none: it does not hold
  ob (P.underlying asserted) fun u => match u, x with
  | .interface _, .nilIface => some none
  | .interface want, .iface t v => ob (P.info? t) fun i => match lacks want.toList i.methods.toList with
    | false => some (some (.iface t v))
    | true => some none
  | _, .nilIface => some none
  | _, .iface t v => match Nat.beq t asserted with
    | true => some (some v)
    | false => some none
  | _, _ => none

def findKey (k : List UInt8) (l : List (IV × IV)) : Option (Option IV) :=
  @List.rec (IV × IV) (fun _ => Option (Option IV)) (some none) (fun p _ ih => match p.1 with
    | .str y => @Bool.rec (fun _ => Option (Option IV)) ih (some (some p.2)) (eqU k y)
    | _ => none) l
def putKey (k : List UInt8) (v : IV) (l : List (IV × IV)) : Option (List (IV × IV)) :=
  @List.rec (IV × IV) (fun _ => Option (List (IV × IV))) (some [(.str k, v)]) (fun p r ih => match p.1 with
    | .str y => @Bool.rec (fun _ => Option (List (IV × IV))) (ob ih fun l => some (p :: l)) (some ((p.1, v) :: r)) (eqU k y)
    | _ => none) l
def lookupD (h : H) (t : TypeId) (x k : IV) (ok : Bool) : Option IV :=
  match P.underlying t, k with
  | some (.map kt e), .str k => match P.underlying kt with
    | some .string =>
      ob (match x with
        | .nilMap => some []
        | .map b => ob (h.m.get b) fun x => match x with
          | .map es => some es
          | _ => none
        | _ => none) fun es => ob (findKey k es) fun r => match r with
        | some v => match ok with
          | true => some (.tuple [v, .bool true])
          | false => some v
        | none => ob (zero P e) fun z => match ok with
          | true => some (.tuple [z, .bool false])
          | false => some z
    | _ => none
  | _, _ => none

/-! ### 4. Operations -/
def ev (tm : Tm) (x : Operand) : Option IV :=
  @Operand.rec (fun _ => Option IV) (fun t => tm.get t) (fun v => ofValue v) (fun g => @Bool.rec (fun _ => Option IV) none (some (.ptr g 0)) (Nat.blt g P.globals.size)) (fun f => some (.func (.func f) [] [])) x
def evs (tm : Tm) (l : List Operand) : Option (List IV) :=
  @List.rec Operand (fun _ => Option (List IV)) (some []) (fun x _ ih => ob (ev P tm x) fun a => ob ih fun l => some (a :: l)) l
def evo (tm : Tm) : Option Operand → Option (Option IV)
  | none => some none
  | some x => ob (ev P tm x) fun a => some (some a)
def evp (tm : Tm) (l : List (Nat × Operand)) : Option (List (Nat × IV)) :=
  @List.rec (Nat × Operand) (fun _ => Option (List (Nat × IV))) (some []) (fun p _ ih => ob (ev P tm p.2) fun a => ob ih fun l => some ((p.1, a) :: l)) l
/-- What an operation comes to: a value and memory, or a call. -/
inductive Out where
  | val (v : IV) (h : H)
  | call (f : FuncId) (args : List IV)

def undefIV : IV := .tuple []

def callD (tm : Tm) (h : H) (c : Call) : Option Out :=
  ob (evs P tm c.args.toList) fun args => match c.callee with
  | .builtin b => match b, args with
    | .len, [x] => ob c.argTypes[0]? fun t => ob (lenD P h t x) fun v => some (.val v h)
    | .append, [s, x] => ob c.argTypes[0]? fun t => ob c.argTypes[1]? fun t2 => ob (appendD P h t t2 s x) fun (v, h) => some (.val v h)
    | .copy, [s, x] => ob c.argTypes[0]? fun t => ob (copyD P h t s x) fun (v, h) => some (.val v h)
    | .clear, [x] => ob c.argTypes[0]? fun t => ob (clearD P h t x) fun h => some (.val undefIV h)
    | .max, [.int k a, .int _ b] => some (.val (.int k (match leZ b a with | true => a | false => b)) h)
    | .max, [.sint k a, .sint _ b] => ob (h.asm .le b a) fun r => some (.val (.sint k (match r with | true => a | false => b)) h)
    | .min, [.sint k a, .sint _ b] => ob (h.asm .le a b) fun r => some (.val (.sint k (match r with | true => a | false => b)) h)
    | .min, [.int k a, .int _ b] => some (.val (.int k (match leZ a b with | true => a | false => b)) h)
    | _, _ => none
  | .value f => ob (ev P tm f) fun g => match g with
    | .func (.func f) first caps => some (.call f (first ++ args ++ caps))
    | _ => none
  | .invoke r name => ob (ev P tm r) fun x => match x with
    | .iface t v => ob (P.info? t) fun i => ob (i.methods.find? (fun m => m.name == name)) fun m => match m.path.isEmpty, m.func with
      | true, some (f, true) => match P.underlying t, v with
        | some (.pointer _), .ptr b o => some (.call f (.ptr b o :: args))
        | _, _ => none
      | true, some (f, false) => match P.underlying t with
        | some (.int _) => some (.call f (v :: args))
        | some (.struct _) => some (.call f (v :: args))
        | _ => none
      | _, _ => none
    | _ => none

def doMove (tm : Tm) (h : H) (x : Operand) : Option Out :=
  ob (ev P tm x) fun v => some (.val v h)
def doAssign (tm : Tm) (h : H) (x : Operand) : Option Out :=
  ob (ev P tm x) fun v => some (.val v h)
def doPick (tm : Tm) (h : H) (c : Operand) (a : Operand) (b : Operand) : Option Out :=
  ob (ev P tm c) fun c => match c with
    | .bool true => ob (ev P tm a) fun v => some (.val v h)
    | .bool false => ob (ev P tm b) fun v => some (.val v h)
    | _ => none
def doAlloc (tm : Tm) (h : H) (e : TypeId) : Option Out :=
  ob (zero P e) fun z => some (.val (.ptr h.next 0) (h.new (.cells e z.cells.length [] (listT z.cells 0 .nil) 0)))
def doBox (tm : Tm) (h : H) (e : TypeId) (x : Operand) : Option Out :=
  ob (ev P tm x) fun v => some (.val (.ptr h.next 0) (h.new (.cells e v.cells.length [] (listT v.cells 0 .nil) 0)))
def doBuild (tm : Tm) (h : H) (t : TypeId) (parts : Array (Nat × Operand)) : Option Out :=
  ob (zero P t) fun z => ob (evp P tm parts.toList) fun ps => match P.underlying t with
    | some (.struct fs) => @Bool.rec (fun _ => Option Out) none (ob (buildStruct P fs ps z.cells) fun cs => some (.val (.agg cs) h)) (sizesD P fs.toList)
    | some (.array _ e) => ob (size P e) fun sz => ob (buildArr sz ps z.cells) fun cs => some (.val (.agg cs) h)
    | _ => none
def doBuildSlice (tm : Tm) (h : H) (t : TypeId) (len : Nat) (parts : Array (Nat × Operand)) : Option Out :=
  match P.underlying t with
    | some (.slice e) => ob (size P e) fun sz => ob (zero P e) fun z => ob (evp P tm parts.toList) fun ps => ob (buildArr sz ps (zeros z.cells len)) fun cs =>
      match Nat.ble (len * sz) 16777216, Nat.beq z.cells.length sz, Nat.blt len loose with
      | true, true, true => some (.val (.slice h.next 0 len len) (h.new (.cells e (len * sz) [] (listT cs 0 .nil) 0)))
      | _, _, _ => none
    | _ => none
def doLoad (tm : Tm) (h : H) (t : TypeId) (a : Operand) : Option Out :=
  ob (ev P tm a) fun p => match p with
    | .ptr b o => ob (loadVar P h t b o) fun v => some (.val v h)
    | _ => none
def doStore (tm : Tm) (h : H) (t : TypeId) (a : Operand) (x : Operand) : Option Out :=
  ob (ev P tm a) fun p => match p with
    | .ptr b o => ob (ev P tm x) fun v => ob (size P t) fun n => match Nat.beq v.cells.length n with
      | true => match v.cells with
        | [] => some (.val undefIV h)
        | cs => ob (h.store b o cs) fun h => some (.val undefIV h)
      | false => none
    | _ => none
def doNilCheck (tm : Tm) (h : H) (x : Operand) : Option Out :=
  ob (ev P tm x) fun v => match v with
    | .ptr b o => some (.val (.ptr b o) h)
    | .func (.func f) a c => some (.val (.func (.func f) a c) h)
    | _ => none
def doBinOp (tm : Tm) (h : H) (op : BinOp) (t : TypeId) (x : Operand) (y : Operand) : Option Out :=
  ob (ev P tm x) fun a => ob (ev P tm y) fun b => match eqGuardD P op t x y a b with
    | true => ob (binOpD P h.asm op t a b) fun v => some (.val v h)
    | false => none
def doUnOp (tm : Tm) (h : H) (op : UnOp) (x : Operand) : Option Out :=
  ob (ev P tm x) fun a => ob (unOpD op a) fun v => some (.val v h)
def doConvert (tm : Tm) (h : H) (s : TypeId) (d : TypeId) (x : Operand) : Option Out :=
  ob (ev P tm x) fun a => ob (convertD P h s d a) fun (v, h) => some (.val v h)
def doSliceToArrayPointer (tm : Tm) (h : H) (arr : TypeId) (x : Operand) : Option Out :=
  ob (ev P tm x) fun a => match P.underlying arr, a with
    | some (.array n _), .slice b o len _ => match Nat.ble n len with
      | true => some (.val (.ptr b o) h)
      | false => none
    | _, _ => none
def doMakeInterface (tm : Tm) (h : H) (t : TypeId) (x : Operand) : Option Out :=
  match P.underlying t with
    | some (.interface _) => none
    | none => none
    | _ => ob (ev P tm x) fun v => some (.val (.iface t v) h)
def doMakeFunc (tm : Tm) (h : H) (fn : Fn) (first : Array Operand) (caps : Array Operand) : Option Out :=
  ob (evs P tm first.toList) fun a => ob (evs P tm caps.toList) fun c => some (.val (.func fn a c) h)
def doMakeMap (tm : Tm) (h : H) (r : Option Operand) : Option Out :=
  match r with
    | none => some (.val (.map h.next) (h.new (.map [])))
    | some _ => none
def doMakeSlice (tm : Tm) (h : H) (t : TypeId) (l : Operand) (c : Operand) : Option Out :=
  match P.underlying t with
    | some (.slice e) => ob (ev P tm l) fun l => ob (ev P tm c) fun c => match l, c with
      | .int _ (.ofNat l), .int _ (.ofNat c) => match Nat.ble l c, Nat.ble c 1000000 with
        | true, true => ob (P.info? e) fun i => ob (zero P e) fun z => match Nat.ble i.bytes 1000000, Nat.beq z.cells.length i.size with
          | true, true => some (.val (.slice h.next 0 l c) (h.new (.cells e (c * i.size) z.cells .nil 0)))
          | _, _ => none
        | _, _ => none
      | _, _ => none
    | _ => none
def doSlice (tm : Tm) (h : H) (t : TypeId) (x : Operand) (lo : Option Operand) (hi : Option Operand) (mx : Option Operand) : Option Out :=
  ob (ev P tm x) fun a => ob (evo P tm lo) fun lo => ob (evo P tm hi) fun hi => ob (evo P tm mx) fun mx => ob (sliceD P h t a lo hi mx) fun v => some (.val v h)
def doFieldAddr (tm : Tm) (h : H) (s : TypeId) (x : Operand) (f : Nat) : Option Out :=
  ob (ev P tm x) fun p => match p with
    | .ptr b o => ob (fieldD P s f) fun fd => ob (size P fd.type) fun n => @Nat.rec (fun _ => Option Out) none (fun _ _ => some (.val (.ptr b (o + fd.offset)) h)) n
    | _ => none
def doField (tm : Tm) (h : H) (s : TypeId) (x : Operand) (f : Nat) : Option Out :=
  ob (ev P tm x) fun a => match a with
    | .agg cs => ob (fieldD P s f) fun fd => ob (part P fd.type cs fd.offset) fun v => some (.val v h)
    | _ => none
def doIndexAddr (tm : Tm) (h : H) (t : TypeId) (x : Operand) (ix : Operand) : Option Out :=
  ob (ev P tm x) fun a => ob (ev P tm ix) fun i => ob (indexAddrD P t a i) fun v => some (.val v h)
def doIndex (tm : Tm) (h : H) (t : TypeId) (x : Operand) (ix : Operand) : Option Out :=
  ob (ev P tm x) fun a => ob (ev P tm ix) fun i => ob (indexD P t a i) fun v => some (.val v h)
def doLookup (tm : Tm) (h : H) (t : TypeId) (x : Operand) (k : Operand) (ok : Bool) : Option Out :=
  ob (ev P tm x) fun a => ob (ev P tm k) fun k => ob (lookupD P h t a k ok) fun v => some (.val v h)
def doMapUpdate (tm : Tm) (h : H) (t : TypeId) (m : Operand) (k : Operand) (x : Operand) : Option Out :=
  ob (ev P tm m) fun m => ob (ev P tm k) fun k => ob (ev P tm x) fun x => match m, k with
    | .map b, .str k => match P.underlying t with
      | some (.map kt _) => match P.underlying kt with
        | some .string => ob (h.m.get b) fun blk => match blk with
          | .map es => ob (putKey k x es) fun es => some (.val undefIV (h.put b (.map es)))
          | _ => none
        | _ => none
      | _ => none
    | _, _ => none
def doRange (tm : Tm) (h : H) (t : TypeId) (x : Operand) : Option Out :=
  ob (ev P tm x) fun a => match P.underlying t, a with
    | some .string, .str s => some (.val (.ptr h.next 0) (h.new (.iter s 0)))
    | _, _ => none
def doNext (tm : Tm) (h : H) (it : Operand) (isStr : Bool) : Option Out :=
  match isStr with
    | true => ob (ev P tm it) fun p => match p with
      | .ptr b 0 => ob (h.m.get b) fun blk => match blk with
        | .iter s p => match s[p]? with
          | some c => match Nat.blt c.toNat 128 with
            | true => some (.val (.tuple [.bool true, .int .i64 p, .int .i32 c.toNat]) (h.put b (.iter s (p + 1))))
            | false => none
          | none => some (.val (.tuple [.bool false]) h)
        | _ => none
      | _ => none
    | false => none
def doTypeAssert (tm : Tm) (h : H) (x : Operand) (t : TypeId) (ok : Bool) : Option Out :=
  ob (ev P tm x) fun a => ob (assertD P a t) fun r => match r, ok with
    | some v, true => some (.val (.tuple [v, .bool true]) h)
    | some v, false => some (.val v h)
    | none, true => ob (zero P t) fun z => some (.val (.tuple [z, .bool false]) h)
    | none, false => none
def doExtract (tm : Tm) (h : H) (t : Operand) (i : Nat) : Option Out :=
  ob (ev P tm t) fun a => match a with
    | .tuple vs => ob vs[i]? fun v => some (.val v h)
    | _ => none
def doCall (tm : Tm) (h : H) (c : Call) : Option Out :=
  callD P tm h c

def opDo (tm : Tm) (h : H) (op : Op) : Option Out :=
  match op with
  | .move x => doMove P tm h x
  | .assign x => doAssign P tm h x
  | .pick c a b => doPick P tm h c a b
  | .alloc e => doAlloc P tm h e
  | .box e x => doBox P tm h e x
  | .build t parts => doBuild P tm h t parts
  | .buildSlice t len parts => doBuildSlice P tm h t len parts
  | .load t a => doLoad P tm h t a
  | .store t a x => doStore P tm h t a x
  | .nilCheck x => doNilCheck P tm h x
  | .binOp op t x y _ => doBinOp P tm h op t x y
  | .unOp op _ x => doUnOp P tm h op x
  | .convert s d x => doConvert P tm h s d x
  | .sliceToArrayPointer arr x => doSliceToArrayPointer P tm h arr x
  | .makeInterface t x => doMakeInterface P tm h t x
  | .makeFunc fn first caps => doMakeFunc P tm h fn first caps
  | .makeMap _ r => doMakeMap tm h r
  | .makeSlice t l c => doMakeSlice P tm h t l c
  | .slice t x lo hi mx => doSlice P tm h t x lo hi mx
  | .fieldAddr s x f => doFieldAddr P tm h s x f
  | .field s x f => doField P tm h s x f
  | .indexAddr t x ix => doIndexAddr P tm h t x ix
  | .index t x ix => doIndex P tm h t x ix
  | .lookup t x k ok => doLookup P tm h t x k ok
  | .mapUpdate t m k x => doMapUpdate P tm h t m k x
  | .range t x => doRange P tm h t x
  | .next it isStr => doNext P tm h it isStr
  | .typeAssert x _ t ok => doTypeAssert P tm h x t ok
  | .extract t i => doExtract P tm h t i
  | .call c => doCall P tm h c
  | _ => none

/-! ### 5. Code -/
inductive Ex where
  | normal
  | exit (id : Nat)
  | ret

def wantedD (tm : Tm) (ops : Array Oper) (o : Oper) : Option Bool :=
  @Option.rec (Nat × Bool) (fun _ => Option Bool) (some true) (fun p => ob ops[p.1]? fun g => ob g.dst fun d => match tm.get d with
    | some (.bool b) => some (b == p.2)
    | some (.tuple []) => some false
    | _ => none) o.guard
def putD (tm : Tm) (sz : Nat) (d : Option Tmp) (v : IV) : Option Tm :=
  @Option.rec Tmp (fun _ => Option Tm) (some tm) (fun d => @Bool.rec (fun _ => Option Tm) none (some (tm.put d v)) (Nat.blt d sz)) d
abbrev CallFn := FuncId → List IV → H → Option (IV × H)

def stepOp (call : CallFn) (sz : Nat) (ops : Array Oper) (o : Oper) (next : Tm → H → Option (Tm × H)) (tm : Tm) (h : H) : Option (Tm × H) :=
  ob (wantedD tm ops o) fun w => @Bool.rec (fun _ => Option (Tm × H))
    (ob (putD tm sz o.dst undefIV) fun tm => next tm h)
    (ob (opDo P tm h o.op) fun x => @Out.rec (fun _ => Option (Tm × H)) (fun v h => ob (putD tm sz o.dst v) fun tm => next tm h)
      (fun f args => ob (call f args h) fun r => ob (putD tm sz o.dst r.1) fun tm => next tm r.2) x) w
def opsD (call : CallFn) (sz : Nat) (ops : Array Oper) (l : List Oper) : Tm → H → Option (Tm × H) :=
  @List.rec Oper (fun _ => Tm → H → Option (Tm × H)) (fun tm h => some (tm, h)) (fun o _ ih => stepOp P call sz ops o ih) l

/-! A region whose order is drawn: it is run in the order of its text; what any other order would see is looked at. -/
mutual
def eqIV : IV → IV → Bool
  | .int k n, .int k' n' => match Nat.beq (kindN k) (kindN k') with
    | true => eqZ n n'
    | false => false
  | .sint k n, .sint k' n' => match Nat.beq (kindN k) (kindN k') with
    | true => eqSE n n'
    | false => false
  | .optr i, .optr j => Nat.beq i j
  | .bool true, .bool true => true
  | .bool false, .bool false => true
  | .str a, .str b => eqU a b
  | .ptr b o, .ptr b' o' => match Nat.beq b b' with
    | true => Nat.beq o o'
    | false => false
  | .nilPtr, .nilPtr => true
  | .slice b o l c, .slice b' o' l' c' => match Nat.beq b b', Nat.beq o o', Nat.beq l l' with
    | true, true, true => Nat.beq c c'
    | _, _, _ => false
  | .nilSlice, .nilSlice => true
  | .map b, .map b' => Nat.beq b b'
  | .nilMap, .nilMap => true
  | .func (.func f) a c, .func (.func f') a' c' => match Nat.beq f f', eqIVs a a' with
    | true, true => eqIVs c c'
    | _, _ => false
  | .nilFunc, .nilFunc => true
  | .iface t v, .iface t' v' => match Nat.beq t t' with
    | true => eqIV v v'
    | false => false
  | .nilIface, .nilIface => true
  | .agg l, .agg l' => eqIVs l l'
  | .tuple l, .tuple l' => eqIVs l l'
  | _, _ => false
def eqIVs : List IV → List IV → Bool
  | [], [] => true
  | a :: l, b :: r => match eqIV a b with
    | true => eqIVs l r
    | false => false
  | _, _ => false
end
/-- p: it looks at temporaries alone; l: it reads memory; a: it makes a block; x: it acts. -/
inductive Cls where
  | p | l | a | x
def cls (op : Op) : Cls := match op with
  | .alloc _ => .a
  | .box _ _ => .a
  | .buildSlice _ _ _ => .a
  | .makeMap _ _ => .a
  | .makeSlice _ _ _ => .a
  | .range _ _ => .a
  | .convert _ d _ => match P.underlying d with
    | some (.slice _) => .a
    | _ => .l
  | .load _ _ => .l
  | .slice _ _ _ _ _ => .l
  | .lookup _ _ _ _ => .l
  | .call c => match c.callee with
    | .builtin .len => .l
    | .builtin .max => .l
    | .builtin .min => .l
    | _ => .x
  | .store _ _ _ => .x
  | .mapUpdate _ _ _ _ => .x
  | .next _ _ => .x
  | _ => .p
def bit (m i : Nat) : Bool := Nat.beq (Nat.land (Nat.shiftRight m i) 1) 1
def edgeM (acc : T Nat) (e : Edge) (s : Nat) : Nat := match e.ground with
  | .textOnly _ => s
  | .gcOnly _ => s
  | _ => Nat.lor s (Nat.lor (Nat.shiftLeft 1 e.on) (@Option.rec Nat (fun _ => Nat) 0 (fun m => m) (acc.get e.on)))
def maskL (acc : T Nat) (l : List Edge) : Nat := @List.rec Edge (fun _ => Nat) 0 (fun e _ ih => edgeM acc e ih) l
/-- a reading: its place, what is before it, the temporaries, what it yielded -/
structure LR where
  i : Nat
  m : Nat
  tm : Tm
  op : Op
  v : IV
/-- an act: its place, what is before it, memory behind it -/
structure XR where
  i : Nat
  m : Nat
  g : H
structure DS where
  tm : Tm
  g : H
  acc : T Nat
  pend : List (Nat × Blk)
  xs : List XR
  ls : List LR
def matH (N m : Nat) (l : List (Nat × Blk)) (g : H) : H := @List.rec (Nat × Blk) (fun _ => H) g (fun p _ ih => @Bool.rec (fun _ => H) ih (ih.put (N + p.1) p.2) (bit m p.1)) l
def restP (m : Nat) (l : List (Nat × Blk)) : List (Nat × Blk) := @List.rec (Nat × Blk) (fun _ => List (Nat × Blk)) [] (fun p _ ih => @Bool.rec (fun _ => List (Nat × Blk)) (p :: ih) ih (bit m p.1)) l
def allH (N : Nat) (l : List (Nat × Blk)) (g : H) : H := @List.rec (Nat × Blk) (fun _ => H) g (fun p _ ih => ih.put (N + p.1) p.2) l
def xsBefore (m : Nat) (l : List XR) : Bool := @List.rec XR (fun _ => Bool) true (fun x _ ih => @Bool.rec (fun _ => Bool) false ih (bit m x.i)) l
def actD (call : CallFn) (tm : Tm) (g : H) (op : Op) : Option (IV × H) :=
  ob (opDo P tm g op) fun x => @Out.rec (fun _ => Option (IV × H)) (fun v h => some (v, h)) (fun f args => call f args g) x
def valD (tm : Tm) (g : H) (op : Op) : Option (IV × H) :=
  ob (opDo P tm g op) fun x => @Out.rec (fun _ => Option (IV × H)) (fun v h => some (v, h)) (fun _ _ => none) x
def drawStep (call : CallFn) (sz N : Nat) (A : Asm) (ops : Array Oper) (i : Nat) (o : Oper) (s : DS) : Option DS :=
  ob (wantedD s.tm ops o) fun w => @Bool.rec (fun _ => Option DS)
    (ob (putD s.tm sz o.dst undefIV) fun tm => some ⟨tm, s.g, s.acc.put i (maskL s.acc o.after.toList), s.pend, s.xs, s.ls⟩)
    (@Cls.rec (fun _ => Option DS)
      (ob (valD P s.tm ⟨0, .nil, A⟩ o.op) fun r => ob (putD s.tm sz o.dst r.1) fun tm => some ⟨tm, s.g, s.acc.put i (maskL s.acc o.after.toList), s.pend, s.xs, s.ls⟩)
      (ob (valD P s.tm s.g o.op) fun r => ob (putD s.tm sz o.dst r.1) fun tm =>
        some ⟨tm, s.g, s.acc.put i (maskL s.acc o.after.toList), s.pend, s.xs, ⟨i, maskL s.acc o.after.toList, s.tm, o.op, r.1⟩ :: s.ls⟩)
      (ob (valD P s.tm ⟨N + i, .nil, A⟩ o.op) fun r => ob (r.2.m.get (N + i)) fun b => ob (putD s.tm sz o.dst r.1) fun tm =>
        some ⟨tm, s.g, s.acc.put i (maskL s.acc o.after.toList), (i, b) :: s.pend, s.xs, s.ls⟩)
      (@Bool.rec (fun _ => Option DS) none
        (ob (actD P call s.tm (matH N (maskL s.acc o.after.toList) s.pend s.g) o.op) fun r => ob (putD s.tm sz o.dst r.1) fun tm =>
          some ⟨tm, r.2, s.acc.put i (maskL s.acc o.after.toList), restP (maskL s.acc o.after.toList) s.pend, ⟨i, maskL s.acc o.after.toList, r.2⟩ :: s.xs, s.ls⟩)
        (xsBefore (maskL s.acc o.after.toList) s.xs))
      (cls P o.op)) w
def drawList (call : CallFn) (sz N : Nat) (A : Asm) (ops : Array Oper) (l : List Oper) : Nat → DS → Option DS :=
  @List.rec Oper (fun _ => Nat → DS → Option DS) (fun _ s => some s) (fun o _ ih i s => ob (drawStep P call sz N A ops i o s) fun s => ih (i + 1) s) l
/-- May a reading stand where the acts below c are done, and no others? -/
def mayStand (xs : List XR) (r : LR) (c : Nat) : Bool := @List.rec XR (fun _ => Bool) true (fun y _ ih =>
  @Bool.rec (fun _ => Bool)
    (@Bool.rec (fun _ => Bool) ih false (bit r.m y.i))      -- y is not done
    (@Bool.rec (fun _ => Bool) ih false (bit y.m r.i))      -- y is done
    (Nat.blt y.i c)) xs
def readsSame (xs : List XR) (r : LR) (c : Nat) (g : H) : Bool := @Bool.rec (fun _ => Bool) true
  (@Option.rec (IV × H) (fun _ => Bool) false (fun x => eqIV r.v x.1) (valD P r.tm g r.op)) (mayStand xs r c)
def allStages (xs0 : List XR) (r : LR) (l : List XR) : Bool := @List.rec XR (fun _ => Bool) true (fun x _ ih => @Bool.rec (fun _ => Bool) false ih (readsSame P xs0 r (x.i + 1) x.g)) l
def allReads (xs : List XR) (g0 : H) (l : List LR) : Bool := @List.rec LR (fun _ => Bool) true (fun r _ ih => @Bool.rec (fun _ => Bool) false (@Bool.rec (fun _ => Bool) false ih (allStages P xs r xs)) (readsSame P xs r 0 g0)) l
def drawD (call : CallFn) (sz : Nat) (ops : Array Oper) (tm : Tm) (h : H) : Option (Tm × H) :=
  ob (drawList P call sz h.next h.asm ops ops.toList 0 ⟨tm, ⟨h.next + ops.toList.length, h.m, h.asm⟩, .nil, [], [], []⟩) fun s =>
    @Bool.rec (fun _ => Option (Tm × H)) none (some (s.tm, allH h.next s.pend s.g))
      (@List.rec XR (fun _ => Bool) true (fun _ _ _ => allReads P s.xs ⟨h.next + ops.toList.length, h.m, h.asm⟩ s.ls) s.xs)

/-- What a piece of code comes to. -/
inductive Res where
  | bad
  | to (e : Ex) (tm : Tm) (h : H)
abbrev Run := Tm → H → Res
def loopD (body : Run) (fuel : Nat) : Run :=
  @Nat.rec (fun _ => Run) (fun _ _ => .bad) (fun _ ih tm h => @Res.rec (fun _ => Res) .bad (fun e tm h => @Ex.rec (fun _ => Res) (ih tm h) (fun i => .to (.exit i) tm h) (.to .ret tm h) e) (body tm h)) fuel
def seqD (a b : Run) (tm : Tm) (h : H) : Res :=
  @Res.rec (fun _ => Res) .bad (fun e tm h => @Ex.rec (fun _ => Res) (b tm h) (fun i => .to (.exit i) tm h) (.to .ret tm h) e) (a tm h)
def condD (c : Operand) (a b : Run) (tm : Tm) (h : H) : Res := match ev P tm c with
  | some (.bool x) => @Bool.rec (fun _ => Res) (b tm h) (a tm h) x
  | _ => .bad
def blockD (id : Nat) (b : Run) (tm : Tm) (h : H) : Res :=
  @Res.rec (fun _ => Res) .bad (fun e tm h => @Ex.rec (fun _ => Res) (.to .normal tm h) (fun i => @Bool.rec (fun _ => Res) (.to (.exit i) tm h) (.to .normal tm h) (Nat.beq i id)) (.to .ret tm h) e) (b tm h)
def regionD (call : CallFn) (sz : Nat) (ops : Array Oper) (draw : Bool) (tm : Tm) (h : H) : Res :=
  @Option.rec (Tm × H) (fun _ => Res) .bad (fun r => .to .normal r.1 r.2) (@Bool.rec (fun _ => Option (Tm × H)) (opsD P call sz ops ops.toList tm h) (drawD P call sz ops tm h) draw)
def execD (call : CallFn) (sz fuel : Nat) (c : Code) : Run :=
  @Code.rec (fun _ => Run)
    (fun tm h => .to .normal tm h)
    (fun _ ops draw => regionD P call sz ops draw)
    (fun _ _ ea eb => seqD ea eb)
    (fun c _ _ ea eb => condD P c ea eb)
    (fun id _ eb => blockD id eb)
    (fun _ eb => loopD eb fuel)
    (fun _ _ _ _ _ _ _ _ => .bad)
    (fun i tm h => .to (.exit i) tm h)
    (fun _ _ _ _ => .bad)
    (fun _ _ _ => .bad)
    (fun _ _ _ => .bad)
    (fun tm h => .to .ret tm h)
    (fun _ _ _ => .bad) c

def resD (tm : Tm) (h : H) : ResultVar → Option IV
  | .tmp t => tm.get t
  | .cell a t => ob (tm.get a) fun p => match p with
    | .ptr b o => loadVar P h t b o
    | _ => none
def resL (tm : Tm) (h : H) (l : List ResultVar) : Option (List IV) :=
  @List.rec ResultVar (fun _ => Option (List IV)) (some []) (fun r _ ih => ob (resD P tm h r) fun v => ob ih fun vs => some (v :: vs)) l
def resultsD (fn : Func) (tm : Tm) (h : H) : Option IV := match fn.results.toList with
  | [] => some (.tuple [])
  | [r] => resD P tm h r
  | l => ob (resL P tm h l) fun vs => some (.tuple vs)
def enterD (l : List IV) (n : Nat) : Nat → Tm → Option Tm :=
  @List.rec IV (fun _ => Nat → Tm → Option Tm) (fun _ t => some t) (fun v _ ih i t => @Bool.rec (fun _ => Option Tm) none (ih (i + 1) (t.put i v)) (Nat.blt i n)) l

/-- What is known of some calls beforehand. -/
abbrev Known := FuncId → Option (List IV → H → Option (IV × H))
def endD (fn : Func) (r : Res) : Option (IV × H) :=
  @Res.rec (fun _ => Option (IV × H)) none (fun e tm h => @Ex.rec (fun _ => Option (IV × H)) (ob (resultsD P fn tm h) fun v => some (v, h)) (fun _ => none) (ob (resultsD P fn tm h) fun v => some (v, h)) e) r
def bodyD (self : CallFn) (f : FuncId) (args : List IV) (h : H) : Option (IV × H) :=
  ob P.funcs[f]? fun fn => ob fn.body fun c => ob (enterD args fn.ntmps 0 .nil) fun tm => endD P fn (execD P self fn.ntmps 100000 c tm h)
def runD (known : Known) (fuel : Nat) : CallFn :=
  @Nat.rec (fun _ => CallFn) (fun _ _ _ => none) (fun _ self f args h => @Option.rec (List IV → H → Option (IV × H)) (fun _ => Option (IV × H)) (bodyD P self f args h) (fun g => g args h) (known f)) fuel
end
end Go.Den
