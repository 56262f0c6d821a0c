/-
  A reading of the model's code as a predicate over the world: what a piece of code asks so that it comes to its end without a panic. Definitions alone.
-/
import Derived.Orders
import Derived.Laws.World
import Derived.Laws.Sem
import Derived.KernelRfl
import Derived.RangeFuncRecord
namespace Go.Dn

abbrev Fr := List (Nat × Value)

def look : Fr → Nat → Option Value
  | [], _ => none
  | x :: r, i => bif Nat.beq x.1 i then some x.2 else look r i

def put (n : Nat) (fr : Fr) (d : Option Nat) (v : Value) : Fr :=
  match d with
  | none => fr
  | some d => bif Nat.blt d n then (d, v) :: fr else fr

def evalO (fr : Fr) : Operand → Option Value
  | .tmp t => look fr t
  | .const v => some v
  | .global g => some (.pointer (some ⟨g, 0, none⟩))
  | .func f => some (.func (.func f) #[] #[])

/-! ## Small combinators -/
def VAL (x : Option Value) (k : Value → Prop) : Prop :=
  match x with
  | some v => k v
  | none => False
def IFB (b : Bool) (x y : Prop) : Prop :=
  match b with
  | true => x
  | false => y
def PTR (p : Option Addr) (k : Addr → Prop) : Prop :=
  match p with
  | some a => k a
  | none => False
def BOOLV (x : Option Value) (k : Bool → Prop) : Prop :=
  match x with
  | some (.bool b) => k b
  | _ => False
def INTV (x : Option Value) (k : IntKind → Int → Prop) : Prop :=
  match x with
  | some (.int kd n) => k kd n
  | _ => False
def PTRV (x : Option Value) (k : Addr → Prop) : Prop :=
  match x with
  | some (.pointer p) => PTR p k
  | _ => False

/-- a function's value -/
def FUNV (x : Option Value) (k : FuncId → Array Value → Array Value → Prop) : Prop :=
  match x with
  | some (.func (.func g) fi ca) => k g fi ca
  | _ => False
/-- a function's value, or a loop's yield -/
def DYNV (x : Option Value) (k : FuncId → Array Value → Array Value → Prop) (y : Nat → Prop) : Prop :=
  match x with
  | some (.func (.func g) fi ca) => k g fi ca
  | some (.func (.yield l) fi ca) => bif fi.toList.isEmpty && ca.toList.isEmpty then y l else False
  | _ => False

/-! ## Typed opening -/
def LIKE1 (z : Value) (f : Value → Prop) : Prop :=
  match z with
  | .int kd _ => ∃ n : Int, f (.int kd n)
  | .bool _ => ∃ b : Bool, f (.bool b)
  | .string _ => ∃ s : ByteArray, f (.string s)
  | .pointer _ => ∃ p : Option Addr, f (.pointer p)
  | .slice _ _ _ => ∃ (p : Option Addr) (l c : Nat), f (.slice p l c)
  | .map _ => ∃ r : Option Nat, f (.map r)
  | .nilFunc => ∃ (g : FuncId) (fi ca : Array Value), f (.func (.func g) fi ca)
  | _ => ∃ v : Value, f v
def LIKEL : List Value → (List Value → Prop) → Prop
  | [], f => f []
  | z :: zs, f => LIKE1 z fun v => LIKEL zs fun vs => f (v :: vs)
def LIKE (z : Value) (f : Value → Prop) : Prop :=
  match z with
  | .agg zs => LIKEL zs.toList fun vs => f (.agg ⟨vs⟩)
  | z => LIKE1 z f
def LIKEM : List Value → (List Value → Prop) → Prop
  | [], f => f []
  | z :: zs, f => LIKE z fun v => LIKEM zs fun vs => f (v :: vs)
def LIKER (z : Value) (f : Value → Prop) : Prop :=
  match z with
  | .tuple zs => LIKEM zs.toList fun vs => f (.tuple ⟨vs⟩)
  | z => LIKE z f

def ALL1 (z : Value) (f : Value → Prop) : Prop :=
  match z with
  | .int kd _ => ∀ n : Int, f (.int kd n)
  | .bool _ => ∀ b : Bool, f (.bool b)
  | .string _ => ∀ s : ByteArray, f (.string s)
  | .pointer _ => ∀ p : Option Addr, f (.pointer p)
  | .slice _ _ _ => ∀ (p : Option Addr) (l c : Nat), f (.slice p l c)
  | .map _ => ∀ r : Option Nat, f (.map r)
  | .nilFunc => ∀ (g : FuncId) (fi ca : Array Value), f (.func (.func g) fi ca)
  | _ => ∀ v : Value, f v
def ALLL : List Value → (List Value → Prop) → Prop
  | [], f => f []
  | z :: zs, f => ALL1 z fun v => ALLL zs fun vs => f (v :: vs)
def ALLV (z : Value) (f : Value → Prop) : Prop :=
  match z with
  | .agg zs => ALLL zs.toList fun vs => f (.agg ⟨vs⟩)
  | z => ALL1 z f
def ALLM : List Value → (List Value → Prop) → Prop
  | [], f => f []
  | z :: zs, f => ALLV z fun v => ALLM zs fun vs => f (v :: vs)

def intKindB : IntKind → IntKind → Bool
  | .i8, .i8 | .i16, .i16 | .i32, .i32 | .i64, .i64 | .u8, .u8 | .u16, .u16 | .u32, .u32 | .u64, .u64 => true
  | _, _ => false
def like1 (z v : Value) : Bool :=
  match z with
  | .int kd _ => match v with | .int kd' _ => intKindB kd kd' | _ => false
  | .bool _ => match v with | .bool _ => true | _ => false
  | .string _ => match v with | .string _ => true | _ => false
  | .pointer _ => match v with | .pointer _ => true | _ => false
  | .slice _ _ _ => match v with | .slice _ _ _ => true | _ => false
  | .map _ => match v with | .map _ => true | _ => false
  | .nilFunc => match v with | .func (.func _) _ _ => true | _ => false
  | _ => true
def likeL : List Value → List Value → Bool
  | [], [] => true
  | z :: zs, v :: vs => like1 z v && likeL zs vs
  | _, _ => false
def likeV (z v : Value) : Bool :=
  match z with
  | .agg zs => match v with | .agg vs => likeL zs.toList vs.toList | _ => false
  | z => like1 z v
def likeM : List Value → List Value → Bool
  | [], [] => true
  | z :: zs, v :: vs => likeV z v && likeM zs vs
  | _, _ => false

/-! ## Memory -/
def NEWB (cells : Array Value) (t : TypeId) (k : Nat → World → Prop) (w : World) : Prop := k w.heap.size (w.alloc (.cells cells t))
def DRAW (k : World → Prop) (w : World) : Prop := k w.drew
def LOADC : List Value → Addr → Nat → (List Value → Prop) → World → Prop
  | [], _, _, k, _ => k []
  | z :: zs, a, i, k, w => LIKE1 z fun v => w.cell? (a.add i) = some v ∧ LOADC zs a (i + 1) (fun vs => k (v :: vs)) w
def STO (a : Addr) (v : Value) (k : World → Prop) (w : World) : Prop :=
  (w.cell? a).isSome = true ∧ w.frozen? a = false ∧ k (w.setCell a v)
def STOREC : List Value → Addr → Nat → (World → Prop) → World → Prop
  | [], _, _, k, w => k w
  | v :: vs, a, i, k, w => bif v.oneCell' then STO (a.add i) v (fun w' => STOREC vs a (i + 1) k w') w else False

/-! ## Pure semantics -/
def runPure {α : Type} (P : Program) : Sem α → Option α
  | .pure a => some a
  | .program k => runPure P (k P)
  | .mark _ k => runPure P k
  | _ => none

def rho (e : Operand → Option Value) (x : Operand) : Value := (e x).getD undef
def known (e : Operand → Option Value) (o : Oper) : Bool := o.op.operands.toList.all fun x => (e x).isSome

def intOp (op : BinOp) (k k' : IntKind) (a b : Int) (K : Value → Prop) : Prop :=
  match op with
  | .shl => 0 ≤ b ∧ K (.int k (k.wrap (a * 2 ^ (min b.toNat k.bits))))
  | .shr => 0 ≤ b ∧ K (.int k (a.fdiv (2 ^ (min b.toNat k.bits))))
  | op => bif intKindB k k' then
    match op with
    | .add => K (.int k (k.wrap (a + b)))
    | .sub => K (.int k (k.wrap (a - b)))
    | .mul => K (.int k (k.wrap (a * b)))
    | .quo => b ≠ 0 ∧ K (.int k (k.wrap (a.tdiv b)))
    | .rem => b ≠ 0 ∧ K (.int k (a.tmod b))
    | .and => K (.int k (k.wrap (BitVec.ofInt k.bits a &&& BitVec.ofInt k.bits b).toNat))
    | .or => K (.int k (k.wrap (BitVec.ofInt k.bits a ||| BitVec.ofInt k.bits b).toNat))
    | .xor => K (.int k (k.wrap (BitVec.ofInt k.bits a ^^^ BitVec.ofInt k.bits b).toNat))
    | .andNot => K (.int k (k.wrap (BitVec.ofInt k.bits a &&& ~~~(BitVec.ofInt k.bits b)).toNat))
    | .eql => K (.bool (a == b))
    | .neq => K (.bool (a != b))
    | .lss => K (.bool (decide (a < b)))
    | .leq => K (.bool (decide (a ≤ b)))
    | .gtr => K (.bool (decide (a > b)))
    | .geq => K (.bool (decide (a ≥ b)))
    | _ => False
  else False
/-- where the second operand is a number that is written out, its test is decided -/
def intOpC (op : BinOp) (k k' : IntKind) (a b : Int) (K : Value → Prop) : Prop :=
  match op with
  | .shl => bif decide (0 ≤ b) then K (.int k (k.wrap (a * 2 ^ (min b.toNat k.bits)))) else False
  | .shr => bif decide (0 ≤ b) then K (.int k (a.fdiv (2 ^ (min b.toNat k.bits)))) else False
  | .quo => bif decide (b = 0) then False else bif intKindB k k' then K (.int k (k.wrap (a.tdiv b))) else False
  | .rem => bif decide (b = 0) then False else bif intKindB k k' then K (.int k (a.tmod b)) else False
  | op => intOp op k k' a b K
def bytesEq (a b : ByteArray) : Bool := a.toList == b.toList
def bytesLt (a b : ByteArray) : Bool := Op.bytesLess a.toList b.toList
def strOp (op : BinOp) (a b : ByteArray) (K : Value → Prop) : Prop :=
  match op with
  | .add => a.size + b.size ≤ 9223372036854775807 ∧ K (.string (a ++ b))
  | .eql => K (.bool (bytesEq a b))
  | .neq => K (.bool (!bytesEq a b))
  | .lss => K (.bool (bytesLt a b))
  | .leq => K (.bool (bytesLt a b || bytesEq a b))
  | .gtr => K (.bool (!(bytesLt a b || bytesEq a b)))
  | .geq => K (.bool (!bytesLt a b))
  | _ => False
/-- the part of a struct's cells that a field takes -/
def partV (P : Program) (t : TypeId) (cs : Array Value) (off : Nat) : Option Value :=
  match P.underlying t with
  | some (.struct _) => some (.agg (cs.extract off (off + P.cellsOf t)))
  | some .bool | some (.int _) | some .string => cs[off]?
  | _ => none
def eqFs (P : Program) (eq : TypeId → Value → Value → Option Bool) (xs ys : Array Value) : List Field → Option Bool
  | [] => some true
  | f :: fs => bif f.name == "_" then none else
    match partV P f.type xs f.offset, partV P f.type ys f.offset with
    | some x, some y =>
      (match eq f.type x y, eqFs P eq xs ys fs with
      | some b, some c => some (b && c)
      | _, _ => none)
    | _, _ => none
/-- '==' on bools, ints, strings and structs of these -/
def eqV (P : Program) : Nat → TypeId → Value → Value → Option Bool
  | 0, _, _, _ => none
  | d + 1, t, x, y =>
    match P.underlying t with
    | some .bool => (match x, y with
      | .bool a, .bool b => some (a == b)
      | _, _ => none)
    | some (.int _) => (match x, y with
      | .int k a, .int k' b => bif intKindB k k' then some (a == b) else none
      | _, _ => none)
    | some .string => (match x, y with
      | .string a, .string b => some (a == b)
      | _, _ => none)
    | some (.struct fs) => (match x, y with
      | .agg xs, .agg ys => bif P.stoodInHeld t then none else eqFs P (eqV P d) xs ys fs.toList
      | _, _ => none)
    | _ => none
def isNeg : BinOp → Option Bool
  | .eql => some false
  | .neq => some true
  | _ => none
def eqOut (neg : Bool) (b : Bool) : Value := .bool (bif neg then !b else b)
def eqOp2 (P : Program) (op : BinOp) (t : TypeId) (x y : Value) (K : Value → Prop) : Prop :=
  match isNeg op with
  | none => False
  | some neg =>
    match x, y with
    | .bool a, .bool b => bif (match P.underlying t with | some .bool => true | _ => false) then K (eqOut neg (a == b)) else False
    | .pointer p, .pointer none => bif (match P.underlying t with | some (.pointer _) => true | _ => false) then K (eqOut neg p.isNone) else False
    | .slice p _ _, .slice none _ _ => bif (match P.underlying t with | some (.slice _) => true | _ => false) then K (eqOut neg p.isNone) else False
    | .map p, .map none => bif (match P.underlying t with | some (.map _ _) => true | _ => false) then K (eqOut neg p.isNone) else False
    | .agg xs, .agg ys => bif P.eqGuardType P.depth t then False else (match eqV P 5 t (.agg xs) (.agg ys) with | some b => K (eqOut neg b) | none => False)
    | _, _ => False
def isIfaceT (P : Program) (t : TypeId) : Bool :=
  match P.underlying t with
  | some (.interface _) => true
  | _ => false
def IFACEV (x : Value) (k : Bool → Prop) : Prop :=
  match x with
  | .nilIface => k true
  | .iface _ _ => k false
  | _ => False
def negOp (op : BinOp) (k : Bool → Prop) : Prop :=
  match isNeg op with
  | none => False
  | some neg => k neg
def eqOp (P : Program) (c : Bool) (op : BinOp) (t : TypeId) (x y : Value) (K : Value → Prop) : Prop :=
  match y with
  | .nilIface => negOp op fun neg => bif c && isIfaceT P t then IFACEV x (fun b => K (eqOut neg b)) else False
  | y => eqOp2 P op t x y K
def isConstO : Operand → Bool
  | .const _ => true
  | _ => false
def binD2 (P : Program) (e : Operand → Option Value) (op : BinOp) (t : TypeId) (x y : Operand) (K : Value → Prop) : Prop :=
  match e x, e y with
  | some (.int k a), some (.int k' b) => bif isConstO y then intOpC op k k' a b K else intOp op k k' a b K
  | some (.string a), some (.string b) => strOp op a b K
  | some u, some v => eqOp P (isConstO y) op t u v K
  | _, _ => False
def binD (P : Program) (e : Operand → Option Value) (op : BinOp) (t : TypeId) (x y : Operand) (K : Value → Prop) : Prop :=
  match e y with
  | some .nilIface => VAL (e x) fun u => eqOp P (isConstO y) op t u .nilIface K
  | _ => binD2 P e op t x y K

def SLA (a : Option Addr) (l m size : Nat) : Option Addr := if m = l then a else a.map (·.add (l * size))
def sget (s : ByteArray) (i : Nat) : UInt8 := s.data.toList.getD i 0
/-- a bound of a slice expression: absent, or an int -/
def boundV (e : Operand → Option Value) (x : Option Operand) (d : Nat) (k : Int → Prop) : Prop :=
  match x with
  | none => k d
  | some o => match e o with
    | some (.int _ n) => k n
    | _ => False
def elOk (P : Program) (t : TypeId) : Bool := (P.info? t).isSome
def sliceD (P : Program) (e : Operand → Option Value) (t : TypeId) (x : Operand) (lo hi mx : Option Operand) (K : Value → Prop) : Prop :=
  match P.underlying t, e x, mx with
  | some .string, some (.string s), none =>
    boundV e hi s.size fun h => boundV e lo 0 fun l => (0 ≤ l ∧ l ≤ h ∧ h ≤ s.size) ∧ K (.string (s.extract l.toNat h.toNat))
  | some (.slice el), some (.slice a len cap), none => bif elOk P el then
    boundV e hi len fun h => boundV e lo 0 fun l => (0 ≤ l ∧ l ≤ h ∧ h ≤ cap) ∧ K (.slice (SLA a l.toNat cap (P.cellsOf el)) (h.toNat - l.toNat) (cap - l.toNat)) else False
  | some (.slice el), some (.slice a _ cap), some mo => bif elOk P el then
    match hi with
    | none => False
    | some _ => boundV e (some mo) 0 fun m => boundV e hi 0 fun h => boundV e lo 0 fun l => (0 ≤ l ∧ l ≤ h ∧ h ≤ m ∧ m ≤ cap) ∧ K (.slice (SLA a l.toNat m.toNat (P.cellsOf el)) (h.toNat - l.toNat) (m.toNat - l.toNat)) else False
  | _, _, _ => False
def indexAddrD (P : Program) (e : Operand → Option Value) (t : TypeId) (x i : Operand) (K : Value → Prop) : Prop :=
  match P.underlying t, e x with
  | some (.slice el), some (.slice p len _) => bif elOk P el then INTV (e i) fun _ n => (0 ≤ n ∧ n < len) ∧ PTR p fun a => K (.pointer (some (a.add (n.toNat * P.cellsOf el)))) else False
  | some (.array len el), some (.pointer p) => bif elOk P el then INTV (e i) fun _ n => bif isConstO i then (bif decide (0 ≤ n ∧ n < len) then PTR p fun a => K (.pointer (some (a.add (n.toNat * P.cellsOf el)))) else False) else (0 ≤ n ∧ n < len) ∧ PTR p fun a => K (.pointer (some (a.add (n.toNat * P.cellsOf el)))) else False
  | _, _ => False
def indexD (P : Program) (e : Operand → Option Value) (t : TypeId) (x i : Operand) (K : Value → Prop) : Prop :=
  match P.underlying t, e x with
  | some .string, some (.string s) => INTV (e i) fun _ n => (0 ≤ n ∧ n < s.size) ∧ K (.int .u8 (sget s n.toNat).toNat)
  | _, _ => False
def fieldAddrD (P : Program) (e : Operand → Option Value) (s : TypeId) (x : Operand) (f : Nat) (K : Value → Prop) : Prop :=
  match P.underlying s with
  | some (.struct fs) =>
    match fs[f]? with
    | some fl => bif Nat.beq (P.cellsOf fl.type) 0 then False else PTRV (e x) fun a => K (.pointer (some (a.add fl.offset)))
    | none => False
  | _ => False
def nilD (x : Option Value) (K : Value → Prop) : Prop :=
  match x with
  | some (.pointer p) => PTR p fun a => K (.pointer (some a))
  | some (.func (.func f) u c) => K (.func (.func f) u c)
  | some (.func (.yield l) u c) => K (.func (.yield l) u c)
  | _ => False
def defaultD (P : Program) (e : Operand → Option Value) (o : Oper) (K : Value → Prop) : Prop :=
  bif known e o then
    match runPure P (execOp (rho e) o) with
    | some (.value v) => K v
    | _ => False
  else False

def dPure (P : Program) (e : Operand → Option Value) (o : Oper) (K : Value → Prop) : Prop :=
  match o.op with
  | .move x => VAL (e x) K
  | .assign x => VAL (e x) K
  | .pick c a b => BOOLV (e c) fun t => IFB t (VAL (e a) K) (VAL (e b) K)
  | .nilCheck x => nilD (e x) K
  | .binOp op t x y _ => binD P e op t x y K
  | .fieldAddr s x f => fieldAddrD P e s x f K
  | .indexAddr t x i => indexAddrD P e t x i K
  | .index t x i => indexD P e t x i K
  | .slice t x lo hi mx => sliceD P e t x lo hi mx K
  | _ => defaultD P e o K

def isIntT (P : Program) (t : TypeId) : Bool :=
  match P.underlying t with
  | some (.int _) => true
  | _ => false
def lenPure (P : Program) (ts : Array TypeId) : Bool :=
  match ts.toList with
  | t :: _ => match P.underlying t with
    | some .string | some (.slice _) | some (.array _ _) => true
    | _ => false
  | [] => false
def isPure (P : Program) (o : Oper) : Bool :=
  match o.op with
  | .move _ | .assign _ | .pick _ _ _ | .nilCheck _ | .fieldAddr _ _ _ | .indexAddr _ _ _ | .index _ _ _ | .slice _ _ _ _ _ => true
  | .binOp _ _ _ _ _ => true
  | .unOp _ _ _ | .field _ _ _ | .extract _ _ | .makeFunc _ _ _ | .makeInterface _ _ | .build _ _ => true
  | .convert s d _ => isIntT P s && isIntT P d
  | .call { callee := .builtin b, argTypes, .. } =>
    match b with
    | .len | .cap => lenPure P argTypes
    | .min | .max => true
    | _ => false
  | _ => false

/-! ## Reads -/
def zeroOf (P : Program) (t : TypeId) : Option Value :=
  match P.info? t with
  | some i => i.zero
  | none => none
def isAggT (P : Program) (t : TypeId) : Bool :=
  match P.underlying t with
  | some (.struct _) | some (.array _ _) => true
  | _ => false
abbrev Held := List (Addr × Value)
def heldAt (a : Addr) : List Value → Nat → Held
  | [], _ => []
  | v :: vs, i => (a.add i, v) :: heldAt a vs (i + 1)
/-- a load: the value, and the cells that it read -/
def loadD (P : Program) (t : TypeId) (x : Option Value) (k : Value → Held → Prop) (w : World) : Prop :=
  match zeroOf P t with
  | none => False
  | some z =>
    bif isAggT P t then
      (bif Nat.beq (P.cellsOf t) z.cells.toList.length then PTRV x fun a => LOADC z.cells.toList a 0 (fun vs => k (.agg ⟨vs⟩) (heldAt a vs 0)) w else False)
    else bif (P.underlying t).isSome then PTRV x fun a => LOADC [z] a 0 (fun vs => k (vs.headD undef) (heldAt a vs 0)) w else False

/-! ## What acts -/
def CALLK (P : Program) (f : FuncId) (args : Array Value) (z : Value) (k : Value → World → Prop) (w : World) : Prop :=
  Calls P f args w fun e w' => LIKER z fun v => e = .returned v ∧ k v w'
def OPQ (P : Program) (s : Sem Value) (z : Value) (k : Value → World → Prop) (w : World) : Prop :=
  match s.run P w with
  | .ok v w' => LIKER z fun u => v = u ∧ k u w'
  | .halt _ _ => False
def OPU (P : Program) (s : Sem Unit) (k : World → Prop) (w : World) : Prop :=
  match s.run P w with
  | .ok _ w' => k w'
  | .halt _ _ => False
def OPR (P : Program) (s : Sem Value) (f : Value → World → Prop) (w : World) : Prop :=
  match s.run P w with
  | .ok v w' => f v w'
  | .halt _ _ => False
/-- a call of yield: the round of loop l -/
def YLD (P : Program) (l : Nat) (args : Array Value) (k : Bool → World → Prop) (w : World) : Prop :=
  ∃ f tmps assign body, (Instr.yield l args).run P w = .ok (.round l f tmps assign body) w ∧ RoundIn Fence.wide 0 P l f tmps assign body w fun e w' => ∃ t, e = .returned (.bool t) ∧ k t w'
def enters (P : Program) (f : FuncId) : Bool :=
  match P.funcs[f]? with
  | some fn => fn.body.isSome && !(fn.name == "runtime.NumGoroutine")
  | none => false
def evalL (e : Operand → Option Value) : List Operand → Option (List Value)
  | [] => some []
  | x :: xs => match e x, evalL e xs with
    | some v, some vs => some (v :: vs)
    | _, _ => none
def buildSliceCells (P : Program) (e : Operand → Option Value) (t : TypeId) (len : Nat) (parts : Array (Nat × Operand)) : Option (TypeId × Array Value) :=
  match P.underlying t with
  | some (.slice el) =>
    match P.info? el with
    | some i =>
      match i.zero with
      | some z => bif Nat.beq len 0 && parts.toList.isEmpty then some (el, #[]) else bif (Nat.blt (2 ^ 24) (len * i.size)) || (Nat.beq (len * i.size) 0) then none else
        (Instr.fill (fun j => some (j * i.size, i.size)) ((Array.range (len * i.size)).map (z.cells[· % z.cells.size]!)) (parts.toList.map fun p => (p.1, rho e p.2))).map fun c => (el, c)
      | none => none
    | none => none
  | _ => none
def dLoud (P : Program) (e : Operand → Option Value) (o : Oper) (k : Value → World → Prop) (w : World) : Prop :=
  match o.op with
  | .alloc t => (match zeroOf P t with
    | some z => NEWB z.cells t (fun b w' => k (.pointer (some ⟨b, 0, none⟩)) w') w
    | none => False)
  | .box t x => VAL (e x) fun v => NEWB v.cells t (fun b w' => k (.pointer (some ⟨b, 0, none⟩)) w') w
  | .buildSlice t len parts => bif known e o then
      (match buildSliceCells P e t len parts with
      | some (el, c) => NEWB c el (fun b w' => k (.slice (some ⟨b, 0, none⟩) len len) w') w
      | none => False) else False
  | .store t a x => VAL (e x) fun v => PTRV (e a) fun p => bif Nat.beq v.cells.size (P.cellsOf t) && elOk P t then STOREC v.cells.toList p 0 (fun w' => k undef w') w else False
  | .call c =>
    match c.callee with
    | .builtin b => bif known e o then
        (match zeroOf P o.type with
        | some z => (match b with
          | .append => OPQ P (Builtin.append_ c.argTypes o.type (c.args.map (rho e))) z k w
          | .copy => OPQ P (Builtin.copy_ c.argTypes o.type (c.args.map (rho e))) z k w
          | .len => OPQ P (Builtin.len_ c.argTypes o.type (c.args.map (rho e))) z k w
          | .clear => OPQ P (Builtin.clear_ c.argTypes o.type (c.args.map (rho e))) z k w
          | .delete => OPQ P (Builtin.delete_ c.argTypes o.type (c.args.map (rho e))) z k w
          | _ => False)
        | none => False) else False
    | .value f =>
      (match evalL e c.args.toList, zeroOf P o.type with
      | some vs, some z => DYNV (e f) (fun g first captured => bif enters P g then CALLK P g ⟨first.toList ++ vs ++ captured.toList⟩ z k w else False) (fun l => YLD P l ⟨vs⟩ (fun t w' => k (.bool t) w') w)
      | _, _ => False)
    | .invoke _ _ => False
  | .convert s d x => VAL (e x) fun v => (match zeroOf P o.type with
      | some z => OPQ P (convert s d v) z k w
      | none => False)
  | .makeSlice t l c => VAL (e l) fun u => VAL (e c) fun v => (match zeroOf P o.type with
      | some z => OPQ P (Instr.makeSlice t u v) z k w
      | none => False)
  | .makeMap t none => (match zeroOf P o.type with
      | some z => OPQ P (Instr.makeMap t none) z k w
      | none => False)
  | .lookup t x i ok => VAL (e x) fun u => VAL (e i) fun v => (match zeroOf P o.type with
      | some z => OPQ P (Instr.lookup t u v ok) z k w
      | none => False)
  | .mapUpdate t m i x => VAL (e m) fun u => VAL (e i) fun v => VAL (e x) fun y => OPU P (Instr.mapUpdate t u v y) (fun w' => k undef w') w
  | .range t x => VAL (e x) fun u => (match zeroOf P o.type with
      | some z => OPQ P (Instr.range t u) z k w
      | none => False)
  | .next i s => VAL (e i) fun u => (match zeroOf P o.type with
      | some z => OPQ P (Instr.next u s o.type) z k w
      | none => False)
  | .entry i => VAL (e i) fun u => (match zeroOf P o.type with
      | some z => OPQ P (Instr.entry u) z k w
      | none => False)
  | _ => False

inductive Cls where
  | pure | read | loud
  deriving DecidableEq
def clsB : Cls → Cls → Bool
  | .pure, .pure | .read, .read | .loud, .loud => true
  | _, _ => false
def cls (P : Program) (o : Oper) : Cls :=
  bif isPure P o then .pure else match o.op with
    | .load _ _ => .read
    | _ => .loud
/-- one operation: its value, the cells that it read, the world behind it -/
def dOp (P : Program) (e : Operand → Option Value) (o : Oper) (k : Value → Held → World → Prop) (w : World) : Prop :=
  match cls P o with
  | .pure => dPure P e o fun v => k v [] w
  | .read => (match o.op with
    | .load t a => loadD P t (e a) (fun v h => k v h w) w
    | _ => False)
  | .loud => dLoud P e o (fun v w' => k v [] w') w

/-- a guarded operation: A where it is carried out, B where it is passed over -/
def guardD (ops : Array Oper) (o : Oper) (fr : Fr) (A B : Fr → Prop) : Prop :=
  match o.guard with
  | none => A fr
  | some (j, want) =>
    match (ops[j]?).bind (·.dst) with
    | none => False
    | some d =>
      match look fr d with
      | some (.bool b) => IFB b (bif want then A ((d, .bool true) :: fr) else B ((d, .bool true) :: fr)) (bif want then B ((d, .bool false) :: fr) else A ((d, .bool false) :: fr))
      | some (.tuple _) => B fr
      | _ => False

/-- operations one after the other -/
def dOps (P : Program) (n : Nat) (ops : Array Oper) : List Oper → Fr → (Fr → World → Prop) → World → Prop
  | [], fr, K, w => K fr w
  | o :: rest, fr, K, w =>
    guardD ops o fr (fun fr => dOp P (evalO fr) o (fun v _ w' => dOps P n ops rest (put n fr o.dst v) K w') w)
      (fun fr => dOps P n ops rest (put n fr o.dst undef) K w)

/-! ## A region that draws its order -/
/-- what must have been carried out ahead of operation j -/
def predsOf (ops : Array Oper) (j : Nat) : List Nat :=
  match ops[j]? with
  | some o => (o.after.toList.filter fun e => Region.binds .any e).map (·.on)
  | none => []
def predsDown (ops : Array Oper) : Nat → List Nat → List Nat
  | 0, s => s
  | k + 1, s => bif s.contains k then predsDown ops k (predsOf ops k ++ s) else predsDown ops k s
def predsStar (ops : Array Oper) (j : Nat) : List Nat := predsDown ops j (predsOf ops j)
def holds (h : Held) (w : World) : Prop :=
  match h with
  | [] => True
  | [x] => w.cell? x.1 = some x.2
  | x :: y :: r => w.cell? x.1 = some x.2 ∧ holds (y :: r) w
/-- behind the acting operation j: what was read and may be read behind it still stands there -/
def stands (ps : List Nat) : List (Nat × Held) → World → Prop → Prop
  | [], _, X => X
  | s :: r, w, X => bif ps.contains s.1 then stands ps r w X else holds s.2 w ∧ stands ps r w X
def kept (ps : List Nat) (held : List (Nat × Held)) : List (Nat × Held) := held.filter fun s => !ps.contains s.1
def isCls (P : Program) (ops : Array Oper) (c : Cls) (i : Nat) : Bool :=
  match ops[i]? with
  | some o => clsB (cls P o) c
  | none => false
def allD : List Nat → (Nat → Prop) → Prop
  | [], _ => True
  | [i], f => f i
  | i :: j :: r, f => f i ∧ allD (j :: r) f
def dDraw (P : Program) (n : Nat) (ops : Array Oper) : Nat → Array Bool → List (Nat × Held) → Fr → (Fr → World → Prop) → World → Prop
  | 0, listed, _, fr, K, w => bif (Region.ready .any ops listed).isEmpty then K fr w else False
  | fuel + 1, listed, held, fr, K, w =>
    match Region.ready .any ops listed with
    | [] => K fr w
    | i0 :: rs =>
      match (i0 :: rs).find? (isCls P ops .pure) with
      | some i =>
        (match ops[i]? with
        | some o => bif Region.free .any ops listed i then
            guardD ops o fr (fun fr => dPure P (evalO fr) o fun v => dDraw P n ops fuel (listed.setIfInBounds i true) held (put n fr o.dst v) K w)
              (fun fr => dDraw P n ops fuel (listed.setIfInBounds i true) held (put n fr o.dst undef) K w) else False
        | none => False)
      | none =>
        match (i0 :: rs).find? (isCls P ops .read) with
        | some i =>
          (match ops[i]? with
          | some o => bif Region.free .any ops listed i then
              guardD ops o fr (fun fr => (match o.op with
                  | .load t a => loadD P t (evalO fr a) (fun v h => dDraw P n ops fuel (listed.setIfInBounds i true) ((i, h) :: held) (put n fr o.dst v) K w) w
                  | _ => False))
                (fun fr => dDraw P n ops fuel (listed.setIfInBounds i true) held (put n fr o.dst undef) K w) else False
          | none => False)
        | none =>
          allD (i0 :: rs) fun j =>
            match ops[j]? with
            | some o =>
              guardD ops o fr (fun fr => dLoud P (evalO fr) o (fun v w' =>
                  stands (predsStar ops j) held w' (dDraw P n ops fuel (listed.setIfInBounds j true) (kept (predsStar ops j) held) (put n fr o.dst v) K w')) w)
                (fun fr => dDraw P n ops fuel (listed.setIfInBounds j true) (kept (predsStar ops j) held) (put n fr o.dst undef) K w)
            | none => False

/-! ## Code -/
/-- at a loop's head, at a cut: the slots that are laid anew (with the form of what they hold), the slots that are kept -/
structure Hint where
  mods : List (Nat × Value)
  keep : List Nat
abbrev Hints := List (Nat × Hint)
def hintAt : Hints → Option Nat → Option Hint
  | _, none => none
  | [], _ => none
  | x :: r, some i => bif Nat.beq x.1 i then some x.2 else hintAt r (some i)
def firstRegion : Code → Option Nat
  | .region id _ _ => some id
  | .seq a b => (firstRegion a).or (firstRegion b)
  | .cond _ a b => (firstRegion a).or (firstRegion b)
  | .block _ c => firstRegion c
  | .loop c => firstRegion c
  | .scope c => firstRegion c
  | .rangeFunc _ _ a b => (firstRegion a).or (firstRegion b)
  | _ => none
def opsWrite (i : Nat) : List Oper → Bool
  | [] => false
  | o :: r => (match o.dst with | some d => Nat.beq d i | none => false) || opsWrite i r
/-- may the code write slot i? -/
def writes (i : Nat) : Code → Bool
  | .skip | .label _ | .exit _ | .ret => false
  | .region _ ops _ => opsWrite i ops.toList
  | .seq a b => writes i a || writes i b
  | .cond _ a b => writes i a || writes i b
  | .block _ c => writes i c
  | .loop c => writes i c
  | .scope c => writes i c
  | .rangeFunc _ _ _ _ => false
  | _ => true
/-- no range over a function -/
def noRange : Code → Bool
  | .seq a b => noRange a && noRange b
  | .cond _ a b => noRange a && noRange b
  | .block _ c => noRange c
  | .loop c => noRange c
  | .scope c => noRange c
  | .rangeFunc _ _ _ _ => false
  | _ => true
/-- how a round's body may be left: what stays pending, and the way out -/
def hasRet : Code → Bool
  | .ret => true
  | .seq a b => hasRet a || hasRet b
  | .cond _ a b => hasRet a || hasRet b
  | .block _ c => hasRet c
  | .loop c => hasRet c
  | .scope c => hasRet c
  | .rangeFunc _ _ _ b => hasRet b
  | _ => false
def exitsOf (inn : List Nat) : Code → List Nat
  | .exit id => bif inn.contains id then [] else [id]
  | .seq a b => exitsOf inn a ++ exitsOf inn b
  | .cond _ a b => exitsOf inn a ++ exitsOf inn b
  | .block id c => exitsOf (id :: inn) c
  | .loop c => exitsOf inn c
  | .scope c => exitsOf inn c
  | .rangeFunc _ _ _ b => exitsOf inn b
  | _ => []
def dedupN : List Nat → List Nat
  | [] => []
  | x :: r => bif (dedupN r).contains x then dedupN r else x :: dedupN r
def jumpsOf (c : Code) : List (Option Code × Exit) :=
  (none, .normal) :: ((bif hasRet c then [(some .ret, .ret)] else []) ++ (dedupN (exitsOf [] c)).map fun i => (some (.exit i), .exit i))
def orJ (j : Option Code) (f : Exit → Prop) : List (Option Code × Exit) → Prop
  | [] => False
  | [x] => j = x.1 ∧ f x.2
  | x :: y :: r => (j = x.1 ∧ f x.2) ∨ orJ j f (y :: r)
def lookAll (fr : Fr) : List (Nat × Value) → Option (List Value)
  | [] => some []
  | x :: r => match look fr x.1, lookAll fr r with
    | some v, some vs => some (v :: vs)
    | _, _ => none
/-- the slots' values, if they have their forms -/
def ENT (mods : List (Nat × Value)) (fr : Fr) (k : List Value → Prop) : Prop :=
  match lookAll fr mods with
  | some s => bif likeM (mods.map (·.2)) s then k s else False
  | none => False
def keepFr (fr : Fr) : List Nat → Fr
  | [] => []
  | i :: r => match look fr i with
    | some v => (i, v) :: keepFr fr r
    | none => keepFr fr r
def frameOf (mods : List (Nat × Value)) (s : List Value) (rest : Fr) : Fr :=
  match mods, s with
  | m :: ms, v :: vs => (m.1, v) :: frameOf ms vs rest
  | _, _ => rest
def keepOk (c : Code) (keep : List Nat) : Bool := keep.all fun i => !writes i c
def LOOPV (zs : List Value) (body : List Value → (List Value → World → Prop) → World → Prop) (ent : (List Value → Prop) → Prop) (w : World) : Prop :=
  ∃ (Inv : List Value → World → Prop) (mu : List Value → World → Nat), ent (fun s => Inv s w) ∧
    ALLM zs fun s => ∀ w, Inv s w → body s (fun s' w' => Inv s' w' ∧ mu s' w' < mu s w) w
def CUTV (zs : List Value) (before : (List Value → World → Prop) → Prop) (behind : List Value → World → Prop) : Prop :=
  ∃ Y : List Value → World → Prop, before Y ∧ ALLM zs fun s => ∀ w, Y s w → behind s w

def LOOPM (zs : List Value) (body : List Value → List Nat → (List Value → List Nat → World → Prop) → World → Prop) (ent : (List Value → Prop) → Prop) (ms : List Nat) (w : World) : Prop :=
  ∃ (Inv : List Value → List Nat → World → Prop) (mu : List Value → World → Nat), ent (fun s => Inv s ms w) ∧
    ALLM zs fun s => ∀ ms w, Inv s ms w → body s ms (fun s' ms' w' => Inv s' ms' w' ∧ mu s' w' < mu s w) w
def CUTM (zs : List Value) (before : (List Value → List Nat → World → Prop) → Prop) (behind : List Value → List Nat → World → Prop) : Prop :=
  ∃ Y : List Value → List Nat → World → Prop, before Y ∧ ALLM zs fun s => ∀ ms w, Y s ms w → behind s ms w

/-! ## A range over a function -/
/-- a round begins: the loop's record was ready, and is busy -/
def BEGR (rr : Loop) (l : Nat) (k : World → Prop) (w : World) : Prop :=
  w.heap[l]? = some (.loop rr) ∧ k (w.putObj l (.loop { rr with state := .busy }))
/-- a round ends, with or without a jump -/
def ENDR (rr : Loop) (l : Nat) (k : Bool → World → Prop) (j : Option Code) (w : World) : Prop :=
  w.heap[l]? = some (.loop { rr with state := .busy }) ∧ k j.isNone (w.putObj l (.loop { rr with state := if j.isNone then .ready else .done, pending := j }))
/-- the function that was ranged over has returned -/
def ENDL (rr : Loop) (l : Nat) (k : Option Code → World → Prop) (w : World) : Prop :=
  ∃ j, w.heap[l]? = some (.loop { rr with state := if j.isNone then .ready else .done, pending := j }) ∧ k j (w.putObj l (.loop { rr with state := .exhausted, pending := j }))
def ROUNDS (P : Program) (zs : List Value) (rnd : Loop → Nat → List Value → (Option Code → World → Prop) → World → Prop) (f : FuncId) (fi ca : Array Value) (K : Option Code → World → Prop) (rr : Loop) (l : Nat) (w : World) : Prop :=
  (ALLM zs fun vs => ∀ (k : Bool → World → Prop) (w : World), w.heap[l]? = some (.loop rr) → rnd rr l vs (ENDR rr l k) w → YLD P l ⟨vs⟩ k w) →
    Calls P f ⟨fi.toList ++ [.func (.yield l) #[] #[]] ++ ca.toList⟩ w fun e w' => (∃ v, e = .returned v) ∧ ENDL rr l K w'
def RANGE (P : Program) (rd : Option Nat) (zs : List Value) (v : Option Value) (rnd : Loop → Nat → List Value → (Option Code → World → Prop) → World → Prop) (K : List Nat → Option Code → World → Prop) (w : World) : Prop :=
  FUNV v fun f fi ca => enters P f = true ∧
    match rd with
    | none => ∀ rr : Loop, rr.state = .ready → rr.pending = none → ROUNDS P zs rnd f fi ca (K [w.heap.size]) rr (w.heap.size + 1) ((w.alloc (.deferred (some []))).alloc (.loop rr))
    | some lo => (∃ ro, w.heap[lo]? = some (.loop ro)) ∧ ∀ rr : Loop, rr.state = .ready → rr.pending = none → ROUNDS P zs rnd f fi ca (K []) rr w.heap.size (w.alloc (.loop rr))
def putAll (n : Nat) (fr : Fr) : List Nat → List Value → Fr
  | p :: ps, v :: vs => putAll n (put n fr (some p) v) ps vs
  | _, _ => fr
def natsB : List Nat → List Nat → Bool
  | [], [] => true
  | x :: r, y :: s => Nat.beq x y && natsB r s
  | _, _ => false

def den (P : Program) (n : Nat) (L C : Hints) : Code → Option Nat → (Exit → Fr → List Nat → World → Prop) → Fr → List Nat → World → Prop
  | .skip, _, K, fr, ms, w => K .normal fr ms w
  | .label _, _, K, fr, ms, w => K .normal fr ms w
  | .exit id, _, K, fr, ms, w => K (.exit id) fr ms w
  | .ret, _, K, fr, ms, w => K .ret fr ms w
  | .seq a b, rd, K, fr, ms, w =>
    match hintAt C (firstRegion b) with
    | none => den P n L C a rd (fun e fr' ms' w' => match e with
        | .normal => den P n L C b rd K fr' ms' w'
        | e => K e fr' ms' w') fr ms w
    | some h => bif keepOk a h.keep then
        (bif noRange a then
          CUTV (h.mods.map (·.2)) (fun Y => den P n L C a rd (fun e fr' ms' w' => match e with
            | .normal => ENT h.mods fr' fun s => Y s w'
            | e => K e fr' ms' w') fr ms w) (fun s w' => den P n L C b rd K (frameOf h.mods s (keepFr fr h.keep)) ms w')
        else
          CUTM (h.mods.map (·.2)) (fun Y => den P n L C a rd (fun e fr' ms' w' => match e with
            | .normal => ENT h.mods fr' fun s => Y s ms' w'
            | e => K e fr' ms' w') fr ms w) (fun s ms' w' => den P n L C b rd K (frameOf h.mods s (keepFr fr h.keep)) ms' w'))
      else False
  | .cond c a b, rd, K, fr, ms, w =>
    (match evalO fr c with
    | some (.bool t) => (match c with
      | .tmp i => IFB t (den P n L C a rd K ((i, .bool true) :: fr) ms w) (den P n L C b rd K ((i, .bool false) :: fr) ms w)
      | _ => IFB t (den P n L C a rd K fr ms w) (den P n L C b rd K fr ms w))
    | _ => False)
  | .block id c, rd, K, fr, ms, w => den P n L C c rd (fun e fr' ms' w' => match e with
      | .exit j => bif Nat.beq j id then K .normal fr' ms' w' else K (.exit j) fr' ms' w'
      | e => K e fr' ms' w') fr ms w
  | .loop c, rd, K, fr, ms, w =>
    (match hintAt L (firstRegion c) with
    | none => False
    | some h => bif keepOk c h.keep then
        (bif noRange c then
          LOOPV (h.mods.map (·.2)) (fun s k w' => den P n L C c rd (fun e fr' ms' w'' => match e with
            | .normal => ENT h.mods fr' fun s' => k s' w''
            | e => K e fr' ms' w'') (frameOf h.mods s (keepFr fr h.keep)) ms w') (ENT h.mods fr) w
        else
          LOOPM (h.mods.map (·.2)) (fun s ms' k w' => den P n L C c rd (fun e fr' ms'' w'' => match e with
            | .normal => ENT h.mods fr' fun s' => k s' ms'' w''
            | e => K e fr' ms'' w'') (frameOf h.mods s (keepFr fr h.keep)) ms' w') (ENT h.mods fr) ms w)
      else False)
  | .scope c, rd, K, fr, ms, w => den P n L C c rd (fun e fr' ms' w' => match e with
      | .goto _ => False
      | e => K e fr' ms' w') fr ms w
  | .region _ ops false, _, K, fr, ms, w => dOps P n ops ops.toList fr (fun fr' w' => K .normal fr' ms w') w
  | .region _ ops true, _, K, fr, ms, w => bif Region.noSelect ops then DRAW (fun w' => dDraw P n ops ops.size (Array.replicate ops.size false) [] fr (fun fr' w'' => K .normal fr' ms w'') w') w else False
  | .rangeFunc g ps assign body, rd, K, fr, ms, w =>
    (match hintAt L ((firstRegion assign).or (firstRegion body)) with
    | none => False
    | some h => bif natsB (h.mods.map (·.1)) ps.toList && noRange assign then
        RANGE P rd (h.mods.map (·.2)) (evalO fr g)
          (fun rr l vs c w' => den P n L C assign (some l) (fun e fr1 _ w1 => match e with
            | .normal => BEGR rr l (fun w2 => den P n L C body (some l) (fun e _ _ w3 => match e with
              | .normal => c none w3
              | .ret => c (some .ret) w3
              | .exit i => c (some (.exit i)) w3
              | _ => False) fr1 [] w2) w1
            | _ => False) (putAll n fr ps.toList vs) [] w')
          (fun ms' j w' => orJ j (fun e => K e fr (ms' ++ ms) w') (jumpsOf body)) w
      else False)
  | _, _, _, _, _, _ => False

/-! ## A function -/
def argFr : Nat → List Value → Fr
  | _, [] => []
  | i, v :: vs => (i, v) :: argFr (i + 1) vs
def resD (P : Program) (fr : Fr) : List ResultVar → (List Value → World → Prop) → World → Prop
  | [], k, w => k [] w
  | .tmp t :: r, k, w => VAL (look fr t) fun v => resD P fr r (fun vs w => k (v :: vs) w) w
  | .cell a t :: r, k, w => loadD P t (look fr a) (fun v _ => resD P fr r (fun vs w => k (v :: vs) w) w) w
def oneOrTuple : List Value → Value
  | [v] => v
  | vs => .tuple ⟨vs⟩
/-- the marks of the loops over functions are taken off -/
def SHUT : List Nat → (World → Prop) → World → Prop
  | [], k, w => k w
  | d :: ds, k, w => w.heap[d]? = some (.deferred (some [])) ∧ SHUT ds k (w.putObj d (.deferred none))
def dFun (P : Program) (L C : Hints) (f : FuncId) (args : List Value) (k : Value → World → Prop) (w : World) : Prop :=
  match P.funcs[f]? with
  | some fn =>
    (match fn.body with
    | some c => bif Nat.ble args.length fn.ntmps then den P fn.ntmps L C c none (fun e fr ms w' => match e with
        | .normal => SHUT ms (fun w' => resD P fr fn.results.toList (fun vs w'' => k (oneOrTuple vs) w'') w') w'
        | .ret => SHUT ms (fun w' => resD P fr fn.results.toList (fun vs w'' => k (oneOrTuple vs) w'') w') w'
        | _ => False) (argFr 0 args) [] w else False
    | none => False)
  | none => False

end Go.Dn
