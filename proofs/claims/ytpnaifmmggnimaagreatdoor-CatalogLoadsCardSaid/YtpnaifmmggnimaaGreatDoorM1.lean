/-
  Texts of this claim, laid one behind the other by a program of mine (install.py): Dn.Def, Dn.Nums, Dn.Fin, Dn.Fin2, Dn.Facts, Dn.Ops, Dn.Ops2, Dn.Sound, Dn.Draw.
-/
import Derived.Orders
import Derived.Laws.World
import Derived.Laws.Sem
import Derived.KernelRfl
import Derived.RangeFuncRecord
import GoSem.Claim
import Derived.Handed
import Derived.SizedLaws
import Derived.HandedShaped
import Derived.LaidSub
import Derived.Lib.LaidTab
import Derived.Shelf.Vars
import Derived.MakeChecks
import Derived.JoinedOf
import Derived.Laws.Cells
import Derived.Laws.StructEq
import Derived.Laws.Rows
import Derived.OrdersHeld
import Derived.OrdersIn
namespace Go.Dn
set_option linter.unusedVariables false
set_option maxRecDepth 100000
abbrev Fr := List (Nat × Value)
def look : Fr → Nat → Option Value
  | [], _ => none
  | x :: r, i => bif Nat.beq x.1 i then some x.2 else look r i
def put (n : Nat) (fr : Fr) (d : Option Nat) (v : Value) : Fr :=
  match d with
  | none => fr
  | some d => bif Nat.blt d n then (d, v) :: fr else fr
def evalO (fr : Fr) : Operand → Option Value
  | .tmp t => look fr t
  | .const v => some v
  | .global g => some (.pointer (some ⟨g, 0, none⟩))
  | .func f => some (.func (.func f) #[] #[])
/-! ## Small combinators -/
def VAL (x : Option Value) (k : Value → Prop) : Prop :=
  match x with
  | some v => k v
  | none => False
def IFB (b : Bool) (x y : Prop) : Prop :=
  match b with
  | true => x
  | false => y
def PTR (p : Option Addr) (k : Addr → Prop) : Prop :=
  match p with
  | some a => k a
  | none => False
def BOOLV (x : Option Value) (k : Bool → Prop) : Prop :=
  match x with
  | some (.bool b) => k b
  | _ => False
def INTV (x : Option Value) (k : IntKind → Int → Prop) : Prop :=
  match x with
  | some (.int kd n) => k kd n
  | _ => False
def PTRV (x : Option Value) (k : Addr → Prop) : Prop :=
  match x with
  | some (.pointer p) => PTR p k
  | _ => False
def FUNV (x : Option Value) (k : FuncId → Array Value → Array Value → Prop) : Prop :=
  match x with
  | some (.func (.func g) fi ca) => k g fi ca
  | _ => False
def DYNV (x : Option Value) (k : FuncId → Array Value → Array Value → Prop) (y : Nat → Prop) : Prop :=
  match x with
  | some (.func (.func g) fi ca) => k g fi ca
  | some (.func (.yield l) fi ca) => bif fi.toList.isEmpty && ca.toList.isEmpty then y l else False
  | _ => False
/-! ## Typed opening -/
def LIKE1 (z : Value) (f : Value → Prop) : Prop :=
  match z with
  | .int kd _ => ∃ n : Int, f (.int kd n)
  | .bool _ => ∃ b : Bool, f (.bool b)
  | .string _ => ∃ s : ByteArray, f (.string s)
  | .pointer _ => ∃ p : Option Addr, f (.pointer p)
  | .slice _ _ _ => ∃ (p : Option Addr) (l c : Nat), f (.slice p l c)
  | .map _ => ∃ r : Option Nat, f (.map r)
  | .nilFunc => ∃ (g : FuncId) (fi ca : Array Value), f (.func (.func g) fi ca)
  | _ => ∃ v : Value, f v
def LIKEY (z : Value) (f : Value → Prop) : Prop :=
  match z with
  | .nilFunc => (∃ (g : FuncId) (fi ca : Array Value), f (.func (.func g) fi ca)) ∨ (∃ l : Nat, f (.func (.yield l) #[] #[]))
  | z => LIKE1 z f
def LIKEL : List Value → (List Value → Prop) → Prop
  | [], f => f []
  | z :: zs, f => LIKE1 z fun v => LIKEL zs fun vs => f (v :: vs)
def LIKE (z : Value) (f : Value → Prop) : Prop :=
  match z with
  | .agg zs => LIKEL zs.toList fun vs => f (.agg ⟨vs⟩)
  | z => LIKE1 z f
def LIKEM : List Value → (List Value → Prop) → Prop
  | [], f => f []
  | z :: zs, f => LIKE z fun v => LIKEM zs fun vs => f (v :: vs)
def LIKER (z : Value) (f : Value → Prop) : Prop :=
  match z with
  | .tuple zs => LIKEM zs.toList fun vs => f (.tuple ⟨vs⟩)
  | z => LIKE z f
def LIKED (d : Bool) (z : Value) (f : Value → Prop) : Prop :=
  match z with
  | .nilFunc => (match d with
    | true => (∃ (g : FuncId) (fi ca : Array Value), f (.func (.func g) fi ca)) ∨ f .nilFunc
    | false => LIKER .nilFunc f)
  | z => LIKER z f
def isTmpO : Operand → Bool
  | .tmp _ => true
  | _ => false
def ALL1 (z : Value) (f : Value → Prop) : Prop :=
  match z with
  | .int kd _ => ∀ n : Int, f (.int kd n)
  | .bool _ => ∀ b : Bool, f (.bool b)
  | .string _ => ∀ s : ByteArray, f (.string s)
  | .pointer _ => ∀ p : Option Addr, f (.pointer p)
  | .slice _ _ _ => ∀ (p : Option Addr) (l c : Nat), f (.slice p l c)
  | .map _ => ∀ r : Option Nat, f (.map r)
  | .nilFunc => ∀ (g : FuncId) (fi ca : Array Value), f (.func (.func g) fi ca)
  | _ => ∀ v : Value, f v
def ALLL : List Value → (List Value → Prop) → Prop
  | [], f => f []
  | z :: zs, f => ALL1 z fun v => ALLL zs fun vs => f (v :: vs)
def ALLV (z : Value) (f : Value → Prop) : Prop :=
  match z with
  | .agg zs => ALLL zs.toList fun vs => f (.agg ⟨vs⟩)
  | z => ALL1 z f
def ALLM : List Value → (List Value → Prop) → Prop
  | [], f => f []
  | z :: zs, f => ALLV z fun v => ALLM zs fun vs => f (v :: vs)
def intKindB : IntKind → IntKind → Bool
  | .i8, .i8 | .i16, .i16 | .i32, .i32 | .i64, .i64 | .u8, .u8 | .u16, .u16 | .u32, .u32 | .u64, .u64 => true
  | _, _ => false
def like1 (z v : Value) : Bool :=
  match z with
  | .int kd _ => match v with | .int kd' _ => intKindB kd kd' | _ => false
  | .bool _ => match v with | .bool _ => true | _ => false
  | .string _ => match v with | .string _ => true | _ => false
  | .pointer _ => match v with | .pointer _ => true | _ => false
  | .slice _ _ _ => match v with | .slice _ _ _ => true | _ => false
  | .map _ => match v with | .map _ => true | _ => false
  | .nilFunc => match v with | .func (.func _) _ _ => true | _ => false
  | _ => true
def likeL : List Value → List Value → Bool
  | [], [] => true
  | z :: zs, v :: vs => like1 z v && likeL zs vs
  | _, _ => false
def likeV (z v : Value) : Bool :=
  match z with
  | .agg zs => match v with | .agg vs => likeL zs.toList vs.toList | _ => false
  | z => like1 z v
def likeM : List Value → List Value → Bool
  | [], [] => true
  | z :: zs, v :: vs => likeV z v && likeM zs vs
  | _, _ => false
/-! ## Memory -/
def NEWB (cells : Array Value) (t : TypeId) (k : Nat → World → Prop) (w : World) : Prop := k w.heap.size (w.alloc (.cells cells t))
def DRAW (k : World → Prop) (w : World) : Prop := k w.drew
def LOADC : List Value → Addr → Nat → (List Value → Prop) → World → Prop
  | [], _, _, k, _ => k []
  | z :: zs, a, i, k, w => LIKEY z fun v => w.cell? (a.add i) = some v ∧ LOADC zs a (i + 1) (fun vs => k (v :: vs)) w
def STO (a : Addr) (v : Value) (k : World → Prop) (w : World) : Prop :=
  (w.cell? a).isSome = true ∧ w.frozen? a = false ∧ k (w.setCell a v)
def STOREC : List Value → Addr → Nat → (World → Prop) → World → Prop
  | [], _, _, k, w => k w
  | v :: vs, a, i, k, w => bif v.oneCell' then STO (a.add i) v (fun w' => STOREC vs a (i + 1) k w') w else False
/-! ## Pure semantics -/
def runPure {α : Type} (P : Program) : Sem α → Option α
  | .pure a => some a
  | .program k => runPure P (k P)
  | .mark _ k => runPure P k
  | _ => none
def rho (e : Operand → Option Value) (x : Operand) : Value := (e x).getD undef
def known (e : Operand → Option Value) (o : Oper) : Bool := o.op.operands.toList.all fun x => (e x).isSome
def intOp (op : BinOp) (k k' : IntKind) (a b : Int) (K : Value → Prop) : Prop :=
  match op with
  | .shl => 0 ≤ b ∧ K (.int k (k.wrap (a * 2 ^ (min b.toNat k.bits))))
  | .shr => 0 ≤ b ∧ K (.int k (a.fdiv (2 ^ (min b.toNat k.bits))))
  | op => bif intKindB k k' then
    match op with
    | .add => K (.int k (k.wrap (a + b)))
    | .sub => K (.int k (k.wrap (a - b)))
    | .mul => K (.int k (k.wrap (a * b)))
    | .quo => b ≠ 0 ∧ K (.int k (k.wrap (a.tdiv b)))
    | .rem => b ≠ 0 ∧ K (.int k (a.tmod b))
    | .and => K (.int k (k.wrap (BitVec.ofInt k.bits a &&& BitVec.ofInt k.bits b).toNat))
    | .or => K (.int k (k.wrap (BitVec.ofInt k.bits a ||| BitVec.ofInt k.bits b).toNat))
    | .xor => K (.int k (k.wrap (BitVec.ofInt k.bits a ^^^ BitVec.ofInt k.bits b).toNat))
    | .andNot => K (.int k (k.wrap (BitVec.ofInt k.bits a &&& ~~~(BitVec.ofInt k.bits b)).toNat))
    | .eql => K (.bool (a == b))
    | .neq => K (.bool (a != b))
    | .lss => K (.bool (decide (a < b)))
    | .leq => K (.bool (decide (a ≤ b)))
    | .gtr => K (.bool (decide (a > b)))
    | .geq => K (.bool (decide (a ≥ b)))
    | _ => False
  else False
def intOpC (op : BinOp) (k k' : IntKind) (a b : Int) (K : Value → Prop) : Prop :=
  match op with
  | .shl => bif decide (0 ≤ b) then K (.int k (k.wrap (a * 2 ^ (min b.toNat k.bits)))) else False
  | .shr => bif decide (0 ≤ b) then K (.int k (a.fdiv (2 ^ (min b.toNat k.bits)))) else False
  | .quo => bif decide (b = 0) then False else bif intKindB k k' then K (.int k (k.wrap (a.tdiv b))) else False
  | .rem => bif decide (b = 0) then False else bif intKindB k k' then K (.int k (a.tmod b)) else False
  | op => intOp op k k' a b K
def bytesEq (a b : ByteArray) : Bool := a.toList == b.toList
def bytesLt (a b : ByteArray) : Bool := Op.bytesLess a.toList b.toList
def strOp (op : BinOp) (a b : ByteArray) (K : Value → Prop) : Prop :=
  match op with
  | .add => a.size + b.size ≤ 9223372036854775807 ∧ K (.string (a ++ b))
  | .eql => K (.bool (bytesEq a b))
  | .neq => K (.bool (!bytesEq a b))
  | .lss => K (.bool (bytesLt a b))
  | .leq => K (.bool (bytesLt a b || bytesEq a b))
  | .gtr => K (.bool (!(bytesLt a b || bytesEq a b)))
  | .geq => K (.bool (!bytesLt a b))
  | _ => False
def partV (P : Program) (t : TypeId) (cs : Array Value) (off : Nat) : Option Value :=
  match P.underlying t with
  | some (.struct _) => some (.agg (cs.extract off (off + P.cellsOf t)))
  | some .bool | some (.int _) | some .string => cs[off]?
  | _ => none
def eqFs (P : Program) (eq : TypeId → Value → Value → Option Bool) (xs ys : Array Value) : List Field → Option Bool
  | [] => some true
  | f :: fs => bif f.name == "_" then none else
    match partV P f.type xs f.offset, partV P f.type ys f.offset with
    | some x, some y =>
      (match eq f.type x y, eqFs P eq xs ys fs with
      | some b, some c => some (b && c)
      | _, _ => none)
    | _, _ => none
def eqV (P : Program) : Nat → TypeId → Value → Value → Option Bool
  | 0, _, _, _ => none
  | d + 1, t, x, y =>
    match P.underlying t with
    | some .bool => (match x, y with
      | .bool a, .bool b => some (a == b)
      | _, _ => none)
    | some (.int _) => (match x, y with
      | .int k a, .int k' b => bif intKindB k k' then some (a == b) else none
      | _, _ => none)
    | some .string => (match x, y with
      | .string a, .string b => some (a == b)
      | _, _ => none)
    | some (.struct fs) => (match x, y with
      | .agg xs, .agg ys => bif P.stoodInHeld t then none else eqFs P (eqV P d) xs ys fs.toList
      | _, _ => none)
    | _ => none
def isNeg : BinOp → Option Bool
  | .eql => some false
  | .neq => some true
  | _ => none
def eqOut (neg : Bool) (b : Bool) : Value := .bool (bif neg then !b else b)
def eqOp2 (P : Program) (op : BinOp) (t : TypeId) (x y : Value) (K : Value → Prop) : Prop :=
  match isNeg op with
  | none => False
  | some neg =>
    match x, y with
    | .bool a, .bool b => bif (match P.underlying t with | some .bool => true | _ => false) then K (eqOut neg (a == b)) else False
    | .pointer p, .pointer none => bif (match P.underlying t with | some (.pointer _) => true | _ => false) then K (eqOut neg p.isNone) else False
    | .slice p _ _, .slice none _ _ => bif (match P.underlying t with | some (.slice _) => true | _ => false) then K (eqOut neg p.isNone) else False
    | .map p, .map none => bif (match P.underlying t with | some (.map _ _) => true | _ => false) then K (eqOut neg p.isNone) else False
    | .nilFunc, .nilFunc => bif (match P.underlying t with | some (.func _ _ _) => true | _ => false) then K (eqOut neg true) else False
    | .func _ _ _, .nilFunc => bif (match P.underlying t with | some (.func _ _ _) => true | _ => false) then K (eqOut neg false) else False
    | .agg xs, .agg ys => bif P.eqGuardType P.depth t then False else (match eqV P 5 t (.agg xs) (.agg ys) with | some b => K (eqOut neg b) | none => False)
    | _, _ => False
def isIfaceT (P : Program) (t : TypeId) : Bool :=
  match P.underlying t with
  | some (.interface _) => true
  | _ => false
def IFACEV (x : Value) (k : Bool → Prop) : Prop :=
  match x with
  | .nilIface => k true
  | .iface _ _ => k false
  | _ => False
def negOp (op : BinOp) (k : Bool → Prop) : Prop :=
  match isNeg op with
  | none => False
  | some neg => k neg
def eqOp (P : Program) (c : Bool) (op : BinOp) (t : TypeId) (x y : Value) (K : Value → Prop) : Prop :=
  match y with
  | .nilIface => negOp op fun neg => bif c && isIfaceT P t then IFACEV x (fun b => K (eqOut neg b)) else False
  | y => eqOp2 P op t x y K
def isConstO : Operand → Bool
  | .const _ => true
  | _ => false
def binD2 (P : Program) (e : Operand → Option Value) (op : BinOp) (t : TypeId) (x y : Operand) (K : Value → Prop) : Prop :=
  match e x, e y with
  | some (.int k a), some (.int k' b) => bif isConstO y then intOpC op k k' a b K else intOp op k k' a b K
  | some (.string a), some (.string b) => strOp op a b K
  | some u, some v => eqOp P (isConstO y) op t u v K
  | _, _ => False
def binD (P : Program) (e : Operand → Option Value) (op : BinOp) (t : TypeId) (x y : Operand) (K : Value → Prop) : Prop :=
  match e y with
  | some .nilIface => VAL (e x) fun u => eqOp P (isConstO y) op t u .nilIface K
  | _ => binD2 P e op t x y K
def SLA (a : Option Addr) (l m size : Nat) : Option Addr := if m = l then a else a.map (·.add (l * size))
def sget (s : ByteArray) (i : Nat) : UInt8 := s.data.toList.getD i 0
def boundV (e : Operand → Option Value) (x : Option Operand) (d : Nat) (k : Int → Prop) : Prop :=
  match x with
  | none => k d
  | some o => match e o with
    | some (.int _ n) => k n
    | _ => False
def elOk (P : Program) (t : TypeId) : Bool := (P.info? t).isSome
def sliceD (P : Program) (e : Operand → Option Value) (t : TypeId) (x : Operand) (lo hi mx : Option Operand) (K : Value → Prop) : Prop :=
  match P.underlying t, e x, mx with
  | some .string, some (.string s), none =>
    boundV e hi s.size fun h => boundV e lo 0 fun l => (0 ≤ l ∧ l ≤ h ∧ h ≤ s.size) ∧ K (.string (s.extract l.toNat h.toNat))
  | some (.slice el), some (.slice a len cap), none => bif elOk P el then
    boundV e hi len fun h => boundV e lo 0 fun l => (0 ≤ l ∧ l ≤ h ∧ h ≤ cap) ∧ K (.slice (SLA a l.toNat cap (P.cellsOf el)) (h.toNat - l.toNat) (cap - l.toNat)) else False
  | some (.slice el), some (.slice a _ cap), some mo => bif elOk P el then
    match hi with
    | none => False
    | some _ => boundV e (some mo) 0 fun m => boundV e hi 0 fun h => boundV e lo 0 fun l => (0 ≤ l ∧ l ≤ h ∧ h ≤ m ∧ m ≤ cap) ∧ K (.slice (SLA a l.toNat m.toNat (P.cellsOf el)) (h.toNat - l.toNat) (m.toNat - l.toNat)) else False
  | some (.array n el), some (.pointer p), none => bif elOk P el then PTR p fun a =>
    boundV e hi n fun h => boundV e lo 0 fun l => (0 ≤ l ∧ l ≤ h ∧ h ≤ n) ∧ K (.slice (SLA (some a) l.toNat n (P.cellsOf el)) (h.toNat - l.toNat) (n - l.toNat)) else False
  | _, _, _ => False
def indexAddrD (P : Program) (e : Operand → Option Value) (t : TypeId) (x i : Operand) (K : Value → Prop) : Prop :=
  match P.underlying t, e x with
  | some (.slice el), some (.slice p len _) => bif elOk P el then INTV (e i) fun _ n => (0 ≤ n ∧ n < len) ∧ PTR p fun a => K (.pointer (some (a.add (n.toNat * P.cellsOf el)))) else False
  | some (.array len el), some (.pointer p) => bif elOk P el then INTV (e i) fun _ n => bif isConstO i then (bif decide (0 ≤ n ∧ n < len) then PTR p fun a => K (.pointer (some (a.add (n.toNat * P.cellsOf el)))) else False) else (0 ≤ n ∧ n < len) ∧ PTR p fun a => K (.pointer (some (a.add (n.toNat * P.cellsOf el)))) else False
  | _, _ => False
def zeroOf (P : Program) (t : TypeId) : Option Value :=
  match P.info? t with
  | some i => i.zero
  | none => none
def isAggT (P : Program) (t : TypeId) : Bool :=
  match P.underlying t with
  | some (.struct _) | some (.array _ _) => true
  | _ => false
def partD (P : Program) (t : TypeId) (cs : List Value) (off : Nat) (K : Value → Prop) : Prop :=
  match zeroOf P t with
  | none => False
  | some z =>
    bif isAggT P t then LIKEL z.cells.toList fun vs => (cs.drop off).take (P.cellsOf t) = vs ∧ K (.agg ⟨vs⟩)
    else bif (P.underlying t).isSome then LIKE1 z fun v => cs[off]? = some v ∧ K v else False
def indexD (P : Program) (e : Operand → Option Value) (t : TypeId) (x i : Operand) (K : Value → Prop) : Prop :=
  match P.underlying t, e x with
  | some .string, some (.string s) => INTV (e i) fun _ n => (0 ≤ n ∧ n < s.size) ∧ K (.int .u8 (sget s n.toNat).toNat)
  | some (.array len el), some (.agg cs) => INTV (e i) fun _ n => (0 ≤ n ∧ n < len) ∧ partD P el cs.toList (n.toNat * P.cellsOf el) K
  | _, _ => False
def fieldAddrD (P : Program) (e : Operand → Option Value) (s : TypeId) (x : Operand) (f : Nat) (K : Value → Prop) : Prop :=
  match P.underlying s with
  | some (.struct fs) =>
    match fs[f]? with
    | some fl => bif Nat.beq (P.cellsOf fl.type) 0 then False else PTRV (e x) fun a => K (.pointer (some (a.add fl.offset)))
    | none => False
  | _ => False
def nilD (x : Option Value) (K : Value → Prop) : Prop :=
  match x with
  | some (.pointer p) => PTR p fun a => K (.pointer (some a))
  | some (.func (.func f) u c) => K (.func (.func f) u c)
  | some (.func (.yield l) u c) => K (.func (.yield l) u c)
  | _ => False
def defaultD (P : Program) (e : Operand → Option Value) (o : Oper) (K : Value → Prop) : Prop :=
  bif known e o then
    match runPure P (execOp (rho e) o) with
    | some (.value v) => K v
    | _ => False
  else False
def dPure (P : Program) (e : Operand → Option Value) (o : Oper) (K : Value → Prop) : Prop :=
  match o.op with
  | .move x => VAL (e x) K
  | .assign x => VAL (e x) K
  | .pick c a b => BOOLV (e c) fun t => IFB t (VAL (e a) K) (VAL (e b) K)
  | .nilCheck x => nilD (e x) K
  | .binOp op t x y _ => binD P e op t x y K
  | .fieldAddr s x f => fieldAddrD P e s x f K
  | .indexAddr t x i => indexAddrD P e t x i K
  | .index t x i => indexD P e t x i K
  | .slice t x lo hi mx => sliceD P e t x lo hi mx K
  | _ => defaultD P e o K
def isIntT (P : Program) (t : TypeId) : Bool :=
  match P.underlying t with
  | some (.int _) => true
  | _ => false
def lenPure (P : Program) (ts : Array TypeId) : Bool :=
  match ts.toList with
  | t :: _ => match P.underlying t with
    | some .string | some (.slice _) | some (.array _ _) => true
    | _ => false
  | [] => false
def isPtrT (P : Program) (t : TypeId) : Bool :=
  match P.underlying t with
  | some (.pointer _) => true
  | _ => false
def isPure (P : Program) (o : Oper) : Bool :=
  match o.op with
  | .move _ | .assign _ | .pick _ _ _ | .nilCheck _ | .fieldAddr _ _ _ | .indexAddr _ _ _ | .index _ _ _ | .slice _ _ _ _ _ => true
  | .binOp _ t _ y _ => !(isPtrT P t) || isConstO y
  | .unOp _ _ _ | .field _ _ _ | .extract _ _ | .makeFunc _ _ _ | .makeInterface _ _ | .build _ _ => true
  | .convert s d _ => isIntT P s && isIntT P d
  | .call { callee := .builtin b, argTypes, .. } =>
    match b with
    | .len | .cap => lenPure P argTypes
    | .min | .max => true
    | _ => false
  | _ => false
/-! ## Reads -/
abbrev Held := List (Addr × Value)
def heldAt (a : Addr) : List Value → Nat → Held
  | [], _ => []
  | v :: vs, i => (a.add i, v) :: heldAt a vs (i + 1)
def loadD (P : Program) (t : TypeId) (x : Option Value) (k : Value → Held → Prop) (w : World) : Prop :=
  match zeroOf P t with
  | none => False
  | some z =>
    bif isAggT P t then
      (bif Nat.beq (P.cellsOf t) z.cells.toList.length then PTRV x fun a => LOADC z.cells.toList a 0 (fun vs => k (.agg ⟨vs⟩) (heldAt a vs 0)) w else False)
    else bif (P.underlying t).isSome then PTRV x fun a => LOADC [z] a 0 (fun vs => k (vs.headD undef) (heldAt a vs 0)) w else False
/-! ## What acts -/
abbrev Pan := Option (List PanicEntry → World → Prop)
def panK (kp : Pan) (ch : List PanicEntry) (w : World) : Prop :=
  match kp with
  | none => False
  | some p => p ch w
def CALLK (P : Program) (kp : Pan) (d : Bool) (f : FuncId) (args : Array Value) (z : Value) (k : Value → World → Prop) (w : World) : Prop :=
  match kp with
  | none => Calls P f args w fun e w' => LIKED d z fun v => e = .returned v ∧ k v w'
  | some p => Calls P f args w fun e w' => (LIKED d z fun v => e = .returned v ∧ k v w') ∨ ∃ ch, e = .panicked ch ∧ p ch w'
def PANV (kp : Pan) (x : Option Value) (w : World) : Prop :=
  match kp with
  | none => False
  | some p => match x with
    | some (.iface t v) => p [{ v := .iface t v, recovered := false }] w
    | _ => False
def OPQ (P : Program) (s : Sem Value) (z : Value) (k : Value → World → Prop) (w : World) : Prop :=
  match s.run P w with
  | .ok v w' => LIKER z fun u => v = u ∧ k u w'
  | .halt _ _ => False
def OPU (P : Program) (s : Sem Unit) (k : World → Prop) (w : World) : Prop :=
  match s.run P w with
  | .ok _ w' => k w'
  | .halt _ _ => False
def OPR (P : Program) (s : Sem Value) (f : Value → World → Prop) (w : World) : Prop :=
  match s.run P w with
  | .ok v w' => f v w'
  | .halt _ _ => False
def OPN (P : Program) (s : Sem Value) (k0 : World → Prop) (k1 : Value → Value → World → Prop) (w : World) : Prop :=
  match s.run P w with
  | .ok v w' => (v = .tuple #[.bool false] ∧ k0 w') ∨ (∃ x y : Value, v = .tuple #[.bool true, x, y] ∧ k1 x y w')
  | .halt _ _ => False
def YLD (P : Program) (l : Nat) (args : Array Value) (k : Bool → World → Prop) (w : World) : Prop :=
  ∃ f tmps assign body, (Instr.yield l args).run P w = .ok (.round l f tmps assign body) w ∧ RoundIn Fence.wide 0 P l f tmps assign body w fun e w' => ∃ t, e = .returned (.bool t) ∧ k t w'
def enters (P : Program) (f : FuncId) : Bool :=
  match P.funcs[f]? with
  | some fn => fn.body.isSome && !(fn.name == "runtime.NumGoroutine")
  | none => false
def evalL (e : Operand → Option Value) : List Operand → Option (List Value)
  | [] => some []
  | x :: xs => match e x, evalL e xs with
    | some v, some vs => some (v :: vs)
    | _, _ => none
def buildSliceCells (P : Program) (e : Operand → Option Value) (t : TypeId) (len : Nat) (parts : Array (Nat × Operand)) : Option (TypeId × Array Value) :=
  match P.underlying t with
  | some (.slice el) =>
    match P.info? el with
    | some i =>
      match i.zero with
      | some z => bif Nat.beq len 0 && parts.toList.isEmpty then some (el, #[]) else bif (Nat.blt (2 ^ 24) (len * i.size)) || (Nat.beq (len * i.size) 0) then none else
        (Instr.fill (fun j => some (j * i.size, i.size)) ((Array.range (len * i.size)).map (z.cells[· % z.cells.size]!)) (parts.toList.map fun p => (p.1, rho e p.2))).map fun c => (el, c)
      | none => none
    | none => none
  | _ => none
def dLoud (P : Program) (kp : Pan) (e : Operand → Option Value) (o : Oper) (k : Value → World → Prop) (w : World) : Prop :=
  match o.op with
  | .alloc t => (match zeroOf P t with
    | some z => NEWB z.cells t (fun b w' => k (.pointer (some ⟨b, 0, none⟩)) w') w
    | none => False)
  | .box t x => VAL (e x) fun v => NEWB v.cells t (fun b w' => k (.pointer (some ⟨b, 0, none⟩)) w') w
  | .buildSlice t len parts => bif known e o then
      (match buildSliceCells P e t len parts with
      | some (el, c) => NEWB c el (fun b w' => k (.slice (some ⟨b, 0, none⟩) len len) w') w
      | none => False) else False
  | .store t a x => VAL (e x) fun v => PTRV (e a) fun p => bif Nat.beq v.cells.size (P.cellsOf t) && elOk P t then STOREC v.cells.toList p 0 (fun w' => k undef w') w else False
  | .call c =>
    match c.callee with
    | .builtin b => bif known e o then
        (match zeroOf P o.type with
        | some z => (match b with
          | .append => OPQ P (Builtin.append_ c.argTypes o.type (c.args.map (rho e))) z k w
          | .copy => OPQ P (Builtin.copy_ c.argTypes o.type (c.args.map (rho e))) z k w
          | .len => OPQ P (Builtin.len_ c.argTypes o.type (c.args.map (rho e))) z k w
          | .clear => OPQ P (Builtin.clear_ c.argTypes o.type (c.args.map (rho e))) z k w
          | .delete => OPQ P (Builtin.delete_ c.argTypes o.type (c.args.map (rho e))) z k w
          | _ => False)
        | none => False) else False
    | .value f =>
      (match evalL e c.args.toList, zeroOf P o.type with
      | some vs, some z => DYNV (e f) (fun g first captured => bif enters P g then CALLK P kp (isTmpO f) g ⟨first.toList ++ vs ++ captured.toList⟩ z k w else False) (fun l => YLD P l ⟨vs⟩ (fun t w' => k (.bool t) w') w)
      | _, _ => False)
    | .invoke _ _ => False
  | .convert s d x => VAL (e x) fun v => (match zeroOf P o.type with
      | some z => OPQ P (convert s d v) z k w
      | none => False)
  | .makeSlice t l c => VAL (e l) fun u => VAL (e c) fun v => (match zeroOf P o.type with
      | some z => OPQ P (Instr.makeSlice t u v) z k w
      | none => False)
  | .makeMap t none => (match zeroOf P o.type with
      | some z => OPQ P (Instr.makeMap t none) z k w
      | none => False)
  | .lookup t x i ok => VAL (e x) fun u => VAL (e i) fun v => (match zeroOf P o.type with
      | some z => OPQ P (Instr.lookup t u v ok) z k w
      | none => False)
  | .mapUpdate t m i x => VAL (e m) fun u => VAL (e i) fun v => VAL (e x) fun y => OPU P (Instr.mapUpdate t u v y) (fun w' => k undef w') w
  | .range t x => VAL (e x) fun u => OPQ P (Instr.range t u) (.pointer none) k w
  | .next i s => VAL (e i) fun u => OPN P (Instr.next u s o.type) (fun w' => k (.tuple #[.bool false]) w') (fun x y w' => k (.tuple #[.bool true, x, y]) w') w
  | .entry i => VAL (e i) fun u => (match zeroOf P o.type with
      | some z => OPQ P (Instr.entry u) z k w
      | none => False)
  | .mapEntry t m i => VAL (e m) fun u => VAL (e i) fun v => OPQ P (Instr.mapEntry t u v) (.tuple #[.nilIface, .int .i64 0]) k w
  | .entryStore t m i x => VAL (e m) fun u => VAL (e i) fun v => VAL (e x) fun y => OPU P (Instr.entryStore t u v y) (fun w' => k undef w') w
  | .binOp op t x y _ => VAL (e x) fun u => VAL (e y) fun v => (match u, v with
      | .pointer p, .pointer q => OPQ P (binOp op t (.pointer p) (.pointer q)) (.bool false) k w
      | _, _ => False)
  | .panic x => PANV kp (e x) w
  | _ => False
inductive Cls where
  | pure | read | loud
  deriving DecidableEq
def clsB : Cls → Cls → Bool
  | .pure, .pure | .read, .read | .loud, .loud => true
  | _, _ => false
def cls (P : Program) (o : Oper) : Cls :=
  bif isPure P o then .pure else match o.op with
    | .load _ _ => .read
    | _ => .loud
def dOp (P : Program) (kp : Pan) (e : Operand → Option Value) (o : Oper) (k : Value → Held → World → Prop) (w : World) : Prop :=
  match cls P o with
  | .pure => dPure P e o fun v => k v [] w
  | .read => (match o.op with
    | .load t a => loadD P t (e a) (fun v h => k v h w) w
    | _ => False)
  | .loud => dLoud P kp e o (fun v w' => k v [] w') w
def compZ (P : Program) (d : Option Nat) (i : Nat) : List Oper → Value
  | [] => .nilIface
  | o :: r =>
    match o.op with
    | .extract (.tmp t) j => bif (match d with | some d => Nat.beq t d | none => false) && Nat.beq j i then (match zeroOf P o.type with | some z => z | none => .nilIface) else compZ P d i r
    | _ => compZ P d i r
def dOpR (P : Program) (kp : Pan) (e : Operand → Option Value) (o : Oper) (rest : List Oper) (k : Value → Held → World → Prop) (w : World) : Prop :=
  match o.op with
  | .entry i => VAL (e i) fun u => OPQ P (Instr.entry u) (.tuple #[compZ P o.dst 0 rest, compZ P o.dst 1 rest]) (fun v w' => k v [] w') w
  | _ => dOp P kp e o k w
def guardD (ops : Array Oper) (o : Oper) (fr : Fr) (A B : Fr → Prop) : Prop :=
  match o.guard with
  | none => A fr
  | some (j, want) =>
    match (ops[j]?).bind (·.dst) with
    | none => False
    | some d =>
      match look fr d with
      | some (.bool b) => IFB b (bif want then A ((d, .bool true) :: fr) else B ((d, .bool true) :: fr)) (bif want then B ((d, .bool false) :: fr) else A ((d, .bool false) :: fr))
      | some (.tuple _) => B fr
      | _ => False
def dOps (P : Program) (kp : Pan) (n : Nat) (ops : Array Oper) : List Oper → Fr → (Fr → World → Prop) → World → Prop
  | [], fr, K, w => K fr w
  | o :: rest, fr, K, w =>
    guardD ops o fr (fun fr => dOpR P kp (evalO fr) o rest (fun v _ w' => dOps P kp n ops rest (put n fr o.dst v) K w') w)
      (fun fr => dOps P kp n ops rest (put n fr o.dst undef) K w)
/-! ## A region that draws its order -/
def predsOf (ops : Array Oper) (j : Nat) : List Nat :=
  match ops[j]? with
  | some o => (o.after.toList.filter fun e => Region.binds .any e).map (·.on)
  | none => []
def predsDown (ops : Array Oper) : Nat → List Nat → List Nat
  | 0, s => s
  | k + 1, s => bif s.contains k then predsDown ops k (predsOf ops k ++ s) else predsDown ops k s
def predsStar (ops : Array Oper) (j : Nat) : List Nat := predsDown ops j (predsOf ops j)
def holds (h : Held) (w : World) : Prop :=
  match h with
  | [] => True
  | [x] => w.cell? x.1 = some x.2
  | x :: y :: r => w.cell? x.1 = some x.2 ∧ holds (y :: r) w
def stands (ps : List Nat) : List (Nat × Held) → World → Prop → Prop
  | [], _, X => X
  | s :: r, w, X => bif ps.contains s.1 then stands ps r w X else holds s.2 w ∧ stands ps r w X
def kept (ps : List Nat) (held : List (Nat × Held)) : List (Nat × Held) := held.filter fun s => !ps.contains s.1
def isCls (P : Program) (ops : Array Oper) (c : Cls) (i : Nat) : Bool :=
  match ops[i]? with
  | some o => clsB (cls P o) c
  | none => false
def allD : List Nat → (Nat → Prop) → Prop
  | [], _ => True
  | [i], f => f i
  | i :: j :: r, f => f i ∧ allD (j :: r) f
def dDraw (P : Program) (kp : Pan) (n : Nat) (ops : Array Oper) : Nat → Array Bool → List (Nat × Held) → Fr → (Fr → World → Prop) → World → Prop
  | 0, listed, _, fr, K, w => bif (Region.ready .any ops listed).isEmpty then K fr w else False
  | fuel + 1, listed, held, fr, K, w =>
    match Region.ready .any ops listed with
    | [] => K fr w
    | i0 :: rs =>
      match (i0 :: rs).find? (isCls P ops .pure) with
      | some i =>
        (match ops[i]? with
        | some o => bif Region.free .any ops listed i then
            guardD ops o fr (fun fr => dPure P (evalO fr) o fun v => dDraw P kp n ops fuel (listed.setIfInBounds i true) held (put n fr o.dst v) K w)
              (fun fr => dDraw P kp n ops fuel (listed.setIfInBounds i true) held (put n fr o.dst undef) K w) else False
        | none => False)
      | none =>
        match (i0 :: rs).find? (isCls P ops .read) with
        | some i =>
          (match ops[i]? with
          | some o => bif Region.free .any ops listed i then
              guardD ops o fr (fun fr => (match o.op with
                  | .load t a => loadD P t (evalO fr a) (fun v h => dDraw P kp n ops fuel (listed.setIfInBounds i true) ((i, h) :: held) (put n fr o.dst v) K w) w
                  | _ => False))
                (fun fr => dDraw P kp n ops fuel (listed.setIfInBounds i true) held (put n fr o.dst undef) K w) else False
          | none => False)
        | none =>
          allD (i0 :: rs) fun j =>
            match ops[j]? with
            | some o =>
              guardD ops o fr (fun fr => dLoud P kp (evalO fr) o (fun v w' =>
                  stands (predsStar ops j) held w' (dDraw P kp n ops fuel (listed.setIfInBounds j true) (kept (predsStar ops j) held) (put n fr o.dst v) K w')) w)
                (fun fr => dDraw P kp n ops fuel (listed.setIfInBounds j true) (kept (predsStar ops j) held) (put n fr o.dst undef) K w)
            | none => False
/-! ## Code -/
structure Hint where
  mods : List (Nat × Value)
  keep : List Nat
abbrev Hints := List (Nat × Hint)
def hintAt : Hints → Option Nat → Option Hint
  | _, none => none
  | [], _ => none
  | x :: r, some i => bif Nat.beq x.1 i then some x.2 else hintAt r (some i)
def firstRegion : Code → Option Nat
  | .region id _ _ => some id
  | .seq a b => (firstRegion a).or (firstRegion b)
  | .cond _ a b => (firstRegion a).or (firstRegion b)
  | .block _ c => firstRegion c
  | .loop c => firstRegion c
  | .scope c => firstRegion c
  | .rangeFunc _ _ a b => (firstRegion a).or (firstRegion b)
  | _ => none
def opsWrite (i : Nat) : List Oper → Bool
  | [] => false
  | o :: r => (match o.dst with | some d => Nat.beq d i | none => false) || opsWrite i r
def writes (i : Nat) : Code → Bool
  | .skip | .label _ | .exit _ | .ret => false
  | .region _ ops _ => opsWrite i ops.toList
  | .seq a b => writes i a || writes i b
  | .cond _ a b => writes i a || writes i b
  | .block _ c => writes i c
  | .loop c => writes i c
  | .scope c => writes i c
  | .rangeFunc _ _ _ _ => false
  | _ => true
def noRange : Code → Bool
  | .seq a b => noRange a && noRange b
  | .cond _ a b => noRange a && noRange b
  | .block _ c => noRange c
  | .loop c => noRange c
  | .scope c => noRange c
  | .rangeFunc _ _ _ _ => false
  | _ => true
def hasRet : Code → Bool
  | .ret => true
  | .seq a b => hasRet a || hasRet b
  | .cond _ a b => hasRet a || hasRet b
  | .block _ c => hasRet c
  | .loop c => hasRet c
  | .scope c => hasRet c
  | .rangeFunc _ _ _ b => hasRet b
  | _ => false
def exitsOf (inn : List Nat) : Code → List Nat
  | .exit id => bif inn.contains id then [] else [id]
  | .seq a b => exitsOf inn a ++ exitsOf inn b
  | .cond _ a b => exitsOf inn a ++ exitsOf inn b
  | .block id c => exitsOf (id :: inn) c
  | .loop c => exitsOf inn c
  | .scope c => exitsOf inn c
  | .rangeFunc _ _ _ b => exitsOf inn b
  | _ => []
def dedupN : List Nat → List Nat
  | [] => []
  | x :: r => bif (dedupN r).contains x then dedupN r else x :: dedupN r
def jumpsOf (c : Code) : List (Option Code × Exit) :=
  (none, .normal) :: ((bif hasRet c then [(some .ret, .ret)] else []) ++ (dedupN (exitsOf [] c)).map fun i => (some (.exit i), .exit i))
def orJ (j : Option Code) (f : Exit → Prop) : List (Option Code × Exit) → Prop
  | [] => False
  | [x] => j = x.1 ∧ f x.2
  | x :: y :: r => (j = x.1 ∧ f x.2) ∨ orJ j f (y :: r)
def lookAll (fr : Fr) : List (Nat × Value) → Option (List Value)
  | [] => some []
  | x :: r => match look fr x.1, lookAll fr r with
    | some v, some vs => some (v :: vs)
    | _, _ => none
def ENT (mods : List (Nat × Value)) (fr : Fr) (k : List Value → Prop) : Prop :=
  match lookAll fr mods with
  | some s => bif likeM (mods.map (·.2)) s then k s else False
  | none => False
def keepFr (fr : Fr) : List Nat → Fr
  | [] => []
  | i :: r => match look fr i with
    | some v => (i, v) :: keepFr fr r
    | none => keepFr fr r
def frameOf (mods : List (Nat × Value)) (s : List Value) (rest : Fr) : Fr :=
  match mods, s with
  | m :: ms, v :: vs => (m.1, v) :: frameOf ms vs rest
  | _, _ => rest
def keepOk (c : Code) (keep : List Nat) : Bool := keep.all fun i => !writes i c
def LOOPV (zs : List Value) (body : List Value → (List Value → World → Prop) → World → Prop) (ent : (List Value → Prop) → Prop) (w : World) : Prop :=
  ∃ (Inv : List Value → World → Prop) (mu : List Value → World → Nat), ent (fun s => Inv s w) ∧
    ALLM zs fun s => ∀ w, Inv s w → body s (fun s' w' => Inv s' w' ∧ mu s' w' < mu s w) w
def CUTV (zs : List Value) (before : (List Value → World → Prop) → Prop) (behind : List Value → World → Prop) : Prop :=
  ∃ Y : List Value → World → Prop, before Y ∧ ALLM zs fun s => ∀ w, Y s w → behind s w
def LOOPM (zs : List Value) (body : List Value → List Nat → (List Value → List Nat → World → Prop) → World → Prop) (ent : (List Value → Prop) → Prop) (ms : List Nat) (w : World) : Prop :=
  ∃ (Inv : List Value → List Nat → World → Prop) (mu : List Value → World → Nat), ent (fun s => Inv s ms w) ∧
    ALLM zs fun s => ∀ ms w, Inv s ms w → body s ms (fun s' ms' w' => Inv s' ms' w' ∧ mu s' w' < mu s w) w
def CUTM (zs : List Value) (before : (List Value → List Nat → World → Prop) → Prop) (behind : List Value → List Nat → World → Prop) : Prop :=
  ∃ Y : List Value → List Nat → World → Prop, before Y ∧ ALLM zs fun s => ∀ ms w, Y s ms w → behind s ms w
/-! ## A range over a function -/
def BEGR (rr : Loop) (l : Nat) (k : World → Prop) (w : World) : Prop :=
  w.heap[l]? = some (.loop rr) ∧ k (w.putObj l (.loop { rr with state := .busy }))
def ENDR (rr : Loop) (l : Nat) (k : Bool → World → Prop) (j : Option Code) (w : World) : Prop :=
  w.heap[l]? = some (.loop { rr with state := .busy }) ∧ k j.isNone (w.putObj l (.loop { rr with state := if j.isNone then .ready else .done, pending := j }))
def ENDL (rr : Loop) (l : Nat) (k : Option Code → World → Prop) (w : World) : Prop :=
  ∃ j, w.heap[l]? = some (.loop { rr with state := if j.isNone then .ready else .done, pending := j }) ∧ k j (w.putObj l (.loop { rr with state := .exhausted, pending := j }))
def ROUNDS (P : Program) (zs : List Value) (rnd : Loop → Nat → List Value → (Option Code → World → Prop) → World → Prop) (f : FuncId) (fi ca : Array Value) (K : Option Code → World → Prop) (rr : Loop) (l : Nat) (w : World) : Prop :=
  (ALLM zs fun vs => ∀ (k : Bool → World → Prop) (w : World), w.heap[l]? = some (.loop rr) → rnd rr l vs (ENDR rr l k) w → YLD P l ⟨vs⟩ k w) →
    Calls P f ⟨fi.toList ++ [.func (.yield l) #[] #[]] ++ ca.toList⟩ w fun e w' => (∃ v, e = .returned v) ∧ ENDL rr l K w'
def RANGE (P : Program) (rd : Option Nat) (zs : List Value) (v : Option Value) (rnd : Loop → Nat → List Value → (Option Code → World → Prop) → World → Prop) (K : List Nat → Option Code → World → Prop) (w : World) : Prop :=
  FUNV v fun f fi ca => enters P f = true ∧
    match rd with
    | none => ∀ rr : Loop, rr.state = .ready → rr.pending = none → ROUNDS P zs rnd f fi ca (K [w.heap.size]) rr (w.heap.size + 1) ((w.alloc (.deferred (some []))).alloc (.loop rr))
    | some lo => (∃ ro, w.heap[lo]? = some (.loop ro)) ∧ ∀ rr : Loop, rr.state = .ready → rr.pending = none → ROUNDS P zs rnd f fi ca (K []) rr w.heap.size (w.alloc (.loop rr))
def putAll (n : Nat) (fr : Fr) : List Nat → List Value → Fr
  | p :: ps, v :: vs => putAll n (put n fr (some p) v) ps vs
  | _, _ => fr
def natsB : List Nat → List Nat → Bool
  | [], [] => true
  | x :: r, y :: s => Nat.beq x y && natsB r s
  | _, _ => false
def panOf (C : Hints) (p : List PanicEntry → World → Prop) : Pan :=
  match hintAt C (some 1000000) with
  | none => none
  | some _ => some p
def den (P : Program) (n : Nat) (L C : Hints) : Code → Option Nat → (Exit → Fr → List Nat → World → Prop) → Fr → List Nat → World → Prop
  | .skip, _, K, fr, ms, w => K .normal fr ms w
  | .label _, _, K, fr, ms, w => K .normal fr ms w
  | .exit id, _, K, fr, ms, w => K (.exit id) fr ms w
  | .ret, _, K, fr, ms, w => K .ret fr ms w
  | .seq a b, rd, K, fr, ms, w =>
    match hintAt C (firstRegion b) with
    | none => den P n L C a rd (fun e fr' ms' w' => match e with
        | .normal => den P n L C b rd K fr' ms' w'
        | e => K e fr' ms' w') fr ms w
    | some h => bif keepOk a h.keep then
        (bif noRange a then
          CUTV (h.mods.map (·.2)) (fun Y => den P n L C a rd (fun e fr' ms' w' => match e with
            | .normal => ENT h.mods fr' fun s => Y s w'
            | e => K e fr' ms' w') fr ms w) (fun s w' => den P n L C b rd K (frameOf h.mods s (keepFr fr h.keep)) ms w')
        else
          CUTM (h.mods.map (·.2)) (fun Y => den P n L C a rd (fun e fr' ms' w' => match e with
            | .normal => ENT h.mods fr' fun s => Y s ms' w'
            | e => K e fr' ms' w') fr ms w) (fun s ms' w' => den P n L C b rd K (frameOf h.mods s (keepFr fr h.keep)) ms' w'))
      else False
  | .cond c a b, rd, K, fr, ms, w =>
    (match evalO fr c with
    | some (.bool t) => (match c with
      | .tmp i => IFB t (den P n L C a rd K ((i, .bool true) :: fr) ms w) (den P n L C b rd K ((i, .bool false) :: fr) ms w)
      | _ => IFB t (den P n L C a rd K fr ms w) (den P n L C b rd K fr ms w))
    | _ => False)
  | .block id c, rd, K, fr, ms, w => den P n L C c rd (fun e fr' ms' w' => match e with
      | .exit j => bif Nat.beq j id then K .normal fr' ms' w' else K (.exit j) fr' ms' w'
      | e => K e fr' ms' w') fr ms w
  | .loop c, rd, K, fr, ms, w =>
    (match hintAt L (firstRegion c) with
    | none => False
    | some h => bif keepOk c h.keep then
        (bif noRange c then
          LOOPV (h.mods.map (·.2)) (fun s k w' => den P n L C c rd (fun e fr' ms' w'' => match e with
            | .normal => ENT h.mods fr' fun s' => k s' w''
            | e => K e fr' ms' w'') (frameOf h.mods s (keepFr fr h.keep)) ms w') (ENT h.mods fr) w
        else
          LOOPM (h.mods.map (·.2)) (fun s ms' k w' => den P n L C c rd (fun e fr' ms'' w'' => match e with
            | .normal => ENT h.mods fr' fun s' => k s' ms'' w''
            | e => K e fr' ms'' w'') (frameOf h.mods s (keepFr fr h.keep)) ms' w') (ENT h.mods fr) ms w)
      else False)
  | .scope c, rd, K, fr, ms, w => den P n L C c rd (fun e fr' ms' w' => match e with
      | .goto _ => False
      | e => K e fr' ms' w') fr ms w
  | .region _ ops false, _, K, fr, ms, w => dOps P (panOf C fun ch w' => K (.panic ch) [] ms w') n ops ops.toList fr (fun fr' w' => K .normal fr' ms w') w
  | .region _ ops true, _, K, fr, ms, w => bif Region.noSelect ops then DRAW (fun w' => dDraw P (panOf C fun ch w' => K (.panic ch) [] ms w') n ops ops.size (Array.replicate ops.size false) [] fr (fun fr' w'' => K .normal fr' ms w'') w') w else False
  | .rangeFunc g ps assign body, rd, K, fr, ms, w =>
    (match hintAt L ((firstRegion assign).or (firstRegion body)) with
    | none => False
    | some h => bif natsB (h.mods.map (·.1)) ps.toList && noRange assign then
        RANGE P rd (h.mods.map (·.2)) (evalO fr g)
          (fun rr l vs c w' => den P n L C assign (some l) (fun e fr1 _ w1 => match e with
            | .normal => BEGR rr l (fun w2 => den P n L C body (some l) (fun e _ _ w3 => match e with
              | .normal => c none w3
              | .ret => c (some .ret) w3
              | .exit i => c (some (.exit i)) w3
              | _ => False) fr1 [] w2) w1
            | _ => False) (putAll n fr ps.toList vs) [] w')
          (fun ms' j w' => orJ j (fun e => K e fr (ms' ++ ms) w') (jumpsOf body)) w
      else False)
  | _, _, _, _, _, _ => False
/-! ## A function -/
def argFr : Nat → List Value → Fr
  | _, [] => []
  | i, v :: vs => (i, v) :: argFr (i + 1) vs
def resD (P : Program) (fr : Fr) : List ResultVar → (List Value → World → Prop) → World → Prop
  | [], k, w => k [] w
  | .tmp t :: r, k, w => VAL (look fr t) fun v => resD P fr r (fun vs w => k (v :: vs) w) w
  | .cell a t :: r, k, w => loadD P t (look fr a) (fun v _ => resD P fr r (fun vs w => k (v :: vs) w) w) w
def oneOrTuple : List Value → Value
  | [v] => v
  | vs => .tuple ⟨vs⟩
def SHUT : List Nat → (World → Prop) → World → Prop
  | [], k, w => k w
  | d :: ds, k, w => w.heap[d]? = some (.deferred (some [])) ∧ SHUT ds k (w.putObj d (.deferred none))
def dFun (P : Program) (L C : Hints) (f : FuncId) (args : List Value) (k : Value → World → Prop) (w : World) : Prop :=
  match P.funcs[f]? with
  | some fn =>
    (match fn.body with
    | some c => bif Nat.ble args.length fn.ntmps then den P fn.ntmps L C c none (fun e fr ms w' => match e with
        | .normal => SHUT ms (fun w' => resD P fr fn.results.toList (fun vs w'' => k (oneOrTuple vs) w'') w') w'
        | .ret => SHUT ms (fun w' => resD P fr fn.results.toList (fun vs w'' => k (oneOrTuple vs) w'') w') w'
        | _ => False) (argFr 0 args) [] w else False
    | none => False)
  | none => False
theorem wrap_u8 (n : Int) : IntKind.u8.wrap n = n % 256 := by simp [IntKind.wrap, IntKind.signed, IntKind.bits]
theorem wrap_u32 (n : Int) : IntKind.u32.wrap n = n % 4294967296 := by simp [IntKind.wrap, IntKind.signed, IntKind.bits]
theorem wrap_u64 (n : Int) : IntKind.u64.wrap n = n % 18446744073709551616 := by simp [IntKind.wrap, IntKind.signed, IntKind.bits]
theorem wrap_i64_def (n : Int) : IntKind.i64.wrap n = if n % 18446744073709551616 ≥ 9223372036854775808 then n % 18446744073709551616 - 18446744073709551616 else n % 18446744073709551616 := by
  simp [IntKind.wrap, IntKind.signed, IntKind.bits]
theorem wrap_i64 {n : Int} (h1 : -9223372036854775808 ≤ n) (h2 : n ≤ 9223372036854775807) : IntKind.i64.wrap n = n := by
  rw [wrap_i64_def]; split <;> omega
theorem wrap_u8_id {n : Int} (h1 : 0 ≤ n) (h2 : n < 256) : IntKind.u8.wrap n = n := by rw [wrap_u8]; omega
theorem wrap_u32_id {n : Int} (h1 : 0 ≤ n) (h2 : n < 4294967296) : IntKind.u32.wrap n = n := by rw [wrap_u32]; omega
theorem wrap_u64_id {n : Int} (h1 : 0 ≤ n) (h2 : n < 18446744073709551616) : IntKind.u64.wrap n = n := by rw [wrap_u64]; omega
theorem wrap32_nat (x : BitVec 32) : IntKind.u32.wrap (x.toNat : Int) = (x.toNat : Int) := wrap_u32_id (by omega) (by have := x.isLt; omega)
theorem ofInt_nat {n : Nat} (x : BitVec n) : BitVec.ofInt n (x.toNat : Int) = x := by
  rw [BitVec.ofInt_natCast, BitVec.ofNat_toNat, BitVec.setWidth_eq]
theorem ofInt_emod {n : Nat} (z : Int) : BitVec.ofInt n (z % (2 ^ n : Nat)) = BitVec.ofInt n z := by
  apply BitVec.eq_of_toInt_eq
  simp only [BitVec.toInt_ofInt]
  exact Int.emod_bmod _ _
theorem ofInt_wrap32 (z : Int) : BitVec.ofInt 32 (IntKind.u32.wrap z) = BitVec.ofInt 32 z := by
  rw [wrap_u32]; exact ofInt_emod (n := 32) z
theorem ofInt_sub0 {n : Nat} (z : Int) : BitVec.ofInt n (0 - z) = - BitVec.ofInt n z := by
  rw [Int.zero_sub]; exact BitVec.ofInt_neg
theorem fdiv_shift {n : Nat} (x : BitVec n) (k : Nat) : Int.fdiv (x.toNat : Int) (2 ^ k) = ((x >>> k).toNat : Int) := by
  rw [Int.fdiv_eq_ediv_of_nonneg _ (by exact Int.pow_nonneg (by decide))]
  rw [BitVec.toNat_ushiftRight, Nat.shiftRight_eq_div_pow]
  norm_cast
end Go.Dn
namespace Go.Dn
def Ret (Q : Value → World → Prop) : Ending → World → Prop := fun e w => ∃ v, e = .returned v ∧ Q v w
theorem IFB_dec {p : Prop} [Decidable p] {A B : Prop} (h1 : p → A) (h2 : ¬ p → B) : IFB (decide p) A B := by
  by_cases h : p
  · simp only [h, decide_true]; exact h1 h
  · simp only [h, decide_false]; exact h2 h
theorem IFB_of {b : Bool} {A B : Prop} (h1 : b = true → A) (h2 : b = false → B) : IFB b A B := by
  cases b
  · exact h2 rfl
  · exact h1 rfl
theorem IFB_eq {a b : Int} {A B : Prop} (h1 : a = b → A) (h2 : a ≠ b → B) : IFB (a == b) A B :=
  IFB_of (fun h => h1 (by simpa using h)) (fun h => h2 (by simpa using h))
theorem IFB_ne {a b : Int} {A B : Prop} (h1 : a ≠ b → A) (h2 : a = b → B) : IFB (a != b) A B :=
  IFB_of (fun h => h1 (by simpa using h)) (fun h => h2 (by simpa using h))
theorem IFB_not {b : Bool} {A B : Prop} (h : IFB b B A) : IFB (!b) A B := by cases b <;> exact h
theorem IFB_true {A B : Prop} (h : A) : IFB true A B := h
theorem IFB_false {A B : Prop} (h : B) : IFB false A B := h
theorem wrap_succ {k : Nat} (h : k < 9223372036854775807) : IntKind.i64.wrap ((k : Int) + 1) = ((k + 1 : Nat) : Int) := by
  rw [wrap_i64 (by omega) (by omega)]; omega
variable {H : Type} {enc : TypeId × Value → H}
theorem returnsInHanded_and_shaped {a : Assume} {C : Checked} {os : Os} {f : FuncId} {fn : Func} {s : ChangeSpec} {conds : List PathCond} {apart fresh handsOn again : Bool} {X : World → Array Value → Prop}
    (hX : ∀ (w w' : World) (args : Array Value), w.heap = w'.heap → X w args → X w' args)
    (own : ownKnob C.prog.godebug = none) (started : os.Started) (noInit : C.prog.inits.idxOf? f = none) (hfn : C.prog.funcs[f]? = some fn)
    (witness : ∃ (w : World) (tape : Tape) (i : Input), w.os = os ∧ (w.forCall tape i).Shaped C.prog ∧ i.vars = [] ∧ Input.okWide C.prog (w.forCall tape i) .any w.heap.size f i ∧
      ((s.pre enc C.prog fn conds apart (w.forCall tape i).memory i.args ∧ X (w.forCall tape i).memory i.args) ∧ sizedMet enc C.prog fn (OpenSpec.ofChange s) apart (w.forCall tape i).memory i.args) ∧ a.holds C.prog (lone (Frame.enter C.prog f i.args .normal) [] (w.forCall tape i)))
    (contract : ∀ (W : World) (base : Nat) (args : Array Value) (ds gs : List (DataW H)) (before : List MemPlace),
      (∀ (j : Nat) t v, fn.params[j]? = some t → args[j]? = some v → Value.okWide C.prog W .any base t v) →
      DataW.Whole enc C.prog fn.params.toList s.vars apart W args.toList ds gs before →
      (DataW.weightsEach C.prog (fn.params.toList ++ s.plain.varTypes C.prog) (ds ++ gs)).all (· ≤ reachBytes) = true → X W args → W.ShapedOpen C.prog →
      Calls C.prog f args W fun e W' => ∃ v, e = .returned v ∧ s.post enc C.prog fn apart fresh handsOn again W args v W') :
    ReturnsInHanded a C os f .any (fun w args => (s.pre enc C.prog fn conds apart w args ∧ X w args) ∧ sizedMet enc C.prog fn (OpenSpec.ofChange s) apart w args) (s.post enc C.prog fn apart fresh handsOn again) := by
  refine returnsInHanded_of_calls own started noInit witness ?_
  intro w tape i _ hsh _ hok hpre _
  obtain ⟨_, _, _, fn', hfn', _, _, _, _, hval⟩ := hok
  have e : fn' = fn := Option.some.inj (hfn'.symm.trans hfn)
  subst e
  obtain ⟨⟨⟨ds, gs, before, hw, hc⟩, hx⟩, hz⟩ := hpre
  have hw' := DataW.Whole.of_heap (w' := w.forCall tape i) (by rfl) hw
  refine (contract (w.forCall tape i) w.heap.size i.args ds gs before hval hw' (hz.weights hw) (hX _ _ _ (by rfl) hx) hsh).mono fun e W' ⟨v, he, hp⟩ => ?_
  subst he
  exact ChangeSpec.post_blind hp
theorem joined_of {P : Program} {f : FuncId} {fn : Func} {s : ChangeSpec} {c : OpenClaim} (h1 : c.wf (OpenSpec.ofChange s) = true) (h2 : laidOutB P = true) (h3 : mapsRowed P = true) (h4 : fn.params.all (P.readableRec ·) = true) (h5 : namedTie P c.named s.vars = true)
    (h6 : ((c.stops == []) && (P.stops == []) && (c.knobs == []) && (P.stopKnobs == [])) = true) (h7 : (c.inPlace == P.inPlace f) = true) (h8 : (c.unfollowed == P.unfollowed f) = true) (h9 : (c.recurses == P.recurses f) = true) (h10 : (c.named == P.varsNamed f) = true)
    (h11 : ((c.maps == (fn.params.toList ++ s.plain.varTypes P).any (P.mapsRec ·)) && (c.ifaces == (fn.params.toList ++ s.plain.varTypes P).any (P.ifacesRec ·)) && (c.mapsOut == P.mapsAmong fn.resultTypes.toList)) = true)
    (h12 : (c.loops == (fn.params.toList ++ s.plain.varTypes P).any (P.loopsFrom ·)) = true) (h13 : (c.wideKeys == (fn.params.toList ++ s.plain.varTypes P ++ fn.resultTypes.toList).any (P.wideKeysFrom ·)) = true)
    (h14 : (s.vars.all (P.varReadable ·) && fn.resultTypes.all (fun t => P.readableRec t && decide (t < P.types.size)) && (c.ifacesOut == fn.resultTypes.toList.any (P.ifacesRec ·)) && (c.loopsOut == fn.resultTypes.toList.any (P.loopsFrom ·))) = true)
    (h15 : (c.plainKeys == P.plainKeys) = true) (h16 : (c.shortTexts.isNone && P.stopsHeard && P.mayEnter && (c.lifted == P.liftsFinal) && (P.make == some c.make) && (c.pinned == c.pinnedBy)) = true) (hk : c.domain.isEmpty = true) (hk2 : (c.kinds == []) = true)
    (h17 : (c.veiled == (fn.params.toList ++ s.plain.varTypes P ++ fn.resultTypes.toList).any (P.veiledRec ·)) = true) (h18 : c.veiledFits P fn.params.toList (fn.params.toList ++ s.plain.varTypes P ++ fn.resultTypes.toList) = true) : joinedFacts P f fn s c = true := by
  unfold joinedFacts
  simp only [Bool.and_eq_true] at *
  simp only [h1, h2, h3, h4, h5, h6, h7, h8, h9, h10, h11, h12, h13, h14, h15, h16, h17, h18, hk, hk2, if_true, and_self]
theorem LIKE1_out {z : Value} {f : Value → Prop} (h : LIKE1 z f) : ∃ v, f v := by
  unfold LIKE1 at h
  split at h
  all_goals first
    | (obtain ⟨a, b, c, h⟩ := h; exact ⟨_, h⟩)
    | (obtain ⟨a, h⟩ := h; exact ⟨_, h⟩)
theorem LIKEY_out {z : Value} {f : Value → Prop} (h : LIKEY z f) : ∃ v, f v := by
  unfold LIKEY at h
  split at h
  · rcases h with ⟨a, b, c, h⟩ | ⟨l, h⟩
    · exact ⟨_, h⟩
    · exact ⟨_, h⟩
  · exact LIKE1_out h
theorem LIKEL_out : ∀ {zs : List Value} {f : List Value → Prop}, LIKEL zs f → ∃ vs, vs.length = zs.length ∧ f vs
  | [], _, h => ⟨[], rfl, h⟩
  | _ :: _, _, h => by
    obtain ⟨v, h⟩ := LIKE1_out h
    obtain ⟨vs, hl, h⟩ := LIKEL_out h
    exact ⟨v :: vs, by simp [hl], h⟩
theorem LIKE_out {z : Value} {f : Value → Prop} (h : LIKE z f) : ∃ v, f v := by
  unfold LIKE at h
  split at h
  · obtain ⟨vs, _, h⟩ := LIKEL_out h; exact ⟨_, h⟩
  · exact LIKE1_out h
theorem LIKEM_out : ∀ {zs : List Value} {f : List Value → Prop}, LIKEM zs f → ∃ vs, f vs
  | [], _, h => ⟨[], h⟩
  | _ :: _, _, h => by
    obtain ⟨v, h⟩ := LIKE_out h
    obtain ⟨vs, h⟩ := LIKEM_out h
    exact ⟨v :: vs, h⟩
theorem LIKER_out {z : Value} {f : Value → Prop} (h : LIKER z f) : ∃ v, f v := by
  unfold LIKER at h
  split at h
  · obtain ⟨vs, h⟩ := LIKEM_out h; exact ⟨_, h⟩
  · exact LIKE_out h
theorem LIKED_out {d : Bool} {z : Value} {f : Value → Prop} (h : LIKED d z f) : ∃ v, f v := by
  unfold LIKED at h
  split at h
  · split at h
    · rcases h with ⟨_, _, _, h⟩ | h <;> exact ⟨_, h⟩
    · exact LIKER_out h
  · exact LIKER_out h
theorem intKindB_eq {a b : IntKind} (h : intKindB a b = true) : a = b := by
  cases a <;> cases b <;> first | rfl | (simp [intKindB] at h)
theorem runPure_run {α : Type} {P : Program} (s : Sem α) : ∀ {v : α}, runPure P s = some v → ∀ w, s.run P w = .ok v w := by
  induction s with
  | pure a => intro v h w; simp [runPure] at h; subst h; rfl
  | program k ih => intro v h w; simp only [runPure] at h; simp only [Sem.run]; exact ih P h w
  | mark m k ih => intro v h w; simp only [runPure] at h; simp only [Sem.run]; exact ih h w
  | _ => intro v h; simp [runPure] at h
theorem VAL_out {x : Option Value} {k : Value → Prop} (h : VAL x k) : ∃ v, x = some v ∧ k v := by
  cases x with
  | none => exact h.elim
  | some v => exact ⟨v, rfl, h⟩
theorem PTR_out {p : Option Addr} {k : Addr → Prop} (h : PTR p k) : ∃ a, p = some a ∧ k a := by
  cases p with
  | none => exact h.elim
  | some a => exact ⟨a, rfl, h⟩
theorem PTRV_out {x : Option Value} {k : Addr → Prop} (h : PTRV x k) : ∃ a, x = some (.pointer (some a)) ∧ k a := by
  unfold PTRV at h
  split at h
  · obtain ⟨a, rfl, h⟩ := PTR_out h; exact ⟨a, rfl, h⟩
  · exact h.elim
theorem BOOLV_out {x : Option Value} {k : Bool → Prop} (h : BOOLV x k) : ∃ b, x = some (.bool b) ∧ k b := by
  unfold BOOLV at h
  split at h
  · exact ⟨_, rfl, h⟩
  · exact h.elim
theorem INTV_out {x : Option Value} {k : IntKind → Int → Prop} (h : INTV x k) : ∃ kd n, x = some (.int kd n) ∧ k kd n := by
  unfold INTV at h
  split at h
  · exact ⟨_, _, rfl, h⟩
  · exact h.elim
theorem runs_underlying {P : Program} {t : TypeId} {d : TypeDesc} (h : P.underlying t = some d) (w : World) : (underlying t).run P w = .ok d w := by
  simp [underlying, h]
theorem runs_sizeOf {P : Program} {t : TypeId} (h : P.cellsOf t ≠ 0) (w : World) : (sizeOf t).run P w = .ok (P.cellsOf t) w := by
  unfold Program.cellsOf at h ⊢
  cases hi : P.info? t with
  | none => simp [hi] at h
  | some i => simp [sizeOf, typeInfo, hi]
section
variable {P : Program} {e : Operand → Option Value} {ρ : Operand → Value}
theorem binInt_run {op : BinOp} {k k' : IntKind} {a b : Int} {K : Value → Prop} (t : TypeId) (h : intOp op k k' a b K) :
    ∃ v, K v ∧ ∀ w, (binOp op t (.int k a) (.int k' b)).run P w = .ok v w := by
  unfold intOp at h
  split at h
  · obtain ⟨h0, h⟩ := h
    exact ⟨_, h, fun w => by simp [binOp, Op.shift, Int.not_lt.2 h0]⟩
  · obtain ⟨h0, h⟩ := h
    exact ⟨_, h, fun w => by simp [binOp, Op.shift, Int.not_lt.2 h0]⟩
  · rename_i op hn1 hn2
    cases hk : intKindB k k' with
    | false => simp [hk] at h
    | true =>
      simp only [hk, cond_true] at h
      have := intKindB_eq hk
      subst this
      split at h
      case h_4 => obtain ⟨h0, h⟩ := h; exact ⟨_, h, fun w => by simp [binOp, Op.intDiv, h0]⟩
      case h_5 => obtain ⟨h0, h⟩ := h; exact ⟨_, h, fun w => by simp [binOp, Op.intDiv, h0]⟩
      case h_16 => exact h.elim
      all_goals exact ⟨_, h, fun w => by simp [binOp, Op.intArith, Op.intBits, Op.intCmp]⟩
theorem intOpC_intOp {op : BinOp} {k k' : IntKind} {a b : Int} {K : Value → Prop} (h : intOpC op k k' a b K) : intOp op k k' a b K := by
  unfold intOpC at h
  split at h
  · by_cases hb : 0 ≤ b
    · simp only [hb, decide_true, cond_true] at h; exact ⟨hb, h⟩
    · simp [hb] at h
  · by_cases hb : 0 ≤ b
    · simp only [hb, decide_true, cond_true] at h; exact ⟨hb, h⟩
    · simp [hb] at h
  · by_cases hb : b = 0
    · simp [hb] at h
    · simp only [hb, decide_false, cond_false] at h
      unfold intOp
      cases hk : intKindB k k' <;> simp only [hk, cond_true, cond_false] at h ⊢
      exact ⟨hb, h⟩
  · by_cases hb : b = 0
    · simp [hb] at h
    · simp only [hb, decide_false, cond_false] at h
      unfold intOp
      cases hk : intKindB k k' <;> simp only [hk, cond_true, cond_false] at h ⊢
      exact ⟨hb, h⟩
  · exact h
theorem binStr_run {op : BinOp} {a b : ByteArray} {K : Value → Prop} (t : TypeId) (h : strOp op a b K) :
    ∃ v, K v ∧ ∀ w, (binOp op t (.string a) (.string b)).run P w = .ok v w := by
  unfold strOp at h
  split at h
  case h_1 =>
    obtain ⟨h0, h⟩ := h
    refine ⟨_, h, fun w => ?_⟩
    have h1 : ¬ (((a.size + b.size : Nat) : Int) > IntKind.i64.max) := by
      have : IntKind.i64.max = 9223372036854775807 := by decide
      rw [this]; omega
    simp only [binOp, Op.stringOp, h1, if_false]
    rfl
  case h_8 => exact h.elim
  all_goals exact ⟨_, h, fun w => by simp [binOp, Op.stringOp, bytesEq, bytesLt]⟩
theorem guardInt {op : BinOp} {t : TypeId} {x y : Operand} {k k' : IntKind} {a b : Int} (w : World) : (eqGuard op t x y (.int k a) (.int k' b)).run P w = .ok () w := by
  cases op <;> simp [eqGuard]
theorem guardStr {op : BinOp} {t : TypeId} {x y : Operand} {a b : ByteArray} (w : World) : (eqGuard op t x y (.string a) (.string b)).run P w = .ok () w := by
  cases op <;> simp [eqGuard]
theorem partV_run {t : TypeId} {cs : Array Value} {off : Nat} {v : Value} (h : partV P t cs off = some v) (hc : P.info? t ≠ none) (w : World) : (part t cs off).run P w = .ok v w := by
  obtain ⟨i, hi⟩ := Option.ne_none_iff_exists'.1 hc
  unfold partV at h
  unfold part isAgg
  split at h
  · rename_i hu; simp [Program.cellsOf, hi] at h; simp [underlying, hu, sizeOf, typeInfo, hi, h]
  · rename_i hu; simp [underlying, hu, h]
  · rename_i hu; simp [underlying, hu, h]
  · rename_i hu; simp [underlying, hu, h]
  · cases h
theorem eqFs_run {d : Nat} {xs ys : Array Value} (ih : ∀ t x y b, eqV P d t x y = some b → ∀ m w, d ≤ m → (Op.equalIn m t x y).run P w = .ok b w) :
    ∀ (fs : List Field) (b : Bool), eqFs P (eqV P d) xs ys fs = some b → ∀ m w, d ≤ m → (Op.eqFields m xs ys fs).run P w = .ok b w
  | [], b, h, m, w, _ => by simp [eqFs] at h; subst h; simp [Op.eqFields]
  | f :: fs, b, h, m, w, hm => by
    unfold eqFs at h
    cases hn : f.name == "_" with
    | true => simp [hn] at h
    | false =>
      simp only [hn, cond_false] at h
      split at h
      · rename_i x y hx hy
        split at h
        · rename_i b1 c1 hb hc
          have hne : f.name ≠ "_" := by simpa using hn
          have hu : P.info? f.type ≠ none := by
            intro hnone
            have : P.underlying f.type = none := by simp [Program.underlying, hnone]
            simp [partV, this] at hx
          simp only [Op.eqFields, hne, ne_eq, not_false_eq_true, if_true, Sem.run_bind, partV_run hx hu, partV_run hy hu, Result.andThen_ok, ih _ _ _ _ hb m w hm]
          have h2 := eqFs_run ih fs c1 hc m w hm
          simp at h
          subst h
          cases b1
          · simp
          · simp [h2]
        · cases h
      · cases h
theorem eqV_run : ∀ (d : Nat) (t : TypeId) (x y : Value) (b : Bool), eqV P d t x y = some b → ∀ m w, d ≤ m → (Op.equalIn m t x y).run P w = .ok b w
  | 0, _, _, _, _, h, _, _, _ => by simp [eqV] at h
  | d + 1, t, x, y, b, h, m, w, hm => by
    obtain ⟨m, rfl⟩ : ∃ k, m = k + 1 := ⟨m - 1, by omega⟩
    unfold eqV at h
    split at h
    · rename_i hu
      split at h
      · simp at h; simp [Op.equalIn, underlying, hu, h]
      · cases h
    · rename_i hu
      split at h
      · rename_i k a k' b'
        cases hk : intKindB k k' with
        | false => simp [hk] at h
        | true =>
          have := intKindB_eq hk
          subst this
          simp [hk] at h
          simp [Op.equalIn, underlying, hu, h]
      · cases h
    · rename_i hu
      split at h
      · simp at h; simp [Op.equalIn, underlying, hu, h]
      · cases h
    · rename_i fs hu
      split at h
      · rename_i xs ys
        cases hs : P.stoodInHeld t with
        | true => simp [hs] at h
        | false =>
          simp only [hs, cond_false] at h
          have hf : P.fieldsOf t = fs := by simp [Program.fieldsOf, hu]
          rw [run_equalIn_struct w m t xs ys (by rw [hf]; exact hu) hs, hf]
          exact eqFs_run (fun t x y b h m w hm => eqV_run d t x y b h m w hm) fs.toList b h m w (by omega)
      · cases h
    · cases h
theorem in_bool {t : TypeId} (hu : P.underlying t = some .bool) (a b : Bool) (m : Nat) (w : World) : (Op.equalIn (m + 1) t (.bool a) (.bool b)).run P w = .ok (a == b) w := by
  simp [Op.equalIn, underlying, hu]
theorem in_ptr {t el : TypeId} (hu : P.underlying t = some (.pointer el)) (p : Option Addr) (m : Nat) (w : World) : (Op.equalIn (m + 1) t (.pointer p) (.pointer none)).run P w = .ok p.isNone w := by
  cases p <;> simp [Op.equalIn, underlying, hu]
theorem in_slice {t el : TypeId} (hu : P.underlying t = some (.slice el)) (p : Option Addr) (l c l2 c2 m : Nat) (w : World) : (Op.equalIn (m + 1) t (.slice p l c) (.slice none l2 c2)).run P w = .ok p.isNone w := by
  cases p <;> simp [Op.equalIn, underlying, hu]
theorem in_map {t k el : TypeId} (hu : P.underlying t = some (.map k el)) (p : Option Nat) (m : Nat) (w : World) : (Op.equalIn (m + 1) t (.map p) (.map none)).run P w = .ok p.isNone w := by
  cases p <;> simp [Op.equalIn, underlying, hu]
theorem in_func {t : TypeId} {ps rs : Array TypeId} {vr : Bool} (hu : P.underlying t = some (.func ps rs vr)) (fn : Fn) (fi ca : Array Value) (m : Nat) (w : World) : (Op.equalIn (m + 1) t (.func fn fi ca) .nilFunc).run P w = .ok false w := by
  simp [Op.equalIn, underlying, hu]
theorem in_nilFunc {t : TypeId} {ps rs : Array TypeId} {vr : Bool} (hu : P.underlying t = some (.func ps rs vr)) (m : Nat) (w : World) : (Op.equalIn (m + 1) t .nilFunc .nilFunc).run P w = .ok true w := by
  simp [Op.equalIn, underlying, hu]
theorem eqOut_run {op : BinOp} {neg : Bool} (hn : isNeg op = some neg) {t : TypeId} {x y : Value} {b : Bool} (hx : ∀ w, (Op.equal t x y).run P w = .ok b w)
    (hp : ∀ k n, x ≠ .int k n) (hf : ∀ k n, x ≠ .float k n) (hc : ∀ k n m, x ≠ .complex k n m) (hs : ∀ s, x ≠ .string s) (w : World) : (binOp op t x y).run P w = .ok (eqOut neg b) w := by
  cases op <;> simp [isNeg] at hn
  · subst hn
    cases x <;> first | exact absurd rfl (hp _ _) | exact absurd rfl (hf _ _) | exact absurd rfl (hc _ _ _) | exact absurd rfl (hs _) | (simp only [binOp, Sem.run_bind, hx, Result.andThen_ok]; simp [eqOut])
  · subst hn
    cases x <;> first | exact absurd rfl (hp _ _) | exact absurd rfl (hf _ _) | exact absurd rfl (hc _ _ _) | exact absurd rfl (hs _) | (simp only [binOp, Sem.run_bind, hx, Result.andThen_ok]; simp [eqOut])
theorem eqOp2_run {op : BinOp} {t : TypeId} {u v : Value} {K : Value → Prop} (x y : Operand) (h : eqOp2 P op t u v K) :
    ∃ r, K r ∧ ∀ w, (do eqGuard op t x y u v; binOp op t u v : Sem Value).run P w = .ok r w := by
  unfold eqOp2 at h
  split at h
  · exact h.elim
  · rename_i neg hneg
    split at h
    · rename_i a b
      have hu : P.underlying t = some .bool := by
        cases hh : P.underlying t with
        | none => simp [hh] at h
        | some d => cases d <;> simp_all
      simp only [hu, cond_true] at h
      refine ⟨_, h, fun w => ?_⟩
      have hg : (eqGuard op t x y (.bool a) (.bool b)).run P w = .ok () w := by cases op <;> simp [eqGuard]
      simp only [Sem.run_bind, hg, Result.andThen_ok]
      exact eqOut_run hneg (fun w => in_bool hu a b 9999 w) (by simp) (by simp) (by simp) (by simp) w
    · rename_i p
      have hu : ∃ el, P.underlying t = some (.pointer el) := by
        cases hh : P.underlying t with
        | none => simp [hh] at h
        | some d => cases d <;> simp_all
      obtain ⟨el, hu⟩ := hu
      simp only [hu, cond_true] at h
      refine ⟨_, h, fun w => ?_⟩
      have hg : (eqGuard op t x y (.pointer p) (.pointer none)).run P w = .ok () w := by cases op <;> simp [eqGuard]
      simp only [Sem.run_bind, hg, Result.andThen_ok]
      exact eqOut_run hneg (fun w => in_ptr hu p 9999 w) (by simp) (by simp) (by simp) (by simp) w
    · rename_i p l c l2 c2
      have hu : ∃ el, P.underlying t = some (.slice el) := by
        cases hh : P.underlying t with
        | none => simp [hh] at h
        | some d => cases d <;> simp_all
      obtain ⟨el, hu⟩ := hu
      simp only [hu, cond_true] at h
      refine ⟨_, h, fun w => ?_⟩
      have hg : (eqGuard op t x y (.slice p l c) (.slice none l2 c2)).run P w = .ok () w := by cases op <;> simp [eqGuard]
      simp only [Sem.run_bind, hg, Result.andThen_ok]
      exact eqOut_run hneg (fun w => in_slice hu p l c l2 c2 9999 w) (by simp) (by simp) (by simp) (by simp) w
    · rename_i p
      have hu : ∃ a b, P.underlying t = some (.map a b) := by
        cases hh : P.underlying t with
        | none => simp [hh] at h
        | some d => cases d <;> simp_all
      obtain ⟨a, b, hu⟩ := hu
      simp only [hu, cond_true] at h
      refine ⟨_, h, fun w => ?_⟩
      have hg : (eqGuard op t x y (.map p) (.map none)).run P w = .ok () w := by cases op <;> simp [eqGuard]
      simp only [Sem.run_bind, hg, Result.andThen_ok]
      exact eqOut_run hneg (fun w => in_map hu p 9999 w) (by simp) (by simp) (by simp) (by simp) w
    · have hu : ∃ a b c, P.underlying t = some (.func a b c) := by
        cases hh : P.underlying t with
        | none => simp [hh] at h
        | some d => cases d <;> simp_all
      obtain ⟨a, b, c, hu⟩ := hu
      simp only [hu, cond_true] at h
      refine ⟨_, h, fun w => ?_⟩
      have hg : (eqGuard op t x y .nilFunc .nilFunc).run P w = .ok () w := by cases op <;> simp [eqGuard]
      simp only [Sem.run_bind, hg, Result.andThen_ok]
      exact eqOut_run hneg (fun w => in_nilFunc hu 9999 w) (by simp) (by simp) (by simp) (by simp) w
    · rename_i fn fi ca
      have hu : ∃ a b c, P.underlying t = some (.func a b c) := by
        cases hh : P.underlying t with
        | none => simp [hh] at h
        | some d => cases d <;> simp_all
      obtain ⟨a, b, c, hu⟩ := hu
      simp only [hu, cond_true] at h
      refine ⟨_, h, fun w => ?_⟩
      have hg : (eqGuard op t x y (.func fn fi ca) .nilFunc).run P w = .ok () w := by cases op <;> simp [eqGuard]
      simp only [Sem.run_bind, hg, Result.andThen_ok]
      exact eqOut_run hneg (fun w => in_func hu fn fi ca 9999 w) (by simp) (by simp) (by simp) (by simp) w
    · rename_i xs ys
      cases hgt : P.eqGuardType P.depth t with
      | true => simp [hgt] at h
      | false =>
        simp only [hgt, cond_false] at h
        split at h
        · rename_i b hb
          refine ⟨_, h, fun w => ?_⟩
          have hg : (eqGuard op t x y (.agg xs) (.agg ys)).run P w = .ok () w := by cases op <;> simp [eqGuard, hgt]
          simp only [Sem.run_bind, hg, Result.andThen_ok]
          exact eqOut_run hneg (fun w => eqV_run 5 t _ _ b hb 10000 w (by omega)) (by simp) (by simp) (by simp) (by simp) w
        · exact h.elim
    · exact h.elim
theorem in_iface {t : TypeId} {ms : Array (String × TypeId)} (hu : P.underlying t = some (.interface ms)) {u : Value} {b : Bool} (hub : (u = .nilIface ∧ b = true) ∨ ((∃ a v, u = .iface a v) ∧ b = false)) (m : Nat) (w : World) :
    (Op.equalIn (m + 1) t u .nilIface).run P w = .ok b w := by
  rcases hub with ⟨rfl, rfl⟩ | ⟨⟨a, v, rfl⟩, rfl⟩ <;> simp [Op.equalIn, underlying, hu]
theorem eqOp_run {op : BinOp} {t : TypeId} {u v : Value} {K : Value → Prop} (x y : Operand) (h : eqOp P (isConstO y) op t u v K) :
    ∃ r, K r ∧ ∀ w, (do eqGuard op t x y u v; binOp op t u v : Sem Value).run P w = .ok r w := by
  unfold eqOp at h
  split at h
  · unfold negOp at h
    split at h
    · exact h.elim
    · rename_i neg hneg
      have hu : ∃ ms, P.underlying t = some (.interface ms) := by
        unfold isIfaceT at h
        cases hh : P.underlying t with
        | none => simp [hh] at h
        | some d => cases d <;> simp_all
      obtain ⟨ms, hu⟩ := hu
      obtain ⟨cv, rfl⟩ : ∃ cv, y = .const cv := by
        cases y <;> first | exact ⟨_, rfl⟩ | (simp [isConstO] at h)
      simp only [isIfaceT, hu, isConstO, Bool.true_and, cond_true] at h
      unfold IFACEV at h
      split at h
      · refine ⟨_, h, fun w => ?_⟩
        have hg : (eqGuard op t x (.const cv) .nilIface .nilIface).run P w = .ok () w := by cases op <;> simp [eqGuard]
        simp only [Sem.run_bind, hg, Result.andThen_ok]
        exact eqOut_run hneg (fun w => in_iface hu (.inl ⟨rfl, rfl⟩) 9999 w) (by simp) (by simp) (by simp) (by simp) w
      · rename_i a v
        refine ⟨_, h, fun w => ?_⟩
        have hg : (eqGuard op t x (.const cv) (.iface a v) .nilIface).run P w = .ok () w := by cases op <;> simp [eqGuard]
        simp only [Sem.run_bind, hg, Result.andThen_ok]
        exact eqOut_run hneg (fun w => in_iface hu (.inr ⟨⟨a, v, rfl⟩, rfl⟩) 9999 w) (by simp) (by simp) (by simp) (by simp) w
      · exact h.elim
  · exact eqOp2_run x y h
end
section
variable {P : Program} {kp : Pan} {e : Operand → Option Value} {ρ : Operand → Value}
theorem boundV_out {x : Option Operand} {d : Nat} {k : Int → Prop} (he : ∀ x v, e x = some v → ρ x = v) (h : boundV e x d k) :
    ∃ n : Int, k n ∧ (x = none ∧ n = d ∨ ∃ o kd, x = some o ∧ ρ o = .int kd n) := by
  unfold boundV at h
  split at h
  · exact ⟨_, h, .inl ⟨rfl, rfl⟩⟩
  · rename_i o
    split at h
    · rename_i kd n hn
      exact ⟨n, h, .inr ⟨o, kd, rfl, he _ _ hn⟩⟩
    · exact h.elim
theorem run_sliceBound {v : Value} {kd : IntKind} {n : Int} {y : Nat} {code : BoundsCode} (hv : v = .int kd n) (h0 : 0 ≤ n) (h1 : n ≤ y) (w : World) :
    (Instr.sliceBound v y code).run P w = .ok n.toNat w := by
  subst hv
  simp [Instr.sliceBound, asIntOf, h0, h1]
theorem run_bounds2 {isS : Bool} {len cap : Nat} {lo hi : Option Operand} {l h : Int} (h0 : 0 ≤ l) (h1 : l ≤ h) (h2 : h ≤ cap)
    (hl : lo = none ∧ l = (0 : Nat) ∨ ∃ o kd, lo = some o ∧ ρ o = .int kd l) (hh : hi = none ∧ h = len ∨ ∃ o kd, hi = some o ∧ ρ o = .int kd h) (w : World) :
    (Instr.sliceBounds isS len cap (lo.map ρ) (hi.map ρ) none).run P w = .ok (l.toNat, h.toNat, cap) w := by
  rcases hl with ⟨rfl, rfl⟩ | ⟨o, kd, rfl, ho⟩ <;> rcases hh with ⟨rfl, rfl⟩ | ⟨o', kd', rfl, ho'⟩
  · simp [Instr.sliceBounds]
  · simp [Instr.sliceBounds, run_sliceBound ho' (Int.le_trans h0 h1) h2]
  · have h3 : l ≤ (len : Int) := h1
    simp [Instr.sliceBounds, run_sliceBound ho h0 h3]
  · have h3 : l ≤ (h.toNat : Int) := by omega
    simp [Instr.sliceBounds, run_sliceBound ho' (Int.le_trans h0 h1) h2, run_sliceBound ho h0 h3]
theorem run_bounds3 {len cap : Nat} {lo hi : Option Operand} {l h m : Int} {mo : Operand} {km : IntKind} (h0 : 0 ≤ l) (h1 : l ≤ h) (h2 : h ≤ m) (h3 : m ≤ cap)
    (hl : lo = none ∧ l = (0 : Nat) ∨ ∃ o kd, lo = some o ∧ ρ o = .int kd l) (hh : ∃ o kd, hi = some o ∧ ρ o = .int kd h) (hm : ρ mo = .int km m) (w : World) :
    (Instr.sliceBounds true len cap (lo.map ρ) (hi.map ρ) (some (ρ mo))).run P w = .ok (l.toNat, h.toNat, m.toNat) w := by
  obtain ⟨o', kd', rfl, ho'⟩ := hh
  have h4 : h ≤ (m.toNat : Int) := by omega
  rcases hl with ⟨rfl, rfl⟩ | ⟨o, kd, rfl, ho⟩
  · simp [Instr.sliceBounds, run_sliceBound hm (by omega) h3, run_sliceBound ho' (Int.le_trans h0 h1) h4]
  · have h5 : l ≤ (h.toNat : Int) := by omega
    simp [Instr.sliceBounds, run_sliceBound hm (by omega) h3, run_sliceBound ho' (Int.le_trans h0 h1) h4, run_sliceBound ho h0 h5]
theorem cellsOf_run {t : TypeId} (h : P.info? t ≠ none) (w : World) : (sizeOf t).run P w = .ok (P.cellsOf t) w := by
  obtain ⟨i, hi⟩ := Option.ne_none_iff_exists'.1 h
  simp [sizeOf, typeInfo, hi, Program.cellsOf]
theorem elOk_out {el : TypeId} {X : Prop} (h : bif elOk P el then X else False) : P.info? el ≠ none ∧ X := by
  unfold elOk at h
  cases hi : P.info? el with
  | none => simp [hi] at h
  | some i => simp only [hi, Option.isSome_some, cond_true] at h; exact ⟨by simp, h⟩
theorem sliceD_run {t : TypeId} {x : Operand} {lo hi mx : Option Operand} {K : Value → Prop} (he : ∀ x v, e x = some v → ρ x = v) (h : sliceD P e t x lo hi mx K) :
    ∃ v, K v ∧ ∀ w, (Instr.sliceAt t (ρ x) (lo.map ρ) (hi.map ρ) (mx.map ρ)).run P w = .ok v w := by
  unfold sliceD at h
  split at h
  · rename_i s hu hx
    obtain ⟨hv, h, hh⟩ := boundV_out he h
    obtain ⟨lv, h, hl⟩ := boundV_out he h
    obtain ⟨⟨h0, h1, h2⟩, h⟩ := h
    refine ⟨_, h, fun w => ?_⟩
    have := he _ _ hx
    simp [Instr.sliceAt, Instr.slice, underlying, hu, this, run_bounds2 h0 h1 h2 hl hh]
  · rename_i el a len cap hu hx
    obtain ⟨hel, h⟩ := elOk_out h
    obtain ⟨hv, h, hh⟩ := boundV_out he h
    obtain ⟨lv, h, hl⟩ := boundV_out he h
    obtain ⟨⟨h0, h1, h2⟩, h⟩ := h
    refine ⟨_, h, fun w => ?_⟩
    have := he _ _ hx
    have hs := cellsOf_run hel w
    simp [Instr.sliceAt, Instr.slice, underlying, hu, this, run_bounds2 h0 h1 h2 hl hh, hs, SLA]
  · rename_i el a len cap mo hu hx
    obtain ⟨hel, h⟩ := elOk_out h
    split at h
    · exact h.elim
    · rename_i ho
      obtain ⟨mv, h, hm⟩ := boundV_out he h
      obtain ⟨hv, h, hh⟩ := boundV_out he h
      obtain ⟨lv, h, hl⟩ := boundV_out he h
      obtain ⟨⟨h0, h1, h2, h3⟩, h⟩ := h
      refine ⟨_, h, fun w => ?_⟩
      have := he _ _ hx
      have hs := cellsOf_run hel w
      rcases hm with ⟨hm, _⟩ | ⟨o, km, hm, hmo⟩
      · cases hm
      rcases hh with ⟨hh, _⟩ | ⟨o2, kd, hh, hho⟩
      · cases hh
      cases hm
      have hb := run_bounds3 (P := P) (len := len) h0 h1 h2 h3 hl ⟨o2, kd, hh, hho⟩ hmo w
      simp only [Instr.sliceAt, Instr.slice, Sem.run_bind, underlying, hu, run_program, Result.andThen_ok, this, Sem.run_pure, Option.map_some] at hb ⊢
      simp [hb, hs, SLA]
  · rename_i n el p hu hx
    obtain ⟨hel, h⟩ := elOk_out h
    obtain ⟨a, rfl, h⟩ := PTR_out h
    simp only [PTR] at h
    obtain ⟨hv, h, hh⟩ := boundV_out he h
    obtain ⟨lv, h, hl⟩ := boundV_out he h
    obtain ⟨⟨h0, h1, h2⟩, h⟩ := h
    refine ⟨_, h, fun w => ?_⟩
    have := he _ _ hx
    have hs := cellsOf_run hel w
    simp [Instr.sliceAt, Instr.sureAddr, underlying, hu, this, run_bounds2 h0 h1 h2 hl hh, hs, SLA]
    split <;> rfl
  · exact h.elim
theorem indexAddr_run {t : TypeId} {x i : Operand} {K : Value → Prop} (he : ∀ x v, e x = some v → ρ x = v) (h : indexAddrD P e t x i K) :
    ∃ v, K v ∧ ∀ w, (Instr.indexAt t (ρ x) (ρ i)).run P w = .ok v w := by
  unfold indexAddrD at h
  split at h
  · rename_i el p len cap hu hx
    obtain ⟨hel, h⟩ := elOk_out h
    obtain ⟨kd, n, hi, h⟩ := INTV_out h
    obtain ⟨⟨h0, h1⟩, h⟩ := h
    obtain ⟨a, rfl, h⟩ := PTR_out h
    refine ⟨_, h, fun w => ?_⟩
    have e1 := he _ _ hx
    have e2 := he _ _ hi
    have hs := cellsOf_run hel w
    simp [Instr.indexAt, asIntOf, underlying, hu, e1, e2, h0, h1, hs]
  · rename_i len el p hu hx
    obtain ⟨hel, h⟩ := elOk_out h
    obtain ⟨kd, n, hi, h⟩ := INTV_out h
    have h' : (0 ≤ n ∧ n < len) ∧ PTR p fun a => K (.pointer (some (a.add (n.toNat * P.cellsOf el)))) := by
      cases hc : isConstO i with
      | false => simpa [hc] using h
      | true =>
        by_cases hb : 0 ≤ n ∧ n < len
        · simp only [hc, cond_true, hb, and_self, decide_true] at h; exact ⟨hb, h⟩
        · simp [hc, hb] at h
    obtain ⟨⟨h0, h1⟩, h⟩ := h'
    obtain ⟨a, rfl, h⟩ := PTR_out h
    refine ⟨_, h, fun w => ?_⟩
    have e1 := he _ _ hx
    have e2 := he _ _ hi
    have hs := cellsOf_run hel w
    simp [Instr.indexAt, asIntOf, underlying, hu, e1, e2, h0, h1, hs, Instr.sureAddr]
  · exact h.elim
theorem isAgg_run {t : TypeId} {b : Bool} (h : isAggT P t = b) (hs : (P.underlying t).isSome = true) (w : World) : (isAgg t).run P w = .ok b w := by
  unfold isAggT at h
  unfold isAgg
  split at h
  · rename_i hu; simp [underlying, hu, ← h]
  · rename_i hu; simp [underlying, hu, ← h]
  · rename_i h1 h2
    cases hu : P.underlying t with
    | none => simp [hu] at hs
    | some d =>
      rw [hu] at h1 h2
      cases d <;> simp_all [underlying]
theorem part_run {t : TypeId} {cs : Array Value} {off : Nat} {K : Value → Prop} (h : partD P t cs.toList off K) : P.info? t ≠ none ∧ ∃ v, K v ∧ ∀ w, (part t cs off).run P w = .ok v w := by
  unfold partD at h
  split at h
  · exact h.elim
  · rename_i z hz
    have hi : P.info? t ≠ none := by
      intro hn
      simp [zeroOf, hn] at hz
    refine ⟨hi, ?_⟩
    cases hg : isAggT P t with
    | true =>
      simp only [hg, cond_true] at h
      obtain ⟨vs, _, hv, hk⟩ := LIKEL_out h
      refine ⟨_, hk, fun w => ?_⟩
      have hs := cellsOf_run hi w
      have hsome : (P.underlying t).isSome = true := by
        unfold isAggT at hg
        split at hg
        · rename_i hu; simp [hu]
        · rename_i hu; simp [hu]
        · cases hg
      have he : cs.extract off (off + P.cellsOf t) = ⟨vs⟩ := by
        apply Array.ext'
        rw [← hv]
        simp
      simp [part, isAgg_run hg hsome w, hs, he]
    | false =>
      simp only [hg, cond_false] at h
      cases hsome : (P.underlying t).isSome with
      | false => rw [hsome] at h; exact h.elim
      | true =>
        rw [hsome] at h
        simp only [cond_true] at h
        obtain ⟨v, hv, hk⟩ := LIKE1_out h
        refine ⟨v, hk, fun w => ?_⟩
        rw [Array.getElem?_toList] at hv
        simp [part, isAgg_run hg hsome w, hv]
theorem index_run {t : TypeId} {x i : Operand} {K : Value → Prop} (he : ∀ x v, e x = some v → ρ x = v) (h : indexD P e t x i K) :
    ∃ v, K v ∧ ∀ w, (Instr.index t (ρ x) (ρ i)).run P w = .ok v w := by
  unfold indexD at h
  split at h
  · rename_i s hu hx
    obtain ⟨kd, n, hi, h⟩ := INTV_out h
    obtain ⟨⟨h0, h1⟩, h⟩ := h
    refine ⟨_, h, fun w => ?_⟩
    have e1 := he _ _ hx
    have e2 := he _ _ hi
    have hlt : n.toNat < s.size := by omega
    have hg : s[n.toNat]? = some (sget s n.toNat) := by
      have h2 : n.toNat < s.data.toList.length := by simpa using hlt
      rw [getElem?_pos s n.toNat hlt]
      simp only [sget, List.getD_eq_getElem?_getD, List.getElem?_eq_getElem h2, Option.getD_some]
      rfl
    simp [Instr.index, asIntOf, underlying, hu, e1, e2, h0, hg]
  · rename_i len el cs hu hx
    obtain ⟨kd, n, hi, h⟩ := INTV_out h
    obtain ⟨⟨h0, h1⟩, h⟩ := h
    obtain ⟨hel, v, hk, hr⟩ := part_run h
    refine ⟨v, hk, fun w => ?_⟩
    have e1 := he _ _ hx
    have e2 := he _ _ hi
    have hs := cellsOf_run hel w
    simp [Instr.index, asIntOf, underlying, hu, e1, e2, h0, h1, hs, hr]
  · exact h.elim
theorem fieldAddr_run {s : TypeId} {x : Operand} {f : Nat} {K : Value → Prop} (he : ∀ x v, e x = some v → ρ x = v) (h : fieldAddrD P e s x f K) :
    ∃ v, K v ∧ ∀ w, (Instr.fieldAt s (ρ x) f).run P w = .ok v w := by
  unfold fieldAddrD at h
  split at h
  · rename_i fs hu
    split at h
    · rename_i fl hf
      cases hz : Nat.beq (P.cellsOf fl.type) 0 with
      | true => simp [hz] at h
      | false =>
        simp only [hz, cond_false] at h
        obtain ⟨a, hx, h⟩ := PTRV_out h
        have hne : P.cellsOf fl.type ≠ 0 := fun h0 => by rw [h0] at hz; simp at hz
        have e1 := he _ _ hx
        refine ⟨_, h, fun w => ?_⟩
        simp [Instr.fieldAt, underlying, hu, hf, e1, Instr.sureAddr, fieldPlace, runs_sizeOf hne, hne]
    · exact h.elim
  · exact h.elim
theorem known_agree {o : Oper} (he : ∀ x v, e x = some v → ρ x = v) (h : known e o = true) : ∀ x ∈ o.op.operands, rho e x = ρ x := by
  intro x hx
  unfold known at h
  have := List.all_eq_true.1 h x (Array.mem_toList_iff.2 hx)
  obtain ⟨v, hv⟩ := Option.isSome_iff_exists.1 this
  simp [rho, hv, he _ _ hv]
theorem default_run {o : Oper} {K : Value → Prop} (hs : ∀ cs b, o.op ≠ .select cs b) (he : ∀ x v, e x = some v → ρ x = v) (h : defaultD P e o K) :
    ∃ v, K v ∧ ∀ w, (execOp ρ o).run P w = .ok (.value v) w := by
  unfold defaultD at h
  cases hk : known e o with
  | false => simp [hk] at h
  | true =>
    simp only [hk, cond_true] at h
    split at h
    · rename_i v hv
      refine ⟨v, h, fun w => ?_⟩
      rw [← execOp_congr o hs (known_agree he hk)]
      exact runPure_run _ hv w
    · exact h.elim
theorem v_run {s : Sem Value} {v : Value} {w w' : World} (h : s.run P w = .ok v w') : (do pure (Next.value (← s)) : Sem Next).run P w = .ok (.value v) w' := by
  simp [h]
theorem dPure_run {o : Oper} {K : Value → Prop} (hs : ∀ cs b, o.op ≠ .select cs b) (he : ∀ x v, e x = some v → ρ x = v) (h : dPure P e o K) :
    ∃ v, K v ∧ ∀ w, (execOp ρ o).run P w = .ok (.value v) w := by
  unfold dPure at h
  split at h
  · rename_i x ho
    obtain ⟨v, hx, h⟩ := VAL_out h
    exact ⟨v, h, fun w => by simp [execOp, ho, he _ _ hx]⟩
  · rename_i x ho
    obtain ⟨v, hx, h⟩ := VAL_out h
    exact ⟨v, h, fun w => by simp [execOp, ho, he _ _ hx]⟩
  · rename_i c a b ho
    obtain ⟨t, hc, h⟩ := BOOLV_out h
    cases t with
    | true =>
      obtain ⟨v, hx, h⟩ := VAL_out h
      exact ⟨v, h, fun w => by simp [execOp, ho, he _ _ hx, he _ _ hc, asBool]⟩
    | false =>
      obtain ⟨v, hx, h⟩ := VAL_out h
      exact ⟨v, h, fun w => by simp [execOp, ho, he _ _ hx, he _ _ hc, asBool]⟩
  · rename_i x ho
    unfold nilD at h
    split at h
    · rename_i p hx
      obtain ⟨a, rfl, h⟩ := PTR_out h
      exact ⟨_, h, fun w => by simp [execOp, ho, he _ _ hx]⟩
    · rename_i f u c hx
      exact ⟨_, h, fun w => by simp [execOp, ho, he _ _ hx]⟩
    · rename_i f u c hx
      exact ⟨_, h, fun w => by simp [execOp, ho, he _ _ hx]⟩
    · exact h.elim
  · rename_i op t x y yt ho
    unfold binD at h
    have key : ∃ v, K v ∧ ∀ w, (do eqGuard op t x y (ρ x) (ρ y); binOp op t (ρ x) (ρ y) : Sem Value).run P w = .ok v w := by
      split at h
      · rename_i hy
        obtain ⟨u, hx, h⟩ := VAL_out h
        rw [he _ _ hx, he _ _ hy]
        exact eqOp_run x y h
      unfold binD2 at h
      split at h
      · rename_i k a k' b hx hy
        have h' : intOp op k k' a b K := by
          cases hc : isConstO y with
          | false => simpa [hc] using h
          | true => exact intOpC_intOp (by simpa [hc] using h)
        obtain ⟨v, hK, hr⟩ := binInt_run (P := P) t h'
        exact ⟨v, hK, fun w => by rw [he _ _ hx, he _ _ hy]; simp only [Sem.run_bind, guardInt, Result.andThen_ok, hr w]⟩
      · rename_i a b hx hy
        obtain ⟨v, hK, hr⟩ := binStr_run (P := P) t h
        exact ⟨v, hK, fun w => by rw [he _ _ hx, he _ _ hy]; simp only [Sem.run_bind, guardStr, Result.andThen_ok, hr w]⟩
      · rename_i u v _ _ hx hy
        rw [he _ _ hx, he _ _ hy]
        exact eqOp_run x y h
      · exact h.elim
    obtain ⟨v, hK, hr⟩ := key
    exact ⟨v, hK, fun w => by have := v_run (hr w); simpa only [execOp, ho] using this⟩
  · rename_i s x f ho
    obtain ⟨v, hK, hr⟩ := fieldAddr_run he h
    exact ⟨v, hK, fun w => by have := v_run (hr w); simpa only [execOp, ho] using this⟩
  · rename_i t x i ho
    obtain ⟨v, hK, hr⟩ := indexAddr_run he h
    exact ⟨v, hK, fun w => by have := v_run (hr w); simpa only [execOp, ho] using this⟩
  · rename_i t x i ho
    obtain ⟨v, hK, hr⟩ := index_run he h
    exact ⟨v, hK, fun w => by have := v_run (hr w); simpa only [execOp, ho] using this⟩
  · rename_i t x lo hi mx ho
    obtain ⟨v, hK, hr⟩ := sliceD_run he h
    exact ⟨v, hK, fun w => by have := v_run (hr w); simpa only [execOp, ho] using this⟩
  · exact default_run hs he h
/-! ### Loads -/
theorem LOADC_out : ∀ (zs : List Value) (a : Addr) (i : Nat) (k : List Value → Prop) (w : World), LOADC zs a i k w →
    ∃ vs, vs.length = zs.length ∧ k vs ∧ ∀ j v, vs[j]? = some v → w.cell? (a.add (i + j)) = some v
  | [], _, _, _, _, h => ⟨[], rfl, h, by simp⟩
  | z :: zs, a, i, k, w, h => by
    obtain ⟨v, hv, h⟩ := LIKEY_out h
    obtain ⟨vs, hl, hk, hc⟩ := LOADC_out zs a (i + 1) _ w h
    refine ⟨v :: vs, by simp [hl], hk, fun j u hu => ?_⟩
    cases j with
    | zero => simp at hu; subst hu; exact hv
    | succ j => simp at hu; have := hc j u hu; rwa [show i + 1 + j = i + (j + 1) by omega] at this
theorem holds_cons (x : Addr × Value) (h : Held) (w : World) : holds (x :: h) w ↔ w.cell? x.1 = some x.2 ∧ holds h w := by
  cases h <;> simp [holds]
theorem heldAt_holds (a : Addr) (w : World) : ∀ (vs : List Value) (i : Nat), holds (heldAt a vs i) w ↔ ∀ j v, vs[j]? = some v → w.cell? (a.add (i + j)) = some v
  | [], i => by simp [heldAt, holds]
  | v :: vs, i => by
    rw [heldAt, holds_cons, heldAt_holds a w vs (i + 1)]
    constructor
    · rintro ⟨h1, h2⟩ j u hu
      cases j with
      | zero => simp at hu; subst hu; exact h1
      | succ j => simp at hu; have := h2 j u hu; rwa [show i + 1 + j = i + (j + 1) by omega] at this
    · intro h
      refine ⟨h 0 v rfl, fun j u hu => ?_⟩
      have := h (j + 1) u (by simpa using hu)
      rwa [show i + 1 + j = i + (j + 1) by omega]
theorem loadD_run {t : TypeId} {x : Option Value} {k : Value → Held → Prop} {w : World} (h : loadD P t x k w) :
    ∃ a v hh, x = some (.pointer (some a)) ∧ k v hh ∧ holds hh w ∧ ∀ w', holds hh w' → (Instr.loadAt t (.pointer (some a))).run P w' = .ok v w' := by
  unfold loadD at h
  split at h
  · exact h.elim
  · rename_i z hz
    have hi : P.info? t ≠ none := by
      intro hn
      simp [zeroOf, hn] at hz
    cases hg : isAggT P t with
    | true =>
      simp only [hg, cond_true] at h
      cases hb : Nat.beq (P.cellsOf t) z.cells.toList.length with
      | false => rw [hb] at h; exact h.elim
      | true =>
        rw [hb] at h
        simp only [cond_true] at h
        obtain ⟨a, rfl, h⟩ := PTRV_out h
        obtain ⟨vs, hl, hk, hc⟩ := LOADC_out _ _ _ _ _ h
        refine ⟨a, _, _, rfl, hk, (heldAt_holds a w vs 0).2 hc, fun w' hh => ?_⟩
        have hc' := (heldAt_holds a w' vs 0).1 hh
        simp only [Nat.zero_add] at hc'
        have hag : (isAgg t).run P w' = .ok true w' := by
          unfold isAggT at hg
          unfold isAgg
          split at hg
          · rename_i hu; simp [underlying, hu]
          · rename_i hu; simp [underlying, hu]
          · cases hg
        have hsz := cellsOf_run hi w'
        have hn : P.cellsOf t = vs.length := by rw [hl]; exact Nat.eq_of_beq_eq_true hb
        have hl2 := run_loadCells_list (P := P) w' a vs hc'
        simp [Instr.loadAt, Instr.sureAddr, loadVar, hag, hsz, hn, hl2]
    | false =>
      simp only [hg, cond_false] at h
      cases hsome : (P.underlying t).isSome with
      | false => rw [hsome] at h; exact h.elim
      | true =>
      rw [hsome] at h
      simp only [cond_true] at h
      obtain ⟨a, rfl, h⟩ := PTRV_out h
      obtain ⟨vs, hl, hk, hc⟩ := LOADC_out _ _ _ _ _ h
      obtain ⟨v, rfl⟩ : ∃ v, vs = [v] := by
        cases vs with
        | nil => simp at hl
        | cons v r => cases r with
          | nil => exact ⟨v, rfl⟩
          | cons => simp at hl
      refine ⟨a, _, _, rfl, hk, (heldAt_holds a w [v] 0).2 hc, fun w' hh => ?_⟩
      have hc' := (heldAt_holds a w' [v] 0).1 hh 0 v rfl
      simp only [Nat.zero_add] at hc'
      have h0 : a.add 0 = a := by simp [Addr.add]
      rw [h0] at hc'
      have hag : (isAgg t).run P w' = .ok false w' := by
        unfold isAggT at hg
        unfold isAgg
        cases hu : P.underlying t with
        | none =>
          simp [hu] at hsome
        | some d => cases d <;> simp_all [underlying]
      simp [Instr.loadAt, Instr.sureAddr, loadVar, hag, hc']
/-! ### Stores, and what else acts -/
theorem STOREC_run (a : Addr) : ∀ (vs : List Value) (i : Nat) (k : World → Prop) (w : World), STOREC vs a i k w → ∃ w', k w' ∧ (storeCells a vs i).run P w = .ok () w'
  | [], i, k, w, h => ⟨w, h, by simp [storeCells]⟩
  | v :: vs, i, k, w, h => by
    unfold STOREC at h
    cases hv : v.oneCell' with
    | false => simp [hv] at h
    | true =>
      simp only [hv, cond_true] at h
      obtain ⟨h1, h2, h⟩ := h
      obtain ⟨u, hu⟩ := Option.isSome_iff_exists.1 h1
      obtain ⟨w', hk, hr⟩ := STOREC_run a vs (i + 1) k _ h
      refine ⟨w', hk, ?_⟩
      simp [storeCells, run_store P w (a.add i) v .plain hv, hu, h2, hr]
def Acts (P : Program) (kp : Pan) (s : Sem Next) (k : Value → World → Prop) (w : World) : Prop :=
  match s.run P w with
  | .ok (.value v) w' => k v w'
  | .ok .skip w' => k undef w'
  | .ok (.enter f args) w' => Calls P f args w' fun e w'' => (∃ v, e = .returned v ∧ k v w'') ∨ ∃ ch, e = .panicked ch ∧ panK kp ch w''
  | .ok (.round l f tmps assign body) w' => RoundIn Fence.wide 0 P l f tmps assign body w' fun e w'' => ∃ v, e = .returned v ∧ k v w''
  | .halt (.panic v) w' => panK kp [{ v, recovered := false }] w'
  | _ => False
theorem Acts.of_value {s : Sem Next} {k : Value → World → Prop} {w w' : World} {v : Value} (h : s.run P w = .ok (.value v) w') (hk : k v w') : Acts P kp s k w := by
  simp [Acts, h, hk]
theorem Acts.of_v {s : Sem Value} {k : Value → World → Prop} {w w' : World} {v : Value} (h : s.run P w = .ok v w') (hk : k v w') : Acts P kp (do pure (.value (← s))) k w :=
  Acts.of_value (v_run h) hk
theorem Acts.of_u {s : Sem Unit} {k : Value → World → Prop} {w w' : World} (h : s.run P w = .ok () w') (hk : k undef w') : Acts P kp (do s; pure .skip) k w := by
  simp [Acts, h, hk]
theorem OPQ_acts {s : Sem Value} {z : Value} {k : Value → World → Prop} {w : World} (h : OPQ P s z k w) : Acts P kp (do pure (.value (← s))) k w := by
  unfold OPQ at h
  split at h
  · rename_i v w' hr
    obtain ⟨u, rfl, hk⟩ := LIKER_out h
    exact Acts.of_v hr hk
  · exact h.elim
theorem OPN_acts {s : Sem Value} {k : Value → World → Prop} {w : World} (h : OPN P s (fun w' => k (.tuple #[.bool false]) w') (fun x y w' => k (.tuple #[.bool true, x, y]) w') w) : Acts P kp (do pure (.value (← s))) k w := by
  unfold OPN at h
  split at h
  · rename_i v w' hr
    rcases h with ⟨rfl, hk⟩ | ⟨x, y, rfl, hk⟩
    · exact Acts.of_v hr hk
    · exact Acts.of_v hr hk
  · exact h.elim
theorem OPU_acts {s : Sem Unit} {k : Value → World → Prop} {w : World} (h : OPU P s (fun w' => k undef w') w) : Acts P kp (do s; pure .skip) k w := by
  unfold OPU at h
  split at h
  · rename_i v w' hr
    exact Acts.of_u hr h
  · exact h.elim
theorem evalL_out : ∀ {xs : List Operand} {vs : List Value}, (∀ x v, e x = some v → ρ x = v) → evalL e xs = some vs → xs.map ρ = vs
  | [], vs, _, h => by simp [evalL] at h; subst h; rfl
  | x :: xs, vs, he, h => by
    unfold evalL at h
    split at h
    · rename_i v us hx hxs
      simp at h
      subst h
      simp [he _ _ hx, evalL_out he hxs]
    · cases h
theorem enters_run {f : FuncId} (h : enters P f = true) (args : Array Value) (w : World) : (callFunc f args).run P w = .ok (.enter f args) w := by
  unfold enters at h
  split at h
  · rename_i fn hf
    simp only [Bool.and_eq_true, Bool.not_eq_true'] at h
    have hb : fn.body ≠ none := by intro hh; simp [hh] at h
    have hn : fn.name ≠ "runtime.NumGoroutine" := by simpa using h.2
    simp [callFunc, hf, hn, hb]
  · cases h
theorem FUNV_out {x : Option Value} {k : FuncId → Array Value → Array Value → Prop} (h : FUNV x k) : ∃ g fi ca, x = some (.func (.func g) fi ca) ∧ k g fi ca := by
  unfold FUNV at h
  split at h
  · exact ⟨_, _, _, rfl, h⟩
  · exact h.elim
theorem DYNV_out {x : Option Value} {k : FuncId → Array Value → Array Value → Prop} {y : Nat → Prop} (h : DYNV x k y) : (∃ g fi ca, x = some (.func (.func g) fi ca) ∧ k g fi ca) ∨ (∃ l, x = some (.func (.yield l) #[] #[]) ∧ y l) := by
  unfold DYNV at h
  split at h
  · exact .inl ⟨_, _, _, rfl, h⟩
  · rename_i l fi ca
    cases h1 : fi.toList.isEmpty && ca.toList.isEmpty with
    | false => rw [h1] at h; exact h.elim
    | true =>
      rw [h1] at h
      simp only [Bool.and_eq_true, List.isEmpty_iff] at h1
      have e1 : fi = #[] := by cases fi; simp_all
      have e2 : ca = #[] := by cases ca; simp_all
      subst e1 e2
      exact .inr ⟨l, rfl, h⟩
  · exact h.elim
theorem dLoud_acts {o : Oper} {k : Value → World → Prop} {w : World} (he : ∀ x v, e x = some v → ρ x = v) (h : dLoud P kp e o k w) : Acts P kp (execOp ρ o) k w := by
  obtain ⟨dst, op, type, pos, after, guard⟩ := o
  unfold dLoud at h
  split at h
  · rename_i t ho
    cases ho
    split at h
    · rename_i z hz
      have hr : (Instr.alloc t true (.tuple #[])).run P w = .ok (.pointer (some ⟨w.heap.size, 0, none⟩)) (w.alloc (.cells z.cells t)) := by
        unfold zeroOf at hz
        split at hz
        · rename_i i hi
          simp [Instr.alloc, zeroValue, typeInfo, hi, hz, newVar, newRow]
        · cases hz
      exact Acts.of_v hr h
    · exact h.elim
  · rename_i t x ho
    cases ho
    obtain ⟨v, hx, h⟩ := VAL_out h
    have hr : (Instr.box t (ρ x)).run P w = .ok (.pointer (some ⟨w.heap.size, 0, none⟩)) (w.alloc (.cells v.cells t)) := by
      simp [Instr.box, newVar, newRow, he _ _ hx]
    exact Acts.of_v hr h
  · rename_i t len parts ho
    cases ho
    cases hk : known e ⟨dst, .buildSlice t len parts, type, pos, after, guard⟩ with
    | false => rw [hk] at h; exact h.elim
    | true =>
      rw [hk] at h
      simp only [cond_true] at h
      split at h
      · rename_i el c hc
        unfold buildSliceCells at hc
        split at hc
        · rename_i el' hu
          split at hc
          · rename_i i hi
            split at hc
            · rename_i z hz
              cases hl0 : Nat.beq len 0 && parts.toList.isEmpty with
              | true =>
                rw [hl0] at hc
                simp only [cond_true, Option.some.injEq, Prod.mk.injEq] at hc
                obtain ⟨rfl, rfl⟩ := hc
                simp only [Bool.and_eq_true, List.isEmpty_iff] at hl0
                have hz0 : len = 0 := Nat.eq_of_beq_eq_true hl0.1
                subst hz0
                have hp0 : parts = #[] := by simpa using hl0.2
                subst hp0
                have hr : (Instr.buildSlice t 0 ((#[] : Array (Nat × Operand)).map fun (j, x) => (j, ρ x))).run P w = .ok (.slice (some ⟨w.heap.size, 0, none⟩) 0 0) (w.alloc (.cells #[] el')) := by
                  simp only [Instr.buildSlice, Sem.run_bind, runs_underlying hu, Result.andThen_ok, sizeOf, typeInfo, run_program, hi, Sem.run_pure]
                  simp [Instr.fill, newRow]
                  congr 2
                  exact Array.eq_empty_of_size_eq_zero (by simp)
                exact Acts.of_v hr h
              | false =>
              rw [hl0] at hc
              simp only [cond_false] at hc
              cases hb : (Nat.blt (2 ^ 24) (len * i.size)) || (Nat.beq (len * i.size) 0) with
              | true => simp only [hb, cond_true] at hc; cases hc
              | false =>
                simp only [hb, cond_false] at hc
                obtain ⟨c', hc', heq⟩ := Option.map_eq_some_iff.1 hc
                simp only [Prod.mk.injEq] at heq
                obtain ⟨rfl, rfl⟩ := heq
                simp only [Bool.or_eq_false_iff] at hb
                have hb1 : ¬ len * i.size > 2 ^ 24 := by
                  intro hgt
                  have : Nat.blt (2 ^ 24) (len * i.size) = true := by
                    rw [Nat.blt, Nat.ble_eq]; exact hgt
                  rw [this] at hb
                  exact absurd hb.1 (by simp)
                have hb2 : ¬ len * i.size = 0 := by
                  intro h0
                  rw [h0] at hb
                  exact absurd hb.2 (by decide)
                have hag := known_agree he hk
                have hparts : (parts.map fun (j, x) => (j, ρ x)).toList = parts.toList.map fun p => (p.1, rho e p.2) := by
                  rw [Array.toList_map]
                  refine List.map_congr_left fun p hp => ?_
                  obtain ⟨j, x⟩ := p
                  have := hag x (by simp only [Op.operands]; exact List.mem_toArray.2 (List.mem_map.2 ⟨(j, x), hp, rfl⟩))
                  simp [this]
                have hr : (Instr.buildSlice t len (parts.map fun (j, x) => (j, ρ x))).run P w = .ok (.slice (some ⟨w.heap.size, 0, none⟩) len len) (w.alloc (.cells c' el')) := by
                  simp only [Instr.buildSlice, Sem.run_bind, runs_underlying hu, Result.andThen_ok, sizeOf, typeInfo, run_program, hi, Sem.run_pure, hb1, if_false, hb2, zeroValue, hz, hparts, hc', newRow, run_newObj]
                  rfl
                exact Acts.of_v hr h
            · cases hc
          · cases hc
        · cases hc
      · exact h.elim
  · rename_i t a x ho
    cases ho
    obtain ⟨v, hx, h⟩ := VAL_out h
    obtain ⟨p, ha, h⟩ := PTRV_out h
    cases hb : Nat.beq v.cells.size (P.cellsOf t) && elOk P t with
    | false => rw [hb] at h; exact h.elim
    | true =>
      rw [hb] at h
      simp only [cond_true] at h
      obtain ⟨w', hk, hr⟩ := STOREC_run (P := P) p _ _ _ _ h
      simp only [Bool.and_eq_true] at hb
      have hsz : v.cells.size = P.cellsOf t := Nat.eq_of_beq_eq_true hb.1
      have hi : P.info? t ≠ none := by
        intro hn
        have := hb.2
        simp [elOk, hn] at this
      have hst : (Instr.storeAt t (ρ a) (ρ x)).run P w = .ok () w' := by
        simp [Instr.storeAt, Instr.sureAddr, storeVar, he _ _ hx, he _ _ ha, cellsOf_run hi, hsz, hr]
      exact Acts.of_u hst hk
  · rename_i c ho
    cases ho
    split at h
    · rename_i b hcal
      cases hk : known e ⟨dst, .call c, type, pos, after, guard⟩ with
      | false => rw [hk] at h; exact h.elim
      | true =>
        rw [hk] at h
        simp only [cond_true] at h
        split at h
        · rename_i z hz
          have hag := known_agree he hk
          have hargs : c.args.map (rho e) = c.args.map ρ := Array.map_congr_left fun x hx => hag x (by simp [Op.operands, Call.operands, hx])
          rw [hargs] at h
          split at h
          · have := OPQ_acts (kp := kp) h
            simpa [Acts, execOp, resolve, hcal, invoke, builtin] using this
          · have := OPQ_acts (kp := kp) h
            simpa [Acts, execOp, resolve, hcal, invoke, builtin] using this
          · have := OPQ_acts (kp := kp) h
            simpa [Acts, execOp, resolve, hcal, invoke, builtin] using this
          · have := OPQ_acts (kp := kp) h
            simpa [Acts, execOp, resolve, hcal, invoke, builtin] using this
          · have := OPQ_acts (kp := kp) h
            simpa [Acts, execOp, resolve, hcal, invoke, builtin] using this
          · exact h.elim
        · exact h.elim
    · rename_i f hcal
      split at h
      · rename_i vs z hvs hz
        have hargs : c.args.map ρ = ⟨vs⟩ := by
          rw [← evalL_out he hvs]
          exact Array.ext' (by simp)
        rcases DYNV_out h with ⟨g, first, captured, hf, h⟩ | ⟨l, hf, h⟩
        · cases hen : enters P g with
          | false => rw [hen] at h; exact h.elim
          | true =>
            rw [hen] at h
            simp only [cond_true] at h
            have hr : (execOp ρ ⟨dst, .call c, type, pos, after, guard⟩).run P w = .ok (.enter g ⟨first.toList ++ vs ++ captured.toList⟩) w := by
              have ha : first ++ (⟨vs⟩ : Array Value) ++ captured = ⟨first.toList ++ vs ++ captured.toList⟩ := Array.ext' (by simp)
              simp only [execOp, resolve, hcal, hargs, Sem.run_bind, Deferred.ofValue, he _ _ hf, Sem.run_pure, Result.andThen_ok, invoke, enters_run hen, ha]
            unfold Acts
            rw [hr]
            cases kp with
            | none =>
              refine Calls.mono h ?_
              intro en w' hh
              obtain ⟨v, hv, hk⟩ := LIKED_out hh
              exact .inl ⟨v, hv, hk⟩
            | some p =>
              refine Calls.mono h ?_
              intro en w' hh
              rcases hh with hh | hh
              · obtain ⟨v, hv, hk⟩ := LIKED_out hh
                exact .inl ⟨v, hv, hk⟩
              · exact .inr hh
        · obtain ⟨fn, tmps, as, bo, hy, hround⟩ := h
          have hr : (execOp ρ ⟨dst, .call c, type, pos, after, guard⟩).run P w = .ok (.round l fn tmps as bo) w := by
            simp only [execOp, resolve, hcal, hargs, Sem.run_bind, Deferred.ofValue, he _ _ hf, Sem.run_pure, Result.andThen_ok, invoke]
            simpa using hy
          unfold Acts
          rw [hr]
          exact RoundIn.mono hround fun en w' ⟨t, hv, hk⟩ => ⟨_, hv, hk⟩
      · exact h.elim
    · exact h.elim
  · rename_i s d x ho
    cases ho
    obtain ⟨v, hx, h⟩ := VAL_out h
    split at h
    · have := OPQ_acts (kp := kp) h; simpa only [execOp, he _ _ hx] using this
    · exact h.elim
  · rename_i t l c ho
    cases ho
    obtain ⟨u, hl, h⟩ := VAL_out h
    obtain ⟨v, hc, h⟩ := VAL_out h
    split at h
    · have := OPQ_acts (kp := kp) h; simpa only [execOp, he _ _ hl, he _ _ hc] using this
    · exact h.elim
  · rename_i t ho
    cases ho
    split at h
    · have := OPQ_acts (kp := kp) h; simpa only [execOp, Option.map_none] using this
    · exact h.elim
  · rename_i t x i ok ho
    cases ho
    obtain ⟨u, hl, h⟩ := VAL_out h
    obtain ⟨v, hc, h⟩ := VAL_out h
    split at h
    · have := OPQ_acts (kp := kp) h; simpa only [execOp, he _ _ hl, he _ _ hc] using this
    · exact h.elim
  · rename_i t m i x ho
    cases ho
    obtain ⟨u, hl, h⟩ := VAL_out h
    obtain ⟨v, hc, h⟩ := VAL_out h
    obtain ⟨y, hy, h⟩ := VAL_out h
    have := OPU_acts (kp := kp) h
    simpa only [execOp, he _ _ hl, he _ _ hc, he _ _ hy] using this
  · rename_i t x ho
    cases ho
    obtain ⟨u, hl, h⟩ := VAL_out h
    have := OPQ_acts (kp := kp) h
    simpa only [execOp, he _ _ hl] using this
  · rename_i i s ho
    cases ho
    obtain ⟨u, hl, h⟩ := VAL_out h
    have := OPN_acts (kp := kp) h
    simpa only [execOp, he _ _ hl] using this
  · rename_i i ho
    cases ho
    obtain ⟨u, hl, h⟩ := VAL_out h
    split at h
    · have := OPQ_acts (kp := kp) h; simpa only [execOp, he _ _ hl] using this
    · exact h.elim
  · rename_i t m i ho
    cases ho
    obtain ⟨u, hl, h⟩ := VAL_out h
    obtain ⟨v, hc, h⟩ := VAL_out h
    have := OPQ_acts (kp := kp) h
    simpa only [execOp, he _ _ hl, he _ _ hc] using this
  · rename_i t m i x ho
    cases ho
    obtain ⟨u, hl, h⟩ := VAL_out h
    obtain ⟨v, hc, h⟩ := VAL_out h
    obtain ⟨y, hy, h⟩ := VAL_out h
    have := OPU_acts (kp := kp) h
    simpa only [execOp, he _ _ hl, he _ _ hc, he _ _ hy] using this
  · rename_i op t x y ty ho
    cases ho
    obtain ⟨u, hl, h⟩ := VAL_out h
    obtain ⟨v, hc, h⟩ := VAL_out h
    split at h
    · rename_i p q _
      have := OPQ_acts (kp := kp) h
      have hg : (eqGuard op t x y (.pointer p) (.pointer q) >>= fun _ => binOp op t (.pointer p) (.pointer q)) = binOp op t (.pointer p) (.pointer q) := by
        cases op <;> simp [eqGuard]
      simpa only [execOp, he _ _ hl, he _ _ hc, hg] using this
    · exact h.elim
  · rename_i x ho
    cases ho
    unfold PANV at h
    split at h
    · exact h.elim
    · rename_i p
      split at h
      · rename_i t v hv
        have hr : (execOp ρ ⟨dst, .panic x, type, pos, after, guard⟩).run P w = .halt (.panic (.iface t v)) w := by
          simp [execOp, he _ _ hv, Instr.panic, goPanic]
        unfold Acts
        rw [hr]
        exact h
      · exact h.elim
  · exact h.elim
end
end Go.Dn
namespace Go.Dn
set_option linter.unusedVariables false
set_option maxRecDepth 100000
/-! ## Frames -/
def Agrees (fr : Fr) (a : Act) : Prop := ∀ i v, look fr i = some v → a.tmps[i]? = some v
theorem look_cons (j : Nat) (v : Value) (fr : Fr) (i : Nat) : look ((j, v) :: fr) i = if j = i then some v else look fr i := by
  show (bif Nat.beq j i then some v else look fr i) = _
  by_cases h : j = i
  · subst h; simp
  · have : Nat.beq j i = false := by
      cases hb : Nat.beq j i with
      | false => rfl
      | true => exact absurd (Nat.eq_of_beq_eq_true hb) h
    rw [this]; simp [h]
theorem Agrees.eval {fr : Fr} {a : Act} (h : Agrees fr a) : ∀ x v, evalO fr x = some v → a.eval x = v
  | .tmp t, v, hx => by have := h t v hx; simp [Act.eval, this]
  | .const u, v, hx => by simpa [evalO, Act.eval] using hx
  | .global g, v, hx => by simpa [evalO, Act.eval] using hx
  | .func f, v, hx => by simpa [evalO, Act.eval] using hx
theorem Agrees.put {fr : Fr} {a : Act} {n : Nat} (h : Agrees fr a) (hn : a.tmps.size = n) (d : Option Nat) (v : Value) : Agrees (put n fr d v) (a.put d v) := by
  cases d with
  | none => exact h
  | some d =>
    intro i u hu
    unfold Dn.put at hu
    simp only [Act.put]
    cases hb : Nat.blt d n with
    | true =>
      have hd : d < n := by rw [Nat.blt, Nat.ble_eq] at hb; exact hb
      simp only [hb, cond_true, look_cons] at hu
      by_cases hi : d = i
      · subst hi
        simp only [if_true] at hu
        cases hu
        simp [hn, hd]
      · simp only [hi, if_false] at hu
        rw [Array.getElem?_setIfInBounds_ne hi]
        exact h i u hu
    | false =>
      simp only [hb, cond_false] at hu
      have hd : ¬ d < n := by
        intro hd
        have : Nat.blt d n = true := by rw [Nat.blt, Nat.ble_eq]; exact hd
        rw [this] at hb
        cases hb
      have h1 := h i u hu
      have hi : i < a.tmps.size := (Array.getElem?_eq_some_iff.1 h1).1
      rw [Array.getElem?_setIfInBounds_ne (by omega)]
      exact h1
theorem Agrees.again {fr : Fr} {a : Act} {i : Nat} {v : Value} (h : Agrees fr a) (hl : look fr i = some v) : Agrees ((i, v) :: fr) a := by
  intro j u hu
  rw [look_cons] at hu
  by_cases hij : i = j
  · subst hij; simp at hu; subst hu; exact h _ _ hl
  · simp only [hij, if_false] at hu; exact h _ _ hu
structure St (n : Nat) (a0 : Act) (W : Nat → Bool) (nr : Bool) (a : Act) : Prop where
  size : a.tmps.size = n
  defers : nr = true → a.defers = a0.defers
  same : ∀ i, W i = false → a.tmps[i]? = a0.tmps[i]?
theorem St.put {n : Nat} {a0 a : Act} {W : Nat → Bool} {nr : Bool} (h : St n a0 W nr a) (d : Option Nat) (v : Value) (hd : ∀ i, d = some i → W i = true) : St n a0 W nr (a.put d v) := by
  cases d with
  | none => exact h
  | some d =>
    refine ⟨by simp [Act.put, h.size], h.defers, fun i hi => ?_⟩
    have hne : d ≠ i := by
      intro he
      subst he
      rw [hd d rfl] at hi
      cases hi
    simp only [Act.put]
    rw [Array.getElem?_setIfInBounds_ne hne]
    exact h.same i hi
/-! ## One operation -/
section
variable {P : Program} {kp : Pan} {n : Nat} {ops : Array Oper} {a0 : Act}
theorem guardD_out {o : Oper} {fr : Fr} {A B : Fr → Prop} {a : Act} (hg : Agrees fr a) (h : guardD ops o fr A B) :
    (Region.wanted o (yielded ops a.tmps) = true ∧ ∃ fr', Agrees fr' a ∧ A fr') ∨ (Region.wanted o (yielded ops a.tmps) = false ∧ ∃ fr', Agrees fr' a ∧ B fr') := by
  unfold guardD at h
  split at h
  · rename_i ho
    exact .inl ⟨by simp [Region.wanted, ho], fr, hg, h⟩
  · rename_i j want ho
    split at h
    · exact h.elim
    · rename_i d hd
      split at h
      · rename_i b hb
        have hy : yielded ops a.tmps j = some b := by simp [yielded, hd, hg d _ hb]
        cases b with
        | true =>
          have hag := hg.again hb
          cases want with
          | true => exact .inl ⟨by simp [Region.wanted, ho, hy], _, hag, h⟩
          | false => exact .inr ⟨by simp [Region.wanted, ho, hy], _, hag, h⟩
        | false =>
          have hag := hg.again hb
          cases want with
          | true => exact .inr ⟨by simp [Region.wanted, ho, hy], _, hag, h⟩
          | false => exact .inl ⟨by simp [Region.wanted, ho, hy], _, hag, h⟩
      · rename_i vs hb
        have hy : yielded ops a.tmps j = none := by simp [yielded, hd, hg d _ hb]
        exact .inr ⟨by simp [Region.wanted, ho, hy], fr, hg, h⟩
      · exact h.elim
theorem pure_notSelect {o : Oper} (h : isPure P o = true) : ∀ cs b, o.op ≠ .select cs b := by
  intro cs b ho
  simp [isPure, ho] at h
theorem Acts.mono {s : Sem Next} {k k' : Value → World → Prop} {w : World} (h : Acts P kp s k w) (hk : ∀ v w', k v w' → k' v w') : Acts P kp s k' w := by
  unfold Acts at *
  split at h
  · exact hk _ _ h
  · exact hk _ _ h
  · exact Calls.mono h fun e w'' hh => hh.imp (fun ⟨v, he, hh⟩ => ⟨v, he, hk _ _ hh⟩) id
  · exact RoundIn.mono h fun e w'' ⟨v, he, hh⟩ => ⟨v, he, hk _ _ hh⟩
  · exact h
  · exact h.elim
theorem dOp_acts {fr : Fr} {a : Act} {o : Oper} {k : Value → Held → World → Prop} {w : World} (hg : Agrees fr a) (h : dOp P kp (evalO fr) o k w) :
    Acts P kp (execOp a.eval o) (fun v w' => ∃ hh, k v hh w') w := by
  unfold dOp at h
  split at h
  · rename_i hc
    have hp : isPure P o = true := by
      unfold cls at hc
      cases hh : isPure P o with
      | true => rfl
      | false => simp only [hh, cond_false] at hc; split at hc <;> cases hc
    obtain ⟨v, hk, hr⟩ := dPure_run (pure_notSelect hp) hg.eval h
    exact Acts.of_value (hr w) ⟨_, hk⟩
  · split at h
    · rename_i t x ho
      obtain ⟨ad, v, hh, hx, hk, hholds, hr⟩ := loadD_run h
      have hr' := hr w hholds
      have he := hg.eval _ _ hx
      have hv : (execOp a.eval o).run P w = .ok (.value v) w := by
        simp only [execOp, ho, he, Sem.run_bind, hr', Result.andThen_ok, Sem.run_pure]
      exact Acts.of_value hv ⟨_, hk⟩
    · exact h.elim
  · exact (dLoud_acts hg.eval h).mono fun v w' hk => ⟨_, hk⟩
theorem dOpR_acts {fr : Fr} {a : Act} {o : Oper} {rest : List Oper} {k : Value → Held → World → Prop} {w : World} (hg : Agrees fr a) (h : dOpR P kp (evalO fr) o rest k w) :
    Acts P kp (execOp a.eval o) (fun v w' => ∃ hh, k v hh w') w := by
  unfold dOpR at h
  split at h
  · rename_i i ho
    obtain ⟨u, hl, h⟩ := VAL_out h
    have he := hg.eval _ _ hl
    have := OPQ_acts (kp := kp) h
    have h2 : Acts P kp (execOp a.eval o) (fun v w' => k v [] w') w := by
      obtain ⟨dst, op, type, pos, after, guard⟩ := o
      cases ho
      simpa only [execOp, he] using this
    exact h2.mono fun v w' hk => ⟨_, hk⟩
  · exact dOp_acts hg h
def actA (P : Program) (kp : Pan) (o : Oper) (a : Act) (w : World) (K : Act → World → Prop) : Prop := Acts P kp (execOp a.eval o) (fun v w' => K (a.put o.dst v) w') w
def wpOpA (P : Program) (kp : Pan) (ops : Array Oper) (i : Nat) (K : Act → World → Prop) (a : Act) (w : World) : Prop :=
  match ops[i]? with
  | none => K a w
  | some o => if Region.wanted o (yielded ops a.tmps) then actA P kp o a w K else K (a.put o.dst undef) w
def wpOpsA (P : Program) (kp : Pan) (ops : Array Oper) (Q : Act → World → Prop) : List Nat → Act → World → Prop
  | [], a, w => Q a w
  | i :: rest, a, w => wpOpA P kp ops i (wpOpsA P kp ops Q rest) a w
theorem wpOpA_mono {i : Nat} {a : Act} {w : World} {K K' : Act → World → Prop} (h : ∀ a w, K a w → K' a w) (hh : wpOpA P kp ops i K a w) : wpOpA P kp ops i K' a w := by
  unfold wpOpA at *
  split
  · exact h _ _ (by simpa [*] using hh)
  · rename_i o ho
    simp only [ho] at hh
    split
    · rename_i hw; simp only [hw, if_true] at hh; exact Acts.mono hh fun v w' => h _ _
    · rename_i hw; simp only [hw] at hh; exact h _ _ hh
def FF (r : Option Nat) : Fence := { fn := fun _ => True, depth := none, alive := false, round := r }
theorem FF_room (r : Option Nat) (m : Nat) : (FF r).room m := fun d hd => by cases hd
theorem defer_acts {c : Call} {l : Nat} {dst : Option Tmp} {type : TypeId} {pos : _} {after : _} {guard : _} {ρ : Operand → Value} {k : Value → World → Prop} {w : World} (h : Acts P kp (execOp ρ ⟨dst, .defer c, type, pos, after, guard⟩) k w) :
    (do Instr.deferInRound l (← resolve ρ c type); pure .skip : Sem Next).run P w = (execOp ρ ⟨dst, .defer c, type, pos, after, guard⟩).run P w := by
  unfold Acts at h
  simp only [execOp, Sem.run_bind] at h ⊢
  generalize (resolve ρ c type).run P w = r at h ⊢
  cases r with
  | ok d w' => simp [Result.andThen] at h
  | halt x w' => rfl
theorem wpIn_of_acts {o : Oper} {a : Act} {w : World} {K : Act → World → Prop} {Q : Exit → Act → World → Prop} (r : Option Nat) (m : Nat) (h : actA P kp o a w K) (hP : ∀ ch w, panK kp ch w → Q (.panic ch) a w) : o.wpIn (FF r) m P a w K Q := by
  refine ⟨fun _ _ => trivial, ?_⟩
  have hs : (o.semAt (FF r).round a.eval).run P w = (execOp a.eval o).run P w := by
    unfold Oper.semAt
    split
    · rename_i l c hr ho
      obtain ⟨dst, op, type, pos, after, guard⟩ := o
      simp only at ho
      subst ho
      exact defer_acts h
    · rfl
  rw [hs]
  unfold actA Acts at h
  split at h
  · rename_i v w' hr; rw [hr]; exact h
  · rename_i w' hr; rw [hr]; exact h
  · rename_i f args w' hr
    rw [hr]
    refine ⟨fun hd => (by cases hd), ?_⟩
    refine CallsIn.mono (F := FF r) (R := fun e w'' => (∃ v, e = .returned v ∧ K (a.put o.dst v) w'') ∨ ∃ ch, e = .panicked ch ∧ panK kp ch w'') (callsIn_wide.2 h) fun e w'' hh => ?_
    rcases hh with ⟨v, he, hk⟩ | ⟨ch, he, hk⟩
    · subst he; exact hk
    · subst he; exact hP _ _ hk
  · rename_i l f tmps assign body w' hr
    rw [hr]
    refine ⟨fun hd => (by cases hd), ?_⟩
    have h2 : RoundIn (FF r) (m - 1) P l f tmps assign body w' fun e w'' => ∃ v, e = .returned v ∧ K (a.put o.dst v) w'' := ⟨trivial, fun c cs _ => h.2 c cs (FF_room none _)⟩
    exact RoundIn.mono h2 fun e w'' ⟨v, he, hk⟩ => by subst he; exact hk
  · rename_i v w' hr
    rw [hr]
    exact hP _ _ h
  · exact h.elim
theorem opsWrite_mem {o : Oper} {i : Nat} : ∀ {l : List Oper}, o ∈ l → o.dst = some i → opsWrite i l = true
  | x :: l, hm, hd => by
    unfold opsWrite
    rcases List.mem_cons.1 hm with rfl | hm
    · simp [hd]
    · simp [opsWrite_mem hm hd]
theorem St.putOp {a : Act} (h : St n a0 (fun i => opsWrite i ops.toList) true a) {i : Nat} {o : Oper} (ho : ops[i]? = some o) (v : Value) : St n a0 (fun i => opsWrite i ops.toList) true (a.put o.dst v) :=
  h.put o.dst v fun _ hi => opsWrite_mem (Array.mem_toList_iff.2 (Array.mem_of_getElem? ho)) hi
theorem wpOpsIn_of_A {Q : Act → World → Prop} {Q' : Exit → Act → World → Prop} (r : Option Nat) (m : Nat) (hQ : ∀ a w, Q a w → Q' .normal a w) (hP : ∀ a ch w, St n a0 (fun i => opsWrite i ops.toList) true a → panK kp ch w → Q' (.panic ch) a w) : ∀ (l : List Nat) (a : Act) (w : World), St n a0 (fun i => opsWrite i ops.toList) true a → wpOpsA P kp ops Q l a w → wpOpsIn (FF r) m P ops Q' l a w
  | [], a, w, _, h => hQ a w h
  | i :: rest, a, w, hst, h => by
    unfold wpOpsA wpOpA at h
    rw [wpOpsIn_cons]
    unfold wpOpIn
    split at h
    · rename_i ho
      simp only [ho]
      exact wpOpsIn_of_A r m hQ hP rest a w hst h
    · rename_i o ho
      simp only [ho]
      split at h
      · rename_i hw
        rw [if_pos hw]
        exact wpIn_of_acts r m (Acts.mono h fun v w' hk => wpOpsIn_of_A r m hQ hP rest _ w' (hst.putOp ho v) hk) fun ch w' hk => hP _ _ _ hst hk
      · rename_i hw
        rw [if_neg hw]
        exact ⟨fun _ _ => trivial, wpOpsIn_of_A r m hQ hP rest _ w (hst.putOp ho _) h⟩
/-! ## Operations in the order of the text -/
def marks (ms : List Nat) : List Deferred := ms.map fun d => { target := .collected d, args := #[] }
def Lift (n : Nat) (a0 : Act) (W : Nat → Bool) (nr : Bool) (K : Exit → Fr → List Nat → World → Prop) (e : Exit) (a : Act) (w : World) : Prop :=
  St n a0 W nr a ∧ ∃ fr ms, Agrees fr a ∧ a.defers = marks ms ∧ K e fr ms w
def LiftO (n : Nat) (a0 : Act) (W : Nat → Bool) (K : Fr → World → Prop) (a : Act) (w : World) : Prop := St n a0 W true a ∧ ∃ fr, Agrees fr a ∧ K fr w
theorem dOps_sound {K : Fr → World → Prop} : ∀ (l : List Oper) (j : Nat), ops.toList.drop j = l → ∀ (fr : Fr) (w : World) (a : Act), Agrees fr a → St n a0 (fun i => opsWrite i ops.toList) true a →
    dOps P kp n ops l fr K w → wpOpsA P kp ops (LiftO n a0 (fun i => opsWrite i ops.toList) K) (List.range' j l.length) a w
  | [], _, _, fr, w, a, hg, hst, h => ⟨hst, fr, hg, h⟩
  | o :: l, j, hl, fr, w, a, hg, hst, h => by
    have hlt : j < ops.toList.length := by
      rcases Nat.lt_or_ge j ops.toList.length with h' | h'
      · exact h'
      · rw [List.drop_eq_nil_of_le h'] at hl; cases hl
    have hcons := List.drop_eq_getElem_cons hlt
    rw [hl] at hcons
    injection hcons with h1 h2
    have hget : ops[j]? = some o := by
      have hj : j < ops.size := by simpa using hlt
      rw [Array.getElem?_eq_getElem hj]
      rw [h1]
      simp
    have hmem : o ∈ ops.toList := by rw [h1]; exact List.getElem_mem _
    have hw : ∀ i, o.dst = some i → opsWrite i ops.toList = true := fun i hi => opsWrite_mem hmem hi
    simp only [List.length_cons, List.range'_succ, wpOpsA, wpOpA, hget]
    rcases guardD_out hg h with ⟨hwant, fr', hg', h'⟩ | ⟨hwant, fr', hg', h'⟩
    · simp only [hwant, if_true]
      refine Acts.mono (dOpR_acts hg' h') ?_
      rintro v w' ⟨hh, hk⟩
      exact dOps_sound l (j + 1) h2.symm _ w' _ (hg'.put hst.size o.dst v) (hst.put o.dst v hw) hk
    · simp only [hwant]
      exact dOps_sound l (j + 1) h2.symm _ w _ (hg'.put hst.size o.dst undef) (hst.put o.dst undef hw) h'
end
end Go.Dn
namespace Go.Dn
set_option linter.unusedVariables false
set_option maxRecDepth 100000
section
variable {P : Program} {kp : Pan} {n : Nat} {ops : Array Oper} {a0 : Act} {Q : Act → World → Prop}
def wpAnyX (P : Program) (kp : Pan) (ops : Array Oper) (Q : Act → World → Prop) : Nat → List (Nat × (World → Prop)) → Array Bool → Act → World → Prop
  | 0, _, listed, a, w => Region.ready .any ops listed = [] ∧ Q a w
  | fuel + 1, Ss, listed, a, w => (Region.ready .any ops listed = [] → Q a w) ∧
    ∀ j ∈ Region.ready .any ops listed, wpOpA P kp ops j (fun a' w' => (∀ s ∈ Ss, (predsStar ops j).contains s.1 = false → s.2 w') ∧
      wpAnyX P kp ops Q fuel (Ss.filter fun s => !(predsStar ops j).contains s.1) (listed.setIfInBounds j true) a' w') a w
theorem yields_wpOpA {S : World → Prop} {i : Nat} {o : Oper} {v : Value} {a : Act} (hi : ops[i]? = some o) (hy : YieldsIf P ops S o v a)
    {K : Act → World → Prop} {w : World} (hS : S w) (h : K (a.put o.dst v) w) : wpOpA P kp ops i K a w := by
  unfold wpOpA
  simp only [hi]
  rcases hy with ⟨hw, hv⟩ | ⟨hw, rfl⟩
  · simp only [hw, if_true]
    exact Acts.of_value (hv w hS) h
  · simp only [hw, Bool.false_eq_true, if_false]; exact h
theorem wpOpA_putIf {S : World → Prop} {j : Nat} {oi oj : Oper} {v : Value} (hj : ops[j]? = some oj) (hap : oi.apart ops oj = true)
    (hsi : ∀ cs b, oi.op ≠ .select cs b) (hsj : ∀ cs b, oj.op ≠ .select cs b) {K : Act → World → Prop} {a : Act} {w : World}
    (hy : YieldsIf P ops S oi v a) (h : wpOpA P kp ops j K (a.put oi.dst v) w) :
    wpOpA P kp ops j (fun a' w' => YieldsIf P ops S oi v a' ∧ K (a'.put oi.dst v) w') a w := by
  obtain ⟨h1, h2, h3⟩ := Oper.apart_spec hap
  have keep : ∀ (a : Act), YieldsIf P ops S oi v a → ∀ u, YieldsIf P ops S oi v (a.put oj.dst u) := fun a hy u =>
    hy.of_same (execOp_put oi hsi a oj.dst u h3) (wanted_put oi a oj.dst u h3)
  unfold wpOpA at *
  simp only [hj] at *
  rw [wanted_put oj a oi.dst v h1] at h
  split
  · rename_i hw
    simp only [hw, if_true] at h
    unfold actA at *
    rw [execOp_put oj hsj a oi.dst v h1] at h
    exact Acts.mono h fun u w' hk => ⟨keep a hy u, by rw [← Act.put_comm a v u h2]; exact hk⟩
  · rename_i hw
    simp only [hw] at h
    exact ⟨keep a hy _, by rw [← Act.put_comm a v undef h2]; exact h⟩
theorem wpAnyX_sub : ∀ (fuel : Nat) (Ss Ts : List (Nat × (World → Prop))) (listed : Array Bool) (a : Act) (w : World), (∀ s ∈ Ts, s ∈ Ss) → wpAnyX P kp ops Q fuel Ss listed a w → wpAnyX P kp ops Q fuel Ts listed a w
  | 0, _, _, _, _, _, _, h => h
  | fuel + 1, Ss, Ts, listed, a, w, hs, h => by
    refine ⟨h.1, fun j hj => wpOpA_mono (fun a' w' hh => ⟨fun s hm hc => hh.1 s (hs s hm) hc, ?_⟩) (h.2 j hj)⟩
    exact wpAnyX_sub fuel _ _ _ _ _ (fun s hm => by
      obtain ⟨h1, h2⟩ := List.mem_filter.1 hm
      exact List.mem_filter.2 ⟨hs s h1, h2⟩) hh.2
theorem wpAnyIn_of_X {Q' : Exit → Act → World → Prop} (r : Option Nat) (m : Nat) (hQ : ∀ a w, Q a w → Q' .normal a w) (hP : ∀ a ch w, St n a0 (fun i => opsWrite i ops.toList) true a → panK kp ch w → Q' (.panic ch) a w) : ∀ (fuel : Nat) (Ss : List (Nat × (World → Prop))) (listed : Array Bool) (a : Act) (w : World), St n a0 (fun i => opsWrite i ops.toList) true a → wpAnyX P kp ops Q fuel Ss listed a w → wpAnyIn (FF r) m P .any ops Q' fuel listed a w
  | 0, _, _, _, _, _, h => ⟨h.1, hQ _ _ h.2⟩
  | fuel + 1, _, listed, a, w, hst, h => by
    refine ⟨fun h0 => hQ _ _ (h.1 h0), fun j hj => ?_⟩
    have h2 := h.2 j hj
    unfold wpOpA at h2
    unfold wpOpIn
    split at h2
    · rename_i ho
      simp only [ho]
      exact wpAnyIn_of_X r m hQ hP fuel _ _ a w hst h2.2
    · rename_i o ho
      simp only [ho]
      split at h2
      · rename_i hw
        rw [if_pos hw]
        exact wpIn_of_acts r m (Acts.mono h2 fun v w' hk => wpAnyIn_of_X r m hQ hP fuel _ _ _ w' (hst.putOp ho v) hk.2) fun ch w' hk => hP _ _ _ hst hk
      · rename_i hw
        rw [if_neg hw]
        exact ⟨fun _ _ => trivial, wpAnyIn_of_X r m hQ hP fuel _ _ _ w (hst.putOp ho _) h2.2⟩
def Closed (ops : Array Oper) (listed : Array Bool) : Prop :=
  ∀ j oj, ops[j]? = some oj → listed.getD j false = true → ∀ e ∈ oj.after, Region.binds .any e = true → listed.getD e.on false = true
theorem Closed.set {listed : Array Bool} (h : Closed ops listed) {i : Nat} (hi : i ∈ Region.ready .any ops listed) : Closed ops (listed.setIfInBounds i true) := by
  obtain ⟨_, oi, hoi, hall⟩ := mem_ready.1 hi
  intro j oj hj hl e he hb
  by_cases hij : i = j
  · subst hij
    have : oj = oi := Option.some.inj (hj.symm.trans hoi)
    subst this
    exact getD_set_true (hall e he hb)
  · rw [getD_set_ne false hij] at hl
    exact getD_set_true (h j oj hj hl e he hb)
theorem Closed.start : Closed ops (Array.replicate ops.size false) := by
  intro j oj hj hl
  have hlt := (Array.getElem?_eq_some_iff.1 hj).1
  simp [hlt] at hl
theorem predsOf_listed {listed : Array Bool} {j : Nat} (h : ∀ oj, ops[j]? = some oj → ∀ e ∈ oj.after, Region.binds .any e = true → listed.getD e.on false = true) : ∀ m ∈ predsOf ops j, listed.getD m false = true := by
  intro m hm
  unfold predsOf at hm
  split at hm
  · rename_i o ho
    obtain ⟨e, he, rfl⟩ := List.mem_map.1 hm
    obtain ⟨h1, h2⟩ := List.mem_filter.1 he
    exact h o ho e (Array.mem_toList_iff.1 h1) h2
  · cases hm
theorem predsDown_listed {listed : Array Bool} (hc : Closed ops listed) : ∀ (k : Nat) (s : List Nat), (∀ m ∈ s, listed.getD m false = true) → ∀ m ∈ predsDown ops k s, listed.getD m false = true
  | 0, _, h => h
  | k + 1, s, h => by
    unfold predsDown
    cases hk : s.contains k with
    | true =>
      simp only [cond_true]
      refine predsDown_listed hc k _ fun m hm => ?_
      rcases List.mem_append.1 hm with hm | hm
      · exact predsOf_listed (fun oj hoj e he hb => hc k oj hoj (h k (by simpa using hk)) e he hb) m hm
      · exact h m hm
    | false => simp only [cond_false]; exact predsDown_listed hc k s h
theorem not_after {listed : Array Bool} (hc : Closed ops listed) {i j : Nat} (hi : i ∈ Region.ready .any ops listed) (hj : j ∈ Region.ready .any ops listed) : (predsStar ops j).contains i = false := by
  obtain ⟨hun, oi, hoi, _⟩ := mem_ready.1 hi
  obtain ⟨_, oj, hoj, hall⟩ := mem_ready.1 hj
  cases hcon : (predsStar ops j).contains i with
  | false => rfl
  | true =>
    have hm : i ∈ predsStar ops j := by simpa using hcon
    have := predsDown_listed hc j _ (predsOf_listed fun o ho e he hb => by
      have : o = oj := Option.some.inj (ho.symm.trans hoj)
      subst this
      exact hall e he hb) i hm
    rcases Nat.lt_or_ge i listed.size with h' | h'
    · simp [h'] at hun this; rw [hun] at this; cases this
    · simp [Array.getElem?_eq_none h'] at this
theorem wpAnyX_first {i : Nat} {oi : Oper} {v : Value} {S : World → Prop} (hi : ops[i]? = some oi) (hsel : ∀ (j : Nat) (o : Oper) cs b, ops[j]? = some o → o.op ≠ .select cs b) :
    ∀ (fuel : Nat) (Ss Ts : List (Nat × (World → Prop))) (listed : Array Bool) (a : Act) (w : World),
      (∀ j oj, ops[j]? = some oj → j ≠ i → listed.getD j true = false → (∀ e ∈ oj.after, Region.binds .any e = true → e.on ≠ i) → oi.apart ops oj = true) →
      Closed ops listed → i ∈ Region.ready .any ops listed → YieldsIf P ops S oi v a → S w → (∀ s ∈ Ss, s ∈ Ts) → ((∀ w, S w) ∨ (i, S) ∈ Ts) → (∀ s ∈ Ts, s.2 w) →
      wpAnyX P kp ops Q fuel Ts (listed.setIfInBounds i true) (a.put oi.dst v) w → wpAnyX P kp ops Q (fuel + 1) Ss listed a w := by
  intro fuel
  induction fuel with
  | zero =>
    intro Ss Ts listed a w _ hcl hr hy hS hsub hE hall H
    refine ⟨fun h => (by rw [h] at hr; cases hr), fun j hj => ?_⟩
    by_cases hji : j = i
    · subst hji; exact yields_wpOpA hi hy hS ⟨fun s hs _ => hall s (hsub s hs), H⟩
    · have := ready_mono hj hji
      rw [H.1] at this
      cases this
  | succ fuel ih =>
    intro Ss Ts listed a w hfree hcl hr hy hS hsub hE hall H
    refine ⟨fun h => (by rw [h] at hr; cases hr), fun j hj => ?_⟩
    by_cases hji : j = i
    · subst hji
      refine yields_wpOpA hi hy hS ⟨fun s hs _ => hall s (hsub s hs), ?_⟩
      exact wpAnyX_sub _ _ _ _ _ _ (fun s hs => hsub s (List.mem_filter.1 hs).1) H
    · have h1 := H.2 j (ready_mono hj hji)
      obtain ⟨hjun, oj, hoj, hal⟩ := mem_ready.1 hj
      have hnot : ∀ e ∈ oj.after, Region.binds .any e = true → e.on ≠ i := fun e he hb heq => by
        have h1 := hal e he hb
        have h0 := (mem_ready.1 hr).1
        rw [heq] at h1
        rcases Nat.lt_or_ge i listed.size with h' | h'
        · simp [h'] at h0 h1; rw [h0] at h1; cases h1
        · simp [Array.getElem?_eq_none h'] at h1
      have hna := not_after hcl hr hj
      have h2 := wpOpA_putIf hoj (hfree j oj hoj hji hjun hnot) (fun cs b => hsel i oi cs b hi) (fun cs b => hsel j oj cs b hoj) hy h1
      have hfree' : ∀ k ok, ops[k]? = some ok → k ≠ i → (listed.setIfInBounds j true).getD k true = false →
          (∀ e ∈ ok.after, Region.binds .any e = true → e.on ≠ i) → oi.apart ops ok = true := fun k ok hk hki hun hno => by
        refine hfree k ok hk hki ?_ hno
        by_cases hjk : j = k
        · subst hjk; exact hjun
        · rw [getD_set_ne true hjk] at hun; exact hun
      refine wpOpA_mono (fun a' w' h3 => ?_) h2
      obtain ⟨hy', hreq, H'⟩ := h3
      have hS' : S w' := by
        rcases hE with hE | hE
        · exact hE w'
        · exact hreq (i, S) hE hna
      refine ⟨fun s hs hc => hreq s (hsub s hs) hc, ih _ (Ts.filter fun s => !(predsStar ops j).contains s.1) (listed.setIfInBounds j true) a' w' hfree' (hcl.set hj) (ready_mono hr (Ne.symm hji)) hy' hS' ?_ ?_ ?_ ?_⟩
      · intro s hs
        obtain ⟨h1, h2⟩ := List.mem_filter.1 hs
        exact List.mem_filter.2 ⟨hsub s h1, h2⟩
      · rcases hE with hE | hE
        · exact .inl hE
        · exact .inr (List.mem_filter.2 ⟨hE, by simp only [hna]; rfl⟩)
      · intro s hs
        obtain ⟨h1, h2⟩ := List.mem_filter.1 hs
        exact hreq s h1 (by simpa using h2)
      · rw [Array.setIfInBounds_comm _ _ hji]
        exact H'
theorem stands_out {ps : List Nat} {w : World} {X : Prop} : ∀ {held : List (Nat × Held)}, stands ps held w X → (∀ s ∈ held, ps.contains s.1 = false → holds s.2 w) ∧ X
  | [], h => ⟨by simp, h⟩
  | s :: r, h => by
    unfold stands at h
    cases hc : ps.contains s.1 with
    | true =>
      simp only [hc, cond_true] at h
      obtain ⟨h1, h2⟩ := stands_out h
      refine ⟨fun t ht htc => ?_, h2⟩
      rcases List.mem_cons.1 ht with rfl | ht
      · rw [hc] at htc; cases htc
      · exact h1 t ht htc
    | false =>
      simp only [hc, cond_false] at h
      obtain ⟨h0, h⟩ := h
      obtain ⟨h1, h2⟩ := stands_out h
      refine ⟨fun t ht htc => ?_, h2⟩
      rcases List.mem_cons.1 ht with rfl | ht
      · exact h0
      · exact h1 t ht htc
theorem allD_out {f : Nat → Prop} : ∀ {l : List Nat}, allD l f → ∀ i ∈ l, f i
  | [], _, _, hi => by cases hi
  | [i], h, j, hj => by simp at hj; subst hj; exact h
  | i :: k :: r, h, j, hj => by
    obtain ⟨h1, h2⟩ := h
    rcases List.mem_cons.1 hj with rfl | hj
    · exact h1
    · exact allD_out h2 j hj
def asS (held : List (Nat × Held)) : List (Nat × (World → Prop)) := held.map fun s => (s.1, holds s.2)
theorem asS_kept (ps : List Nat) (held : List (Nat × Held)) : (asS held).filter (fun s => !ps.contains s.1) = asS (kept ps held) := by
  unfold asS kept
  rw [List.filter_map]
  rfl
theorem isCls_out {c : Cls} {i : Nat} {o : Oper} (ho : ops[i]? = some o) (h : isCls P ops c i = true) : cls P o = c := by
  unfold isCls at h
  simp only [ho] at h
  cases h1 : cls P o <;> cases c <;> simp_all [clsB]
theorem cls_pure {o : Oper} (h : cls P o = .pure) : isPure P o = true := by
  unfold cls at h
  cases hh : isPure P o with
  | true => rfl
  | false => simp only [hh, cond_false] at h; split at h <;> cases h
theorem dDraw_sound (hsel : Region.noSelect ops = true) {K : Fr → World → Prop} : ∀ (fuel : Nat) (listed : Array Bool) (held : List (Nat × Held)) (fr : Fr) (w : World) (a : Act),
    Agrees fr a → St n a0 (fun i => opsWrite i ops.toList) true a → Closed ops listed → (∀ s ∈ held, holds s.2 w) →
    dDraw P kp n ops fuel listed held fr K w → wpAnyX P kp ops (LiftO n a0 (fun i => opsWrite i ops.toList) K) fuel (asS held) listed a w := by
  have hs := Region.noSelect_spec hsel
  have hwr : ∀ (j : Nat) (o : Oper), ops[j]? = some o → ∀ i, o.dst = some i → opsWrite i ops.toList = true := fun j o ho i hi =>
    opsWrite_mem (Array.mem_toList_iff.2 (Array.mem_of_getElem? ho)) hi
  intro fuel
  induction fuel with
  | zero =>
    intro listed held fr w a hg hst _ _ h
    unfold dDraw at h
    cases hr : Region.ready .any ops listed with
    | nil => rw [hr] at h; exact ⟨hr, hst, fr, hg, h⟩
    | cons x r => rw [hr] at h; exact h.elim
  | succ fuel ih =>
    intro listed held fr w a hg hst hcl hheld h
    unfold dDraw at h
    split at h
    · rename_i hr
      refine ⟨fun _ => ⟨hst, fr, hg, h⟩, fun j hj => ?_⟩
      rw [hr] at hj
      cases hj
    · rename_i i0 rs hr
      split at h
      · rename_i i hfind
        have hmem : i ∈ Region.ready .any ops listed := by rw [hr]; exact List.mem_of_find?_eq_some hfind
        have hcls := List.find?_some hfind
        split at h
        · rename_i o ho
          cases hfr : Region.free .any ops listed i with
          | false => rw [hfr] at h; exact h.elim
          | true =>
            rw [hfr] at h
            simp only [cond_true] at h
            have hp := cls_pure (isCls_out ho hcls)
            have hfree := Region.free_spec ho hfr
            rcases guardD_out hg h with ⟨hwant, fr', hg', h'⟩ | ⟨hwant, fr', hg', h'⟩
            · obtain ⟨v, hk, hrun⟩ := dPure_run (pure_notSelect hp) hg'.eval h'
              refine wpAnyX_first (S := fun _ => True) ho hs fuel _ (asS held) listed a w hfree hcl hmem (.inl ⟨hwant, fun w _ => hrun w⟩) trivial (fun _ h => h) (.inl fun _ => trivial) ?_ ?_
              · intro s hsm
                obtain ⟨t, ht, rfl⟩ := List.mem_map.1 hsm
                exact hheld t ht
              · exact ih _ _ _ _ _ (hg'.put hst.size o.dst v) (hst.put o.dst v (hwr i o ho)) (hcl.set hmem) hheld hk
            · refine wpAnyX_first (S := fun _ => True) (v := undef) ho hs fuel _ (asS held) listed a w hfree hcl hmem (.inr ⟨hwant, rfl⟩) trivial (fun _ h => h) (.inl fun _ => trivial) ?_ ?_
              · intro s hsm
                obtain ⟨t, ht, rfl⟩ := List.mem_map.1 hsm
                exact hheld t ht
              · exact ih _ _ _ _ _ (hg'.put hst.size o.dst undef) (hst.put o.dst undef (hwr i o ho)) (hcl.set hmem) hheld h'
        · exact h.elim
      · split at h
        · rename_i i hfind
          have hmem : i ∈ Region.ready .any ops listed := by rw [hr]; exact List.mem_of_find?_eq_some hfind
          split at h
          · rename_i o ho
            cases hfr : Region.free .any ops listed i with
            | false => rw [hfr] at h; exact h.elim
            | true =>
              rw [hfr] at h
              simp only [cond_true] at h
              have hfree := Region.free_spec ho hfr
              rcases guardD_out hg h with ⟨hwant, fr', hg', h'⟩ | ⟨hwant, fr', hg', h'⟩
              · split at h'
                · rename_i t x hop
                  obtain ⟨ad, v, hh, hx, hk, hholds, hrun⟩ := loadD_run h'
                  have he := hg'.eval _ _ hx
                  have hv : ∀ w', holds hh w' → (execOp a.eval o).run P w' = .ok (.value v) w' := fun w' hw' => by
                    simp only [execOp, hop, he, Sem.run_bind, hrun w' hw', Result.andThen_ok, Sem.run_pure]
                  refine wpAnyX_first (S := holds hh) ho hs fuel _ (asS ((i, hh) :: held)) listed a w hfree hcl hmem (.inl ⟨hwant, hv⟩) hholds ?_ (.inr ?_) ?_ ?_
                  · intro s hsm; exact List.mem_cons_of_mem _ hsm
                  · exact List.mem_cons_self
                  · intro s hsm
                    obtain ⟨t, ht, rfl⟩ := List.mem_map.1 hsm
                    rcases List.mem_cons.1 ht with rfl | ht
                    · exact hholds
                    · exact hheld t ht
                  · exact ih _ _ _ _ _ (hg'.put hst.size o.dst v) (hst.put o.dst v (hwr i o ho)) (hcl.set hmem) (fun s hsm => by
                      rcases List.mem_cons.1 hsm with rfl | ht
                      · exact hholds
                      · exact hheld s ht) hk
                · exact h'.elim
              · refine wpAnyX_first (S := fun _ => True) (v := undef) ho hs fuel _ (asS held) listed a w hfree hcl hmem (.inr ⟨hwant, rfl⟩) trivial (fun _ h => h) (.inl fun _ => trivial) ?_ ?_
                · intro s hsm
                  obtain ⟨t, ht, rfl⟩ := List.mem_map.1 hsm
                  exact hheld t ht
                · exact ih _ _ _ _ _ (hg'.put hst.size o.dst undef) (hst.put o.dst undef (hwr i o ho)) (hcl.set hmem) hheld h'
          · exact h.elim
        · refine ⟨(fun h0 => by rw [hr] at h0; cases h0), fun j hj => ?_⟩
          have hj' := allD_out h j (by rw [← hr]; exact hj)
          split at hj'
          · rename_i o ho
            unfold wpOpA
            simp only [ho]
            rcases guardD_out hg hj' with ⟨hwant, fr', hg', h'⟩ | ⟨hwant, fr', hg', h'⟩
            · simp only [hwant, if_true]
              refine Acts.mono (dLoud_acts hg'.eval h') fun v w' hk => ?_
              obtain ⟨hst1, hk⟩ := stands_out hk
              refine ⟨fun s hsm hc => ?_, ?_⟩
              · obtain ⟨t, ht, rfl⟩ := List.mem_map.1 hsm
                exact hst1 t ht hc
              · rw [asS_kept]
                exact ih _ _ _ _ _ (hg'.put hst.size o.dst v) (hst.put o.dst v (hwr j o ho)) (hcl.set hj) (fun s hsm => by
                  obtain ⟨h1, h2⟩ := List.mem_filter.1 hsm
                  exact hst1 s h1 (by simpa using h2)) hk
            · simp only [hwant]
              refine ⟨fun s hsm _ => ?_, ?_⟩
              · obtain ⟨t, ht, rfl⟩ := List.mem_map.1 hsm
                exact hheld t ht
              · rw [asS_kept]
                exact ih _ _ _ _ _ (hg'.put hst.size o.dst undef) (hst.put o.dst undef (hwr j o ho)) (hcl.set hj) (fun s hsm => hheld s (List.mem_filter.1 hsm).1) h'
          · exact hj'.elim
end
end Go.Dn
