/-
  Texts of this claim, laid one behind the other by a program of mine (install.py): Dn.Def, Dn.Nums, Dn.Fin, Dn.Fin2, Dn.Facts, Dn.Goes, Dn.Ops, Dn.Ops2, Dn.Sound, Dn.Draw.
-/
import Derived.Orders
import Derived.Laws.World
import Derived.Laws.Sem
import Derived.KernelRfl
import Derived.RangeFuncRecord
import GoSem.Claim
import Derived.Handed
import Derived.SizedLaws
import Derived.HandedShaped
import Derived.LaidSub
import Derived.Lib.LaidTab
import Derived.Shelf.Vars
import Derived.MakeChecks
import Derived.JoinedOf
import GoSem.ClaimSeven
import Derived.Laws.Cells
import Derived.Laws.StructEq
import Derived.Laws.Rows
import Derived.OrdersHeld
import Derived.OrdersIn
namespace Go.Dn
open _root_.BitVec renaming ofInt -> Ai2
open _root_.Nat renaming beq -> Ai3
set_option linter.unusedVariables false
set_option maxRecDepth 100000
abbrev Fr:=List (Nat × Value)
def look:Fr->Nat->Option Value
 | [],_=>none
 | x :: r,i=>bif Ai3 x.1 i then some x.2 else look r i
def put(n:Nat)(fr:Fr)(d:Option Nat)(v:Value):Fr :=
 match d with
 | none=>fr
 | some d=>bif Nat.blt d n then (d,v) :: fr else fr
def D8(fr:Fr):Operand->Option Value
 | .tmp t=>look fr t
 | .const v=>some v
 | .global g=>some (.pointer (some ⟨g,0,none⟩))
 | .func f=>some (.func (.func f) #[] #[])
/-! ## Small combinators -/
def GX(x:Option Value)(k:Value->Prop):Prop :=
 match x with
 | some v=>k v
 | none=>False
def Tp(b:Bool)(x y:Prop):Prop :=
 match b with
 | true=>x
 | false=>y
def AL(p:Option Addr)(k:Addr->Prop):Prop :=
 match p with
 | some a=>k a
 | none=>False
def Aan(x:Option Value)(k:Bool->Prop):Prop :=
 match x with
 | some (.bool b)=>k b
 | _=>False
def Sy(x:Option Value)(k:IntKind->Int->Prop):Prop :=
 match x with
 | some (.int kd n)=>k kd n
 | _=>False
def Wk(x:Option Value)(k:Addr->Prop):Prop :=
 match x with
 | some (.pointer p)=>AL p k
 | _=>False
def AgD(x:Option Value)(k:FuncId->Array Value->Array Value->Prop):Prop :=
 match x with
 | some (.func (.func g) fi ca)=>k g fi ca
 | _=>False
def Abo(x:Option Value)(k:FuncId->Array Value->Array Value->Prop)(y:Nat->Prop):Prop :=
 match x with
 | some (.func (.func g) fi ca)=>k g fi ca
 | some (.func (.yield l) fi ca)=>bif fi.toList.isEmpty && ca.toList.isEmpty then y l else False
 | _=>False
/-! ## Typed opening -/
def Qq(z:Value)(f:Value->Prop):Prop :=
 match z with
 | .int kd _=>∃ n:Int,f (.int kd n)
 | .bool _=>∃ b:Bool,f (.bool b)
 | .string _=>∃ s:ByteArray,f (.string s)
 | .pointer _=>∃ p:Option Addr,f (.pointer p)
 | .slice _ _ _=>∃(p:Option Addr) (l c:Nat),f (.slice p l c)
 | .map _=>∃ r:Option Nat,f (.map r)
 | .nilFunc=>∃(g:FuncId) (fi ca:Array Value),f (.func (.func g) fi ca)
 | _=>∃ v:Value,f v
def Aas(z:Value)(f:Value->Prop):Prop :=
 match z with
 | .nilFunc=>(∃(g:FuncId) (fi ca:Array Value),f (.func (.func g) fi ca))\/(∃ l:Nat,f (.func (.yield l) #[] #[]))
 | z=>Qq z f
def Fw:List Value->(List Value->Prop)->Prop
 | [],f=>f []
 | z :: zs,f=>Qq z λ v=>Fw zs λ vs=>f (v :: vs)
def AcY(z:Value)(f:Value->Prop):Prop :=
 match z with
 | .agg zs=>Fw zs.toList λ vs=>f (.agg ⟨vs⟩)
 | z=>Qq z f
def Wf:List Value->(List Value->Prop)->Prop
 | [],f=>f []
 | z :: zs,f=>AcY z λ v=>Wf zs λ vs=>f (v :: vs)
def OH(z:Value)(f:Value->Prop):Prop :=
 match z with
 | .tuple zs=>Wf zs.toList λ vs=>f (.tuple ⟨vs⟩)
 | z=>AcY z f
def Tq(d:Bool)(z:Value)(f:Value->Prop):Prop :=
 match z with
 | .nilFunc=>(match d with
  | true=>(∃(g:FuncId) (fi ca:Array Value),f (.func (.func g) fi ca))\/f .nilFunc
  | false=>OH .nilFunc f)
 | z=>OH z f
def Re:Operand->Bool
 | .tmp _=>true
 | _=>false
def AeO(z:Value)(f:Value->Prop):Prop :=
 match z with
 | .int kd _=>∀ n:Int,f (.int kd n)
 | .bool _=>∀ b:Bool,f (.bool b)
 | .string _=>∀ s:ByteArray,f (.string s)
 | .pointer _=>∀ p:Option Addr,f (.pointer p)
 | .slice _ _ _=>∀(p:Option Addr) (l c:Nat),f (.slice p l c)
 | .map _=>∀ r:Option Nat,f (.map r)
 | .nilFunc=>∀(g:FuncId) (fi ca:Array Value),f (.func (.func g) fi ca)
 | _=>∀ v:Value,f v
def AeP:List Value->(List Value->Prop)->Prop
 | [],f=>f []
 | z :: zs,f=>AeO z λ v=>AeP zs λ vs=>f (v :: vs)
def AcR(z:Value)(f:Value->Prop):Prop :=
 match z with
 | .agg zs=>AeP zs.toList λ vs=>f (.agg ⟨vs⟩)
 | z=>AeO z f
def Uv:List Value->(List Value->Prop)->Prop
 | [],f=>f []
 | z :: zs,f=>AcR z λ v=>Uv zs λ vs=>f (v :: vs)
def Bn:IntKind->IntKind->Bool
 | .i8,.i8 | .i16,.i16 | .i32,.i32 | .i64,.i64 | .u8,.u8 | .u16,.u16 | .u32,.u32 | .u64,.u64=>true
 | _,_=>false
def FD(z v:Value):Bool :=
 match z with
 | .int kd _=>match v with | .int kd' _=>Bn kd kd' | _=>false
 | .bool _=>match v with | .bool _=>true | _=>false
 | .string _=>match v with | .string _=>true | _=>false
 | .pointer _=>match v with | .pointer _=>true | _=>false
 | .slice _ _ _=>match v with | .slice _ _ _=>true | _=>false
 | .map _=>match v with | .map _=>true | _=>false
 | .nilFunc=>match v with | .func (.func _) _ _=>true | _=>false
 | _=>true
def E4:List Value->List Value->Bool
 | [],[]=>true
 | z :: zs,v :: vs=>FD z v && E4 zs vs
 | _,_=>false
def Jo(z v:Value):Bool :=
 match z with
 | .agg zs=>match v with | .agg vs=>E4 zs.toList vs.toList | _=>false
 | z=>FD z v
def DY:List Value->List Value->Bool
 | [],[]=>true
 | z :: zs,v :: vs=>Jo z v && DY zs vs
 | _,_=>false
/-! ## Memory -/
def Cu(cells:Array Value)(t:TypeId)(k:Nat->World->Prop)(w:World):Prop:=k w.heap.size (w.alloc (.cells cells t))
def AcU(k:World->Prop)(w:World):Prop:=k w.drew
def BT:List Value->Addr->Nat->(List Value->Prop)->World->Prop
 | [],_,_,k,_=>k []
 | z :: zs,a,i,k,w=>Aas z λ v=>w.cell? (a.add i)=some v/\BT zs a (i+1) (λ vs=>k (v :: vs)) w
def CI(a:Addr)(v:Value)(k:World->Prop)(w:World):Prop :=
 (w.cell? a).isSome=true/\w.frozen? a=false/\k (w.setCell a v)
def BO:List Value->Addr->Nat->(World->Prop)->World->Prop
 | [],_,_,k,w=>k w
 | v :: vs,a,i,k,w=>bif v.oneCell' then CI (a.add i) v (λ w'=>BO vs a (i+1) k w') w else False
/-! ## Pure semantics -/
def Az{α:Type}(P:Program):Sem α->Option α
 | .pure a=>some a
 | .program k=>Az P (k P)
 | .mark _ k=>Az P k
 | _=>none
def KD(e:Operand->Option Value)(x:Operand):Value:=(e x).getD undef
def known(e:Operand->Option Value)(o:Oper):Bool:=o.op.operands.toList.all λ x=>(e x).isSome
def Ku(op:BinOp)(k k':IntKind)(a b:Int)(K:Value->Prop):Prop :=
 match op with
 | .shl=>0<=b/\K (.int k (k.wrap (a*2 ^ (min b.toNat k.bits))))
 | .shr=>0<=b/\K (.int k (a.fdiv (2 ^ (min b.toNat k.bits))))
 | op=>bif Bn k k' then
  match op with
  | .add=>K (.int k (k.wrap (a+b)))
  | .sub=>K (.int k (k.wrap (a-b)))
  | .mul=>K (.int k (k.wrap (a*b)))
  | .quo=>b≠0/\K (.int k (k.wrap (a.tdiv b)))
  | .rem=>b≠0/\K (.int k (a.tmod b))
  | .and=>K (.int k (k.wrap (Ai2 k.bits a &&& Ai2 k.bits b).toNat))
  | .or=>K (.int k (k.wrap (Ai2 k.bits a ||| Ai2 k.bits b).toNat))
  | .xor=>K (.int k (k.wrap (Ai2 k.bits a ^^^ Ai2 k.bits b).toNat))
  | .andNot=>K (.int k (k.wrap (Ai2 k.bits a &&& ~~~(Ai2 k.bits b)).toNat))
  | .eql=>K (.bool (a==b))
  | .neq=>K (.bool (a != b))
  | .lss=>K (.bool (decide (a<b)))
  | .leq=>K (.bool (decide (a<=b)))
  | .gtr=>K (.bool (decide (a > b)))
  | .geq=>K (.bool (decide (a>=b)))
  | _=>False
 else False
def N1(op:BinOp)(k k':IntKind)(a b:Int)(K:Value->Prop):Prop :=
 match op with
 | .shl=>bif decide (0<=b) then K (.int k (k.wrap (a*2 ^ (min b.toNat k.bits)))) else False
 | .shr=>bif decide (0<=b) then K (.int k (a.fdiv (2 ^ (min b.toNat k.bits)))) else False
 | .quo=>bif decide (b=0) then False else bif Bn k k' then K (.int k (k.wrap (a.tdiv b))) else False
 | .rem=>bif decide (b=0) then False else bif Bn k k' then K (.int k (a.tmod b)) else False
 | op=>Ku op k k' a b K
def Au(a b:ByteArray):Bool:=a.toList==b.toList
def FJ(a b:ByteArray):Bool:=Op.bytesLess a.toList b.toList
def Abf(op:BinOp)(a b:ByteArray)(K:Value->Prop):Prop :=
 match op with
 | .add=>a.size+b.size<=9223372036854775807/\K (.string (a++b))
 | .eql=>K (.bool (Au a b))
 | .neq=>K (.bool (!Au a b))
 | .lss=>K (.bool (FJ a b))
 | .leq=>K (.bool (FJ a b || Au a b))
 | .gtr=>K (.bool (!(FJ a b || Au a b)))
 | .geq=>K (.bool (!FJ a b))
 | _=>False
def XL(P:Program)(t:TypeId)(cs:Array Value)(off:Nat):Option Value :=
 match P.underlying t with
 | some (.struct _)=>some (.agg (cs.extract off (off+P.cellsOf t)))
 | some .bool | some (.int _) | some .string=>cs[off]?
 | _=>none
def AdE(P:Program)(eq:TypeId->Value->Value->Option Bool)(xs ys:Array Value):List Field->Option Bool
 | []=>some true
 | f :: fs => bif f.name == "_" then none else
  match XL P f.type xs f.offset,XL P f.type ys f.offset with
  | some x,some y =>
   (match eq f.type x y,AdE P eq xs ys fs with
   | some b,some c=>some (b && c)
   | _,_=>none)
  | _,_=>none
def eqV(P:Program):Nat->TypeId->Value->Value->Option Bool
 | 0,_,_,_=>none
 | d+1,t,x,y =>
  match P.underlying t with
  | some .bool=>(match x,y with
   | .bool a,.bool b=>some (a==b)
   | _,_=>none)
  | some (.int _)=>(match x,y with
   | .int k a,.int k' b=>bif Bn k k' then some (a==b) else none
   | _,_=>none)
  | some .string=>(match x,y with
   | .string a,.string b=>some (a==b)
   | _,_=>none)
  | some (.struct fs)=>(match x,y with
   | .agg xs,.agg ys=>bif P.stoodInHeld t then none else AdE P (eqV P d) xs ys fs.toList
   | _,_=>none)
  | _=>none
def isNeg:BinOp->Option Bool
 | .eql=>some false
 | .neq=>some true
 | _=>none
def D7(neg:Bool)(b:Bool):Value:=.bool (bif neg then !b else b)
def OR(P:Program)(op:BinOp)(t:TypeId)(x y:Value)(K:Value->Prop):Prop :=
 match isNeg op with
 | none=>False
 | some neg =>
  match x,y with
  | .bool a,.bool b=>bif (match P.underlying t with | some .bool=>true | _=>false) then K (D7 neg (a==b)) else False
  | .pointer p,.pointer none=>bif (match P.underlying t with | some (.pointer _)=>true | _=>false) then K (D7 neg p.isNone) else False
  | .slice p _ _,.slice none _ _=>bif (match P.underlying t with | some (.slice _)=>true | _=>false) then K (D7 neg p.isNone) else False
  | .map p,.map none=>bif (match P.underlying t with | some (.map _ _)=>true | _=>false) then K (D7 neg p.isNone) else False
  | .nilFunc,.nilFunc=>bif (match P.underlying t with | some (.func _ _ _)=>true | _=>false) then K (D7 neg true) else False
  | .func _ _ _,.nilFunc=>bif (match P.underlying t with | some (.func _ _ _)=>true | _=>false) then K (D7 neg false) else False
  | .agg xs,.agg ys=>bif P.eqGuardType P.depth t then False else (match eqV P 5 t (.agg xs) (.agg ys) with | some b=>K (D7 neg b) | none=>False)
  | _,_=>False
def MF(P:Program)(t:TypeId):Bool :=
 match P.underlying t with
 | some (.interface _)=>true
 | _=>false
def AcX(x:Value)(k:Bool->Prop):Prop :=
 match x with
 | .nilIface=>k true
 | .iface _ _=>k false
 | _=>False
def Aed(op:BinOp)(k:Bool->Prop):Prop :=
 match isNeg op with
 | none=>False
 | some neg=>k neg
def AbR(P:Program)(c:Bool)(op:BinOp)(t:TypeId)(x y:Value)(K:Value->Prop):Prop :=
 match y with
 | .nilIface=>Aed op λ neg=>bif c && MF P t then AcX x (λ b=>K (D7 neg b)) else False
 | y=>OR P op t x y K
def Bx:Operand->Bool
 | .const _=>true
 | _=>false
def Tw(P:Program)(e:Operand->Option Value)(op:BinOp)(t:TypeId)(x y:Operand)(K:Value->Prop):Prop :=
 match e x,e y with
 | some (.int k a),some (.int k' b)=>bif Bx y then N1 op k k' a b K else Ku op k k' a b K
 | some (.string a),some (.string b)=>Abf op a b K
 | some u,some v=>AbR P (Bx y) op t u v K
 | _,_=>False
def Wx(P:Program)(e:Operand->Option Value)(op:BinOp)(t:TypeId)(x y:Operand)(K:Value->Prop):Prop :=
 match e y with
 | some .nilIface=>GX (e x) λ u=>AbR P (Bx y) op t u .nilIface K
 | _=>Tw P e op t x y K
def BD(a:Option Addr)(l m size:Nat):Option Addr:=if m=l then a else a.map (·.add (l*size))
def C5(s:ByteArray)(i:Nat):UInt8:=s.data.toList.getD i 0
def Eu(e:Operand->Option Value)(x:Option Operand)(d:Nat)(k:Int->Prop):Prop :=
 match x with
 | none=>k d
 | some o=>match e o with
  | some (.int _ n)=>k n
  | _=>False
def Fj(P:Program)(t:TypeId):Bool:=(P.info? t).isSome
def Sa(P:Program)(e:Operand->Option Value)(t:TypeId)(x:Operand)(lo hi mx:Option Operand)(K:Value->Prop):Prop :=
 match P.underlying t,e x,mx with
 | some .string,some (.string s),none =>
  Eu e hi s.size λ h=>Eu e lo 0 λ l=>(0<=l/\l<=h/\h<=s.size)/\K (.string (s.extract l.toNat h.toNat))
 | some (.slice el),some (.slice a len cap),none=>bif Fj P el then
  Eu e hi len λ h=>Eu e lo 0 λ l=>(0<=l/\l<=h/\h<=cap)/\K (.slice (BD a l.toNat cap (P.cellsOf el)) (h.toNat-l.toNat) (cap-l.toNat)) else False
 | some (.slice el),some (.slice a _ cap),some mo=>bif Fj P el then
  match hi with
  | none=>False
  | some _=>Eu e (some mo) 0 λ m=>Eu e hi 0 λ h=>Eu e lo 0 λ l=>(0<=l/\l<=h/\h<=m/\m<=cap)/\K (.slice (BD a l.toNat m.toNat (P.cellsOf el)) (h.toNat-l.toNat) (m.toNat-l.toNat)) else False
 | some (.array n el),some (.pointer p),none=>bif Fj P el then AL p λ a =>
  Eu e hi n λ h=>Eu e lo 0 λ l=>(0<=l/\l<=h/\h<=n)/\K (.slice (BD (some a) l.toNat n (P.cellsOf el)) (h.toNat-l.toNat) (n-l.toNat)) else False
 | _,_,_=>False
def Gd(P:Program)(e:Operand->Option Value)(t:TypeId)(x i:Operand)(K:Value->Prop):Prop :=
 match P.underlying t,e x with
 | some (.slice el),some (.slice p len _)=>bif Fj P el then Sy (e i) λ _ n=>(0<=n/\n<len)/\AL p λ a=>K (.pointer (some (a.add (n.toNat*P.cellsOf el)))) else False
 | some (.array len el),some (.pointer p)=>bif Fj P el then Sy (e i) λ _ n=>bif Bx i then (bif decide (0<=n/\n<len) then AL p λ a=>K (.pointer (some (a.add (n.toNat*P.cellsOf el)))) else False) else (0<=n/\n<len)/\AL p λ a=>K (.pointer (some (a.add (n.toNat*P.cellsOf el)))) else False
 | _,_=>False
def zeroOf(P:Program)(t:TypeId):Option Value :=
 match P.info? t with
 | some i=>i.zero
 | none=>none
def Ez(P:Program)(t:TypeId):Bool :=
 match P.underlying t with
 | some (.struct _) | some (.array _ _)=>true
 | _=>false
def Aa6(P:Program)(t:TypeId)(cs:List Value)(off:Nat)(K:Value->Prop):Prop :=
 match zeroOf P t with
 | none=>False
 | some z =>
  bif Ez P t then Fw z.cells.toList λ vs=>(cs.drop off).take (P.cellsOf t)=vs/\K (.agg ⟨vs⟩)
  else bif (P.underlying t).isSome then Qq z λ v=>cs[off]?=some v/\K v else False
def Q7(P:Program)(e:Operand->Option Value)(t:TypeId)(x i:Operand)(K:Value->Prop):Prop :=
 match P.underlying t,e x with
 | some .string,some (.string s)=>Sy (e i) λ _ n=>(0<=n/\n<s.size)/\K (.int .u8 (C5 s n.toNat).toNat)
 | some (.array len el),some (.agg cs)=>Sy (e i) λ _ n=>(0<=n/\n<len)/\Aa6 P el cs.toList (n.toNat*P.cellsOf el) K
 | _,_=>False
def Ga(P:Program)(e:Operand->Option Value)(s:TypeId)(x:Operand)(f:Nat)(K:Value->Prop):Prop :=
 match P.underlying s with
 | some (.struct fs) =>
  match fs[f]? with
  | some fl=>bif Ai3 (P.cellsOf fl.type) 0 then False else Wk (e x) λ a=>K (.pointer (some (a.add fl.offset)))
  | none=>False
 | _=>False
def Ahh(x:Option Value)(K:Value->Prop):Prop :=
 match x with
 | some (.pointer p)=>AL p λ a=>K (.pointer (some a))
 | some (.func (.func f) u c)=>K (.func (.func f) u c)
 | some (.func (.yield l) u c)=>K (.func (.yield l) u c)
 | _=>False
def Bh(P:Program)(e:Operand->Option Value)(o:Oper)(K:Value->Prop):Prop :=
 bif known e o then
  match Az P (execOp (KD e) o) with
  | some (.value v)=>K v
  | _=>False
 else False
def WL(P:Program)(e:Operand->Option Value)(o:Oper)(K:Value->Prop):Prop :=
 match o.op with
 | .move x=>GX (e x) K
 | .assign x=>GX (e x) K
 | .pick c a b=>Aan (e c) λ t=>Tp t (GX (e a) K) (GX (e b) K)
 | .nilCheck x=>Ahh (e x) K
 | .binOp op t x y _=>Wx P e op t x y K
 | .fieldAddr s x f=>Ga P e s x f K
 | .indexAddr t x i=>Gd P e t x i K
 | .index t x i=>Q7 P e t x i K
 | .slice t x lo hi mx=>Sa P e t x lo hi mx K
 | _=>Bh P e o K
def AdZ(P:Program)(t:TypeId):Bool :=
 match P.underlying t with
 | some (.int _)=>true
 | _=>false
def AfF(P:Program)(ts:Array TypeId):Bool :=
 match ts.toList with
 | t :: _=>match P.underlying t with
  | some .string | some (.slice _) | some (.array _ _)=>true
  | _=>false
 | []=>false
def Ad0(P:Program)(t:TypeId):Bool :=
 match P.underlying t with
 | some (.pointer _)=>true
 | _=>false
def BV(P:Program)(o:Oper):Bool :=
 match o.op with
 | .move _ | .assign _ | .pick _ _ _ | .nilCheck _ | .fieldAddr _ _ _ | .indexAddr _ _ _ | .index _ _ _ | .slice _ _ _ _ _=>true
 | .binOp _ t _ y _=>!(Ad0 P t) || Bx y
 | .unOp _ _ _ | .field _ _ _ | .extract _ _ | .makeFunc _ _ _ | .makeInterface _ _ | .build _ _=>true
 | .convert s d _=>AdZ P s && AdZ P d
 | .call { callee:=.builtin b,argTypes,.. } =>
  match b with
  | .len | .cap=>AfF P argTypes
  | .min | .max=>true
  | _=>false
 | _=>false
/-! ## Reads -/
abbrev Et:=List (Addr × Value)
def H5(a:Addr):List Value->Nat->Et
 | [],_=>[]
 | v :: vs,i=>(a.add i,v) :: H5 a vs (i+1)
def O4(P:Program)(t:TypeId)(x:Option Value)(k:Value->Et->Prop)(w:World):Prop :=
 match zeroOf P t with
 | none=>False
 | some z =>
  bif Ez P t then
   (bif Ai3 (P.cellsOf t) z.cells.toList.length then Wk x λ a=>BT z.cells.toList a 0 (λ vs=>k (.agg ⟨vs⟩) (H5 a vs 0)) w else False)
  else bif (P.underlying t).isSome then Wk x λ a=>BT [z] a 0 (λ vs=>k (vs.headD undef) (H5 a vs 0)) w else False
/-! ## What acts -/
abbrev Wl:=Option (List PanicEntry->World->Prop)
def ZN(kp:Wl)(ch:List PanicEntry)(w:World):Prop :=
 match kp with
 | none=>False
 | some p=>p ch w
def Agd(P:Program)(kp:Wl)(d:Bool)(f:FuncId)(args:Array Value)(z:Value)(k:Value->World->Prop)(w:World):Prop :=
 match kp with
 | none=>Calls P f args w λ e w'=>Tq d z λ v=>e=.returned v/\k v w'
 | some p=>Calls P f args w λ e w'=>(Tq d z λ v=>e=.returned v/\k v w')\/∃ ch,e=.panicked ch/\p ch w'
def AgE(P:Program)(d:Bool)(f:FuncId)(args:Array Value)(z:Value)(k:Value->World->Prop)(w:World):Prop :=
 match d with
 | true=>False
 | false=>match (callFunc f args).run P w with
  | .ok (.value v) w'=>Tq false z λ u=>v=u/\k u w'
  | _=>False
def AhK(kp:Wl)(x:Option Value)(w:World):Prop :=
 match kp with
 | none=>False
 | some p=>match x with
  | some (.iface t v)=>p [{ v:=.iface t v,recovered:=false }] w
  | _=>False
def V3(P:Program)(s:Sem Value)(z:Value)(k:Value->World->Prop)(w:World):Prop :=
 match s.run P w with
 | .ok v w'=>OH z λ u=>v=u/\k u w'
 | .halt _ _=>False
def OPU(P:Program)(s:Sem Unit)(k:World->Prop)(w:World):Prop :=
 match s.run P w with
 | .ok _ w'=>k w'
 | .halt _ _=>False
def Dc(P:Program)(s:Sem Value)(f:Value->World->Prop)(w:World):Prop :=
 match s.run P w with
 | .ok v w'=>f v w'
 | .halt _ _=>False
def OPN(P:Program)(s:Sem Value)(k0:World->Prop)(k1:Value->Value->World->Prop)(w:World):Prop :=
 match s.run P w with
 | .ok v w'=>(v=.tuple #[.bool false]/\k0 w')\/(∃ x y:Value,v=.tuple #[.bool true,x,y]/\k1 x y w')
 | .halt _ _=>False
def J3(P:Program)(l:Nat)(args:Array Value)(k:Bool->World->Prop)(w:World):Prop :=
 ∃ f tmps assign body,(Instr.yield l args).run P w=.ok (.round l f tmps assign body) w/\RoundIn Fence.wide 0 P l f tmps assign body w λ e w'=>∃ t,e=.returned (.bool t)/\k t w'
def enters(P:Program)(f:FuncId):Bool :=
 match P.funcs[f]? with
 | some fn => fn.body.isSome && !(fn.name == "runtime.NumGoroutine")
 | none=>false
def Hj(e:Operand->Option Value):List Operand->Option (List Value)
 | []=>some []
 | x :: xs=>match e x,Hj e xs with
  | some v,some vs=>some (v :: vs)
  | _,_=>none
def Cx(P:Program)(e:Operand->Option Value)(t:TypeId)(len:Nat)(parts:Array (Nat × Operand)):Option (TypeId × Array Value) :=
 match P.underlying t with
 | some (.slice el) =>
  match P.info? el with
  | some i =>
   match i.zero with
   | some z=>bif Ai3 len 0 && parts.toList.isEmpty then some (el,#[]) else bif (Nat.blt (2 ^ 24) (len*i.size)) || (Ai3 (len*i.size) 0) then none else
    (Instr.fill (λ j=>some (j*i.size,i.size)) ((Array.range (len*i.size)).map (z.cells[· % z.cells.size]!)) (parts.toList.map λ p=>(p.1,KD e p.2))).map λ c=>(el,c)
   | none=>none
  | none=>none
 | _=>none
def Ko(P:Program)(kp:Wl)(e:Operand->Option Value)(o:Oper)(k:Value->World->Prop)(w:World):Prop :=
 match o.op with
 | .alloc t=>(match zeroOf P t with
  | some z=>Cu z.cells t (λ b w'=>k (.pointer (some ⟨b,0,none⟩)) w') w
  | none=>False)
 | .box t x=>GX (e x) λ v=>Cu v.cells t (λ b w'=>k (.pointer (some ⟨b,0,none⟩)) w') w
 | .buildSlice t len parts=>bif known e o then
   (match Cx P e t len parts with
   | some (el,c)=>Cu c el (λ b w'=>k (.slice (some ⟨b,0,none⟩) len len) w') w
   | none=>False) else False
 | .store t a x=>GX (e x) λ v=>Wk (e a) λ p=>bif Ai3 v.cells.size (P.cellsOf t) && Fj P t then BO v.cells.toList p 0 (λ w'=>k undef w') w else False
 | .call c =>
  match c.callee with
  | .builtin b=>bif known e o then
    (match zeroOf P o.type with
    | some z=>(match b with
     | .append=>V3 P (Builtin.append_ c.argTypes o.type (c.args.map (KD e))) z k w
     | .copy=>V3 P (Builtin.copy_ c.argTypes o.type (c.args.map (KD e))) z k w
     | .len=>V3 P (Builtin.len_ c.argTypes o.type (c.args.map (KD e))) z k w
     | .clear=>V3 P (Builtin.clear_ c.argTypes o.type (c.args.map (KD e))) z k w
     | .delete=>V3 P (Builtin.delete_ c.argTypes o.type (c.args.map (KD e))) z k w
     | _=>False)
    | none=>False) else False
  | .value f =>
   (match Hj e c.args.toList,zeroOf P o.type with
   | some vs,some z=>Abo (e f) (λ g first captured=>bif enters P g then Agd P kp (Re f) g ⟨first.toList++vs++captured.toList⟩ z k w else AgE P (Re f) g ⟨first.toList++vs++captured.toList⟩ z k w) (λ l=>J3 P l ⟨vs⟩ (λ t w'=>k (.bool t) w') w)
   | _,_=>False)
  | .invoke _ _=>False
 | .convert s d x=>GX (e x) λ v=>(match zeroOf P o.type with
   | some z=>V3 P (convert s d v) z k w
   | none=>False)
 | .makeSlice t l c=>GX (e l) λ u=>GX (e c) λ v=>(match zeroOf P o.type with
   | some z=>V3 P (Instr.makeSlice t u v) z k w
   | none=>False)
 | .makeMap t none=>(match zeroOf P o.type with
   | some z=>V3 P (Instr.makeMap t none) z k w
   | none=>False)
 | .lookup t x i ok=>GX (e x) λ u=>GX (e i) λ v=>(match zeroOf P o.type with
   | some z=>V3 P (Instr.lookup t u v ok) z k w
   | none=>False)
 | .mapUpdate t m i x=>GX (e m) λ u=>GX (e i) λ v=>GX (e x) λ y=>OPU P (Instr.mapUpdate t u v y) (λ w'=>k undef w') w
 | .range t x=>GX (e x) λ u=>V3 P (Instr.range t u) (.pointer none) k w
 | .next i s=>GX (e i) λ u=>OPN P (Instr.next u s o.type) (λ w'=>k (.tuple #[.bool false]) w') (λ x y w'=>k (.tuple #[.bool true,x,y]) w') w
 | .entry i=>GX (e i) λ u=>(match zeroOf P o.type with
   | some z=>V3 P (Instr.entry u) z k w
   | none=>False)
 | .mapEntry t m i=>GX (e m) λ u=>GX (e i) λ v=>V3 P (Instr.mapEntry t u v) (.tuple #[.nilIface,.int .i64 0]) k w
 | .entryStore t m i x=>GX (e m) λ u=>GX (e i) λ v=>GX (e x) λ y=>OPU P (Instr.entryStore t u v y) (λ w'=>k undef w') w
 | .binOp op t x y _=>GX (e x) λ u=>GX (e y) λ v=>(match u,v with
   | .pointer p,.pointer q=>V3 P (binOp op t (.pointer p) (.pointer q)) (.bool false) k w
   | _,_=>False)
 | .panic x=>AhK kp (e x) w
 | _=>False
inductive Cls where
 | pure | read | Xy
 deriving DecidableEq
def AhX:Cls->Cls->Bool
 | .pure,.pure | .read,.read | .Xy,.Xy=>true
 | _,_=>false
def cls(P:Program)(o:Oper):Cls :=
 bif BV P o then .pure else match o.op with
  | .load _ _=>.read
  | _=>.Xy
def dOp(P:Program)(kp:Wl)(e:Operand->Option Value)(o:Oper)(k:Value->Et->World->Prop)(w:World):Prop :=
 match cls P o with
 | .pure=>WL P e o λ v=>k v [] w
 | .read=>(match o.op with
  | .load t a=>O4 P t (e a) (λ v h=>k v h w) w
  | _=>False)
 | .Xy=>Ko P kp e o (λ v w'=>k v [] w') w
def AaC(P:Program)(d:Option Nat)(i:Nat):List Oper->Value
 | []=>.nilIface
 | o :: r =>
  match o.op with
  | .extract (.tmp t) j=>bif (match d with | some d=>Ai3 t d | none=>false) && Ai3 j i then (match zeroOf P o.type with | some z=>z | none=>.nilIface) else AaC P d i r
  | _=>AaC P d i r
def AbD(P:Program)(kp:Wl)(e:Operand->Option Value)(o:Oper)(rest:List Oper)(k:Value->Et->World->Prop)(w:World):Prop :=
 match o.op with
 | .entry i=>GX (e i) λ u=>V3 P (Instr.entry u) (.tuple #[AaC P o.dst 0 rest,AaC P o.dst 1 rest]) (λ v w'=>k v [] w') w
 | _=>dOp P kp e o k w
def H0(ops:Array Oper)(o:Oper)(fr:Fr)(A B:Fr->Prop):Prop :=
 match o.guard with
 | none=>A fr
 | some (j,want) =>
  match (ops[j]?).bind (·.dst) with
  | none=>False
  | some d =>
   match look fr d with
   | some (.bool b)=>Tp b (bif want then A ((d,.bool true) :: fr) else B ((d,.bool true) :: fr)) (bif want then B ((d,.bool false) :: fr) else A ((d,.bool false) :: fr))
   | some (.tuple _)=>B fr
   | _=>False
def Y3(P:Program)(kp:Wl)(n:Nat)(ops:Array Oper):List Oper->Fr->(Fr->World->Prop)->World->Prop
 | [],fr,K,w=>K fr w
 | o :: rest,fr,K,w =>
  H0 ops o fr (λ fr=>AbD P kp (D8 fr) o rest (λ v _ w'=>Y3 P kp n ops rest (put n fr o.dst v) K w') w)
   (λ fr=>Y3 P kp n ops rest (put n fr o.dst undef) K w)
/-! ## A region that draws its order -/
def Qf(ops:Array Oper)(j:Nat):List Nat :=
 match ops[j]? with
 | some o=>(o.after.toList.filter λ e=>Region.binds .any e).map (·.on)
 | none=>[]
def Hv(ops:Array Oper):Nat->List Nat->List Nat
 | 0,s=>s
 | k+1,s=>bif s.contains k then Hv ops k (Qf ops k++s) else Hv ops k s
def Ay(ops:Array Oper)(j:Nat):List Nat:=Hv ops j (Qf ops j)
def holds(h:Et)(w:World):Prop :=
 match h with
 | []=>True
 | [x]=>w.cell? x.1=some x.2
 | x :: y :: r=>w.cell? x.1=some x.2/\holds (y :: r) w
def stands(ps:List Nat):List (Nat × Et)->World->Prop->Prop
 | [],_,X=>X
 | s :: r,w,X=>bif ps.contains s.1 then stands ps r w X else holds s.2 w/\stands ps r w X
def kept(ps:List Nat)(held:List (Nat × Et)):List (Nat × Et):=held.filter λ s=>!ps.contains s.1
def OU(P:Program)(ops:Array Oper)(c:Cls)(i:Nat):Bool :=
 match ops[i]? with
 | some o=>AhX (cls P o) c
 | none=>false
def Adh:List Nat->(Nat->Prop)->Prop
 | [],_=>True
 | [i],f=>f i
 | i :: j :: r,f=>f i/\Adh (j :: r) f
def Dr(P:Program)(kp:Wl)(n:Nat)(ops:Array Oper):Nat->Array Bool->List (Nat × Et)->Fr->(Fr->World->Prop)->World->Prop
 | 0,listed,_,fr,K,w=>bif (Region.ready .any ops listed).isEmpty then K fr w else False
 | fuel+1,listed,held,fr,K,w =>
  match Region.ready .any ops listed with
  | []=>K fr w
  | i0 :: rs =>
   match (i0 :: rs).find? (OU P ops .pure) with
   | some i =>
    (match ops[i]? with
    | some o=>bif Region.free .any ops listed i then
      H0 ops o fr (λ fr=>WL P (D8 fr) o λ v=>Dr P kp n ops fuel (listed.setIfInBounds i true) held (put n fr o.dst v) K w)
       (λ fr=>Dr P kp n ops fuel (listed.setIfInBounds i true) held (put n fr o.dst undef) K w) else False
    | none=>False)
   | none =>
    match (i0 :: rs).find? (OU P ops .read) with
    | some i =>
     (match ops[i]? with
     | some o=>bif Region.free .any ops listed i then
       H0 ops o fr (λ fr=>(match o.op with
         | .load t a=>O4 P t (D8 fr a) (λ v h=>Dr P kp n ops fuel (listed.setIfInBounds i true) ((i,h) :: held) (put n fr o.dst v) K w) w
         | _=>False))
        (λ fr=>Dr P kp n ops fuel (listed.setIfInBounds i true) held (put n fr o.dst undef) K w) else False
     | none=>False)
    | none =>
     Adh (i0 :: rs) λ j =>
      match ops[j]? with
      | some o =>
       H0 ops o fr (λ fr=>Ko P kp (D8 fr) o (λ v w' =>
         stands (Ay ops j) held w' (Dr P kp n ops fuel (listed.setIfInBounds j true) (kept (Ay ops j) held) (put n fr o.dst v) K w')) w)
        (λ fr=>Dr P kp n ops fuel (listed.setIfInBounds j true) (kept (Ay ops j) held) (put n fr o.dst undef) K w)
      | none=>False
/-! ## Code -/
structure Hint where
 BW:List (Nat × Value)
 keep:List Nat
abbrev Hints:=List (Nat × Hint)
def Q5:Hints->Option Nat->Option Hint
 | _,none=>none
 | [],_=>none
 | x :: r,some i=>bif Ai3 x.1 i then some x.2 else Q5 r (some i)
def A7:Code->Option Nat
 | .region id _ _=>some id
 | .seq a b=>(A7 a).or (A7 b)
 | .cond _ a b=>(A7 a).or (A7 b)
 | .block _ c=>A7 c
 | .loop c=>A7 c
 | .scope c=>A7 c
 | .rangeFunc _ _ a b=>(A7 a).or (A7 b)
 | _=>none
def Bb(i:Nat):List Oper->Bool
 | []=>false
 | o :: r=>(match o.dst with | some d=>Ai3 d i | none=>false) || Bb i r
def writes(i:Nat):Code->Bool
 | .skip | .label _ | .exit _ | .ret=>false
 | .region _ ops _=>Bb i ops.toList
 | .seq a b=>writes i a || writes i b
 | .cond _ a b=>writes i a || writes i b
 | .block _ c=>writes i c
 | .loop c=>writes i c
 | .scope c=>writes i c
 | .rangeFunc _ _ _ _=>false
 | _=>true
def AH:Code->Bool
 | .seq a b=>AH a && AH b
 | .cond _ a b=>AH a && AH b
 | .block _ c=>AH c
 | .loop c=>AH c
 | .scope c=>AH c
 | .rangeFunc _ _ _ _=>false
 | _=>true
def G3:Code->Bool
 | .ret=>true
 | .seq a b=>G3 a || G3 b
 | .cond _ a b=>G3 a || G3 b
 | .block _ c=>G3 c
 | .loop c=>G3 c
 | .scope c=>G3 c
 | .rangeFunc _ _ _ b=>G3 b
 | _=>false
def FL(gT:List Nat):Code->List Nat
 | .exit id=>bif gT.contains id then [] else [id]
 | .seq a b=>FL gT a++FL gT b
 | .cond _ a b=>FL gT a++FL gT b
 | .block id c=>FL (id :: gT) c
 | .loop c=>FL gT c
 | .scope c=>FL gT c
 | .rangeFunc _ _ _ b=>FL gT b
 | _=>[]
def US:List Nat->List Nat
 | []=>[]
 | x :: r=>bif (US r).contains x then US r else x :: US r
def Qc(c:Code):List (Option Code × Exit) :=
 (none,.normal) :: ((bif G3 c then [(some .ret,.ret)] else [])++(US (FL [] c)).map λ i=>(some (.exit i),.exit i))
def orJ(j:Option Code)(f:Exit->Prop):List (Option Code × Exit)->Prop
 | []=>False
 | [x]=>j=x.1/\f x.2
 | x :: y :: r=>(j=x.1/\f x.2)\/orJ j f (y :: r)
def MH(fr:Fr):List (Nat × Value)->Option (List Value)
 | []=>some []
 | x :: r=>match look fr x.1,MH fr r with
  | some v,some vs=>some (v :: vs)
  | _,_=>none
def ENT(BW:List (Nat × Value))(fr:Fr)(k:List Value->Prop):Prop :=
 match MH fr BW with
 | some s=>bif DY (BW.map (·.2)) s then k s else False
 | none=>False
def H8(fr:Fr):List Nat->Fr
 | []=>[]
 | i :: r=>match look fr i with
  | some v=>(i,v) :: H8 fr r
  | none=>H8 fr r
def GN(BW:List (Nat × Value))(s:List Value)(rest:Fr):Fr :=
 match BW,s with
 | m :: ms,v :: vs=>(m.1,v) :: GN ms vs rest
 | _,_=>rest
def Lg(c:Code)(keep:List Nat):Bool:=keep.all λ i=>!writes i c
def AhH(zs:List Value)(body:List Value->(List Value->World->Prop)->World->Prop)(lx:(List Value->Prop)->Prop)(w:World):Prop :=
 ∃(Inv:List Value->World->Prop) (mu:List Value->World->Nat),lx (λ s=>Inv s w) /\
  Uv zs λ s=>∀ w,Inv s w->body s (λ s' w'=>Inv s' w'/\mu s' w'<mu s w) w
def Aiw(zs:List Value)(before:(List Value->World->Prop)->Prop)(behind:List Value->World->Prop):Prop :=
 ∃ Y:List Value->World->Prop,before Y/\Uv zs λ s=>∀ w,Y s w->behind s w
def AhG(zs:List Value)(body:List Value->List Nat->(List Value->List Nat->World->Prop)->World->Prop)(lx:(List Value->Prop)->Prop)(ms:List Nat)(w:World):Prop :=
 ∃(Inv:List Value->List Nat->World->Prop) (mu:List Value->World->Nat),lx (λ s=>Inv s ms w) /\
  Uv zs λ s=>∀ ms w,Inv s ms w->body s ms (λ s' aK w'=>Inv s' aK w'/\mu s' w'<mu s w) w
def Aiv(zs:List Value)(before:(List Value->List Nat->World->Prop)->Prop)(behind:List Value->List Nat->World->Prop):Prop :=
 ∃ Y:List Value->List Nat->World->Prop,before Y/\Uv zs λ s=>∀ ms w,Y s ms w->behind s ms w
/-! ## A range over a function -/
def LQ(rr:Loop)(l:Nat)(k:World->Prop)(w:World):Prop :=
 w.heap[l]?=some (.loop rr)/\k (w.putObj l (.loop { rr with state:=.busy }))
def Bk(rr:Loop)(l:Nat)(k:Bool->World->Prop)(j:Option Code)(w:World):Prop :=
 w.heap[l]?=some (.loop { rr with state:=.busy })/\k j.isNone (w.putObj l (.loop { rr with state:=if j.isNone then .ready else .done,pending:=j }))
def LU(rr:Loop)(l:Nat)(k:Option Code->World->Prop)(w:World):Prop :=
 ∃ j,w.heap[l]?=some (.loop { rr with state:=if j.isNone then .ready else .done,pending:=j })/\k j (w.putObj l (.loop { rr with state:=.exhausted,pending:=j }))
def Ac6(P:Program)(zs:List Value)(lY:Loop->Nat->List Value->(Option Code->World->Prop)->World->Prop)(f:FuncId)(fi ca:Array Value)(K:Option Code->World->Prop)(rr:Loop)(l:Nat)(w:World):Prop :=
 (Uv zs λ vs=>∀(k:Bool->World->Prop) (w:World),w.heap[l]?=some (.loop rr)->lY rr l vs (Bk rr l k) w->J3 P l ⟨vs⟩ k w) ->
  Calls P f ⟨fi.toList++[.func (.yield l) #[] #[]]++ca.toList⟩ w λ e w'=>(∃ v,e=.returned v)/\LU rr l K w'
def AhO(P:Program)(rd:Option Nat)(zs:List Value)(v:Option Value)(lY:Loop->Nat->List Value->(Option Code->World->Prop)->World->Prop)(K:List Nat->Option Code->World->Prop)(w:World):Prop :=
 AgD v λ f fi ca=>enters P f=true /\
  match rd with
  | none=>∀ rr:Loop,rr.state=.ready->rr.pending=none->Ac6 P zs lY f fi ca (K [w.heap.size]) rr (w.heap.size+1) ((w.alloc (.deferred (some []))).alloc (.loop rr))
  | some lo=>(∃ ro,w.heap[lo]?=some (.loop ro))/\∀ rr:Loop,rr.state=.ready->rr.pending=none->Ac6 P zs lY f fi ca (K []) rr w.heap.size (w.alloc (.loop rr))
def Gl(n:Nat)(fr:Fr):List Nat->List Value->Fr
 | p :: ps,v :: vs=>Gl n (put n fr (some p) v) ps vs
 | _,_=>fr
def Rx:List Nat->List Nat->Bool
 | [],[]=>true
 | x :: r,y :: s=>Ai3 x y && Rx r s
 | _,_=>false
def T9(C:Hints)(p:List PanicEntry->World->Prop):Wl :=
 match Q5 C (some 1000000) with
 | none=>none
 | some _=>some p
def den(P:Program)(n:Nat)(L C:Hints):Code->Option Nat->(Exit->Fr->List Nat->World->Prop)->Fr->List Nat->World->Prop
 | .skip,_,K,fr,ms,w=>K .normal fr ms w
 | .label _,_,K,fr,ms,w=>K .normal fr ms w
 | .exit id,_,K,fr,ms,w=>K (.exit id) fr ms w
 | .ret,_,K,fr,ms,w=>K .ret fr ms w
 | .seq a b,rd,K,fr,ms,w =>
  match Q5 C (A7 b) with
  | none=>den P n L C a rd (λ e aG aK w'=>match e with
    | .normal=>den P n L C b rd K aG aK w'
    | e=>K e aG aK w') fr ms w
  | some h=>bif Lg a h.keep then
    (bif AH a then
     Aiw (h.BW.map (·.2)) (λ Y=>den P n L C a rd (λ e aG aK w'=>match e with
      | .normal=>ENT h.BW aG λ s=>Y s w'
      | e=>K e aG aK w') fr ms w) (λ s w'=>den P n L C b rd K (GN h.BW s (H8 fr h.keep)) ms w')
    else
     Aiv (h.BW.map (·.2)) (λ Y=>den P n L C a rd (λ e aG aK w'=>match e with
      | .normal=>ENT h.BW aG λ s=>Y s aK w'
      | e=>K e aG aK w') fr ms w) (λ s aK w'=>den P n L C b rd K (GN h.BW s (H8 fr h.keep)) aK w'))
   else False
 | .cond c a b,rd,K,fr,ms,w =>
  (match D8 fr c with
  | some (.bool t)=>(match c with
   | .tmp i=>Tp t (den P n L C a rd K ((i,.bool true) :: fr) ms w) (den P n L C b rd K ((i,.bool false) :: fr) ms w)
   | _=>Tp t (den P n L C a rd K fr ms w) (den P n L C b rd K fr ms w))
  | _=>False)
 | .block id c,rd,K,fr,ms,w=>den P n L C c rd (λ e aG aK w'=>match e with
   | .exit j=>bif Ai3 j id then K .normal aG aK w' else K (.exit j) aG aK w'
   | e=>K e aG aK w') fr ms w
 | .loop c,rd,K,fr,ms,w =>
  (match Q5 L (A7 c) with
  | none=>False
  | some h=>bif Lg c h.keep then
    (bif AH c then
     AhH (h.BW.map (·.2)) (λ s k w'=>den P n L C c rd (λ e aG aK aR=>match e with
      | .normal=>ENT h.BW aG λ s'=>k s' aR
      | e=>K e aG aK aR) (GN h.BW s (H8 fr h.keep)) ms w') (ENT h.BW fr) w
    else
     AhG (h.BW.map (·.2)) (λ s aK k w'=>den P n L C c rd (λ e aG kT aR=>match e with
      | .normal=>ENT h.BW aG λ s'=>k s' kT aR
      | e=>K e aG kT aR) (GN h.BW s (H8 fr h.keep)) aK w') (ENT h.BW fr) ms w)
   else False)
 | .scope c,rd,K,fr,ms,w=>den P n L C c rd (λ e aG aK w'=>match e with
   | .goto _=>False
   | e=>K e aG aK w') fr ms w
 | .region _ ops false,_,K,fr,ms,w=>Y3 P (T9 C λ ch w'=>K (.panic ch) [] ms w') n ops ops.toList fr (λ aG w'=>K .normal aG ms w') w
 | .region _ ops true,_,K,fr,ms,w=>bif Region.noSelect ops then AcU (λ w'=>Dr P (T9 C λ ch w'=>K (.panic ch) [] ms w') n ops ops.size (Array.replicate ops.size false) [] fr (λ aG aR=>K .normal aG ms aR) w') w else False
 | .rangeFunc g ps assign body,rd,K,fr,ms,w =>
  (match Q5 L ((A7 assign).or (A7 body)) with
  | none=>False
  | some h=>bif Rx (h.BW.map (·.1)) ps.toList && AH assign then
    AhO P rd (h.BW.map (·.2)) (D8 fr g)
     (λ rr l vs c w'=>den P n L C assign (some l) (λ e dr _ w1=>match e with
      | .normal=>LQ rr l (λ w2=>den P n L C body (some l) (λ e _ _ w3=>match e with
       | .normal=>c none w3
       | .ret=>c (some .ret) w3
       | .exit i=>c (some (.exit i)) w3
       | _=>False) dr [] w2) w1
      | _=>False) (Gl n fr ps.toList vs) [] w')
     (λ aK j w'=>orJ j (λ e=>K e fr (aK++ms) w') (Qc body)) w
   else False)
 | _,_,_,_,_,_=>False
/-! ## A function -/
def L9:Nat->List Value->Fr
 | _,[]=>[]
 | i,v :: vs=>(i,v) :: L9 (i+1) vs
def RR(P:Program)(fr:Fr):List ResultVar->(List Value->World->Prop)->World->Prop
 | [],k,w=>k [] w
 | .tmp t :: r,k,w=>GX (look fr t) λ v=>RR P fr r (λ vs w=>k (v :: vs) w) w
 | .cell a t :: r,k,w=>O4 P t (look fr a) (λ v _=>RR P fr r (λ vs w=>k (v :: vs) w) w) w
def AU:List Value->Value
 | [v]=>v
 | vs=>.tuple ⟨vs⟩
def Qz:List Nat->(World->Prop)->World->Prop
 | [],k,w=>k w
 | d :: ds,k,w=>w.heap[d]?=some (.deferred (some []))/\Qz ds k (w.putObj d (.deferred none))
def AgP(P:Program)(L C:Hints)(f:FuncId)(args:List Value)(k:Value->World->Prop)(w:World):Prop :=
 match P.funcs[f]? with
 | some fn =>
  (match fn.body with
  | some c=>bif Nat.ble args.length fn.ntmps then den P fn.ntmps L C c none (λ e fr ms w'=>match e with
    | .normal=>Qz ms (λ w'=>RR P fr fn.results.toList (λ vs aR=>k (AU vs) aR) w') w'
    | .ret=>Qz ms (λ w'=>RR P fr fn.results.toList (λ vs aR=>k (AU vs) aR) w') w'
    | _=>False) (L9 0 args) [] w else False
  | none=>False)
 | none=>False
theorem wrap_u8(n:Int):IntKind.u8.wrap n=n % 256:=by simp [IntKind.wrap,IntKind.signed,IntKind.bits]
theorem wrap_u32(n:Int):IntKind.u32.wrap n=n % 4294967296:=by simp [IntKind.wrap,IntKind.signed,IntKind.bits]
theorem wrap_u64(n:Int):IntKind.u64.wrap n=n % 18446744073709551616:=by simp [IntKind.wrap,IntKind.signed,IntKind.bits]
theorem FZ(n:Int):IntKind.i64.wrap n=if n % 18446744073709551616>=9223372036854775808 then n % 18446744073709551616-18446744073709551616 else n % 18446744073709551616:=by
 simp [IntKind.wrap,IntKind.signed,IntKind.bits]
theorem wrap_i64{n:Int}(h1 : -9223372036854775808<=n)(h2:n<=9223372036854775807):IntKind.i64.wrap n=n:=by
 rw [FZ];split <;> omega
theorem DS{n:Int}(h1:0<=n)(h2:n<256):IntKind.u8.wrap n=n:=by rw [wrap_u8];omega
theorem Ph{n:Int}(h1:0<=n)(h2:n<4294967296):IntKind.u32.wrap n=n:=by rw [wrap_u32];omega
theorem A8{n:Int}(h1:0<=n)(h2:n<18446744073709551616):IntKind.u64.wrap n=n:=by rw [wrap_u64];omega
theorem BQ(x:BitVec 32):IntKind.u32.wrap (x.toNat:Int)=(x.toNat:Int):=Ph (by omega) (by have:=x.isLt;omega)
theorem Bl{n:Nat}(x:BitVec n):Ai2 n (x.toNat:Int)=x:=by
 rw [BitVec.ofInt_natCast,BitVec.ofNat_toNat,BitVec.setWidth_eq]
theorem ZF{n:Nat}(z:Int):Ai2 n (z % (2 ^ n:Nat))=Ai2 n z:=by
 apply BitVec.eq_of_toInt_eq;simp only [BitVec.toInt_ofInt];exact Int.emod_bmod _ _
theorem Cq(z:Int):Ai2 32 (IntKind.u32.wrap z)=Ai2 32 z:=by
 rw [wrap_u32];exact ZF (n:=32) z
theorem ZG{n:Nat}(z:Int):Ai2 n (0-z) =-Ai2 n z:=by
 rw [Int.zero_sub];exact BitVec.ofInt_neg
theorem HW{n:Nat}(x:BitVec n)(k:Nat):Int.fdiv (x.toNat:Int) (2 ^ k)=((x >>> k).toNat:Int):=by
 rw [Int.fdiv_eq_ediv_of_nonneg _ (by exact Int.pow_nonneg (by decide))];rw [BitVec.toNat_ushiftRight,Nat.shiftRight_eq_div_pow]
 norm_cast
end Go.Dn
namespace Go.Dn
def AD(Q:Value->World->Prop):Ending->World->Prop:=λ e w=>∃ v,e=.returned v/\Q v w
theorem Aa{p:Prop}[Decidable p]{A B:Prop}(h1:p->A)(h2:¬ p->B):Tp (decide p) A B:=by
 by_cases h:p
 ·simp only [h,decide_true];exact h1 h
 ·simp only [h,decide_false];exact h2 h
theorem Ao{b:Bool}{A B:Prop}(h1:b=true->A)(h2:b=false->B):Tp b A B:=by
 cases b
 ·exact h2 rfl
 ·exact h1 rfl
theorem Aj{a b:Int}{A B:Prop}(h1:a=b->A)(h2:a≠b->B):Tp (a==b) A B :=
 Ao (λ h=>h1 (by simpa using h)) (λ h=>h2 (by simpa using h))
theorem As{a b:Int}{A B:Prop}(h1:a≠b->A)(h2:a=b->B):Tp (a != b) A B :=
 Ao (λ h=>h1 (by simpa using h)) (λ h=>h2 (by simpa using h))
theorem Ap{b:Bool}{A B:Prop}(h:Tp b B A):Tp (!b) A B:=by cases b <;> exact h
theorem AZ{A B:Prop}(h:A):Tp true A B:=h
theorem AN{A B:Prop}(h:B):Tp false A B:=h
theorem Ah{k:Nat}(h:k<9223372036854775807):IntKind.i64.wrap ((k:Int)+1)=((k+1:Nat):Int):=by
 rw [wrap_i64 (by omega) (by omega)];omega
variable {H:Type}{enc:TypeId × Value->H}
theorem Gr{a:Assume}{C:Checked}{os:Os}{f:FuncId}{fn:Func}{s:ChangeSpec}{conds:List PathCond}{apart fresh handsOn again:Bool}{X:World->Array Value->Prop}
  (hX:∀(w w':World) (args:Array Value),w.heap=w'.heap->X w args->X w' args)
  (own:ownKnob C.prog.godebug=none) (started:os.Started) (ir:C.prog.inits.idxOf? f=none) (df:C.prog.funcs[f]?=some fn)
  (witness:∃(w:World) (tape:Tape) (i:Input),w.os=os/\(w.forCall tape i).Shaped C.prog/\i.vars=[]/\Input.okWide C.prog (w.forCall tape i) .any w.heap.size f i /\
   ((s.pre enc C.prog fn conds apart (w.forCall tape i).memory i.args/\X (w.forCall tape i).memory i.args)/\sizedMet enc C.prog fn (OpenSpec.ofChange s) apart (w.forCall tape i).memory i.args)/\a.holds C.prog (lone (Frame.enter C.prog f i.args .normal) [] (w.forCall tape i)))
  (dK:∀(W:World) (base:Nat) (args:Array Value) (ds gs:List (DataW H)) (before:List MemPlace),
   (∀(j:Nat) t v,fn.params[j]?=some t->args[j]?=some v->Value.okWide C.prog W .any base t v) ->
   DataW.Whole enc C.prog fn.params.toList s.vars apart W args.toList ds gs before ->
   (DataW.weightsEach C.prog (fn.params.toList++s.plain.varTypes C.prog) (ds++gs)).all (·<=reachBytes)=true->X W args->W.ShapedOpen C.prog ->
   Calls C.prog f args W λ e W'=>∃ v,e=.returned v/\s.post enc C.prog fn apart fresh handsOn again W args v W') :
  ReturnsInHanded a C os f .any (λ w args=>(s.pre enc C.prog fn conds apart w args/\X w args)/\sizedMet enc C.prog fn (OpenSpec.ofChange s) apart w args) (s.post enc C.prog fn apart fresh handsOn again):=by
 refine returnsInHanded_of_calls own started ir witness ?_;intro w tape i _ lT _ aZ gN _;obtain⟨_,_,_,fn',hfn',_,_,_,_,bj⟩:=aZ;have e:fn'=fn:=Option.some.inj (hfn'.symm.trans df);subst e;obtain⟨⟨⟨ds,gs,before,hw,hc⟩,hx⟩,hz⟩:=gN;have kP:=DataW.Whole.of_heap (w':=w.forCall tape i) (by rfl) hw;refine (dK (w.forCall tape i) w.heap.size i.args ds gs before bj kP (hz.weights hw) (hX _ _ _ (by rfl) hx) lT).mono λ e W' ⟨v,he,hp⟩=>?_;subst he;exact ChangeSpec.post_blind hp
theorem KG{P:Program}{ts:List TypeId}{ds:List (DataW H)}(hZ:(DataW.weightsEach P ts ds).all (·<=reachBytes)=true){j:Nat}{t e:TypeId}{d:DataW H}(ht:ts[j]?=some t)(hd:ds[j]?=some d)(hu:P.underlying t=some (.slice e))
  {W:World} {base fuel:Nat} {held:Bool} {a:Option Addr} {l c:Nat} {p:List MemPlace} (hf:DataW.trod enc P W base (λ _=>true) held fuel t (Value.slice a l c).cells.toList=some (d,p)):c*P.bytesOf e<=reachBytes:=by
 rcases DataW.trod_slice hu hf with ⟨hc,_⟩ | ⟨a',len,cap,elems,rest,n,_,hc,hx,_,hl,_,hlen,_,da,_⟩
 ·have:[Value.slice a l c]=[Value.slice none 0 0]:=hc;simp at this;rw [this.2.2];simp
 ·have dF:[Value.slice a l c]=[Value.slice (some a') len cap]:=hc;simp only [List.cons.injEq,Value.slice.injEq,and_true] at dF;obtain⟨_,rfl,rfl⟩:=dF;simp only [Prod.mk.injEq] at hx;rw [hx.1] at hd;have:=sized_slice hZ ht hd hu;rw [List.length_map,List.length_map,hlen,(da rfl).1] at this;have e:l+(c-l)=c:=by omega
  rwa [e] at this
theorem Acb{P:Program}{f:FuncId}{fn:Func}{s:ChangeSpec}{c:OpenClaim}(h1:c.wf (OpenSpec.ofChange s)=true)(h2:laidOutB P=true)(h3:mapsRowed P=true)(h4:fn.params.all (P.readableRec ·)=true)(h5:namedTie P c.named s.vars=true)
  (h6:((c.stops==[]) && (P.stops==[]) && (c.knobs==[]) && (P.stopKnobs==[]))=true) (h7:(c.inPlace==P.inPlace f)=true) (h8:(c.unfollowed==P.unfollowed f)=true) (h9:(c.recurses==P.recurses f)=true) (mA:(c.named==P.varsNamed f)=true)
  (rA:((c.maps==(fn.params.toList++s.plain.varTypes P).any (P.mapsRec ·)) && (c.ifaces==(fn.params.toList++s.plain.varTypes P).any (P.ifacesRec ·)) && (c.mapsOut==P.mapsAmong fn.resultTypes.toList))=true)
  (jC:(c.loops==(fn.params.toList++s.plain.varTypes P).any (P.loopsFrom ·))=true) (mB:(c.wideKeys==(fn.params.toList++s.plain.varTypes P++fn.resultTypes.toList).any (P.wideKeysFrom ·))=true)
  (rB:(s.vars.all (P.varReadable ·) && fn.resultTypes.all (λ t=>P.readableRec t && decide (t<P.types.size)) && (c.ifacesOut==fn.resultTypes.toList.any (P.ifacesRec ·)) && (c.loopsOut==fn.resultTypes.toList.any (P.loopsFrom ·)))=true)
  (ji:(c.plainKeys==P.plainKeys)=true) (lI:(c.shortTexts.isNone && P.stopsHeard && P.mayEnter && (c.lifted==P.liftsFinal) && (P.make==some c.make) && (c.pinned==c.pinnedBy))=true) (hk:c.domain.isEmpty=true) (bB:(c.kinds==[])=true)
  (rD:(c.veiled==(fn.params.toList++s.plain.varTypes P++fn.resultTypes.toList).any (P.veiledRec ·))=true) (rE:c.veiledFits P fn.params.toList (fn.params.toList++s.plain.varTypes P++fn.resultTypes.toList)=true):joinedFacts P f fn s c=true:=by
 unfold joinedFacts;simp only [Bool.and_eq_true] at *;simp only [h1,h2,h3,h4,h5,h6,h7,h8,h9,mA,rA,jC,mB,rB,ji,lI,rD,rE,hk,bB,if_true,and_self]
end Go.Dn
namespace Go
set_option linter.unusedVariables false
set_option maxRecDepth 100000
theorem AbZ{P:Program}(h:P.funcs.any Func.goes=false)(c:OpenClaim):c.goesBy P=false:=by
 have hf:∀ f,P.goes f=false:=by
  intro f;have h1:∀ fn∈P.funcs,fn.goes=false:=by
   intro fn df;rw [Bool.eq_false_iff];intro hg;rw [Array.any_eq_false] at h;obtain⟨i,hi,rfl⟩:=Array.mem_iff_getElem.1 df;exact h i hi hg
  unfold Program.goes;rw [h,Bool.and_false,Bool.or_false,List.any_eq_false];intro g _;rw [Option.any_eq_true];rintro⟨fn,df,hg⟩;rw [h1 fn (Array.mem_of_getElem? df)] at hg;cases hg
 have ho:∀ o:Option FuncId,o.any P.goes=false:=by
  intro o;cases o with
  | none=>rfl
  | some f=>exact hf f
 have hl:∀ l:List FuncId,l.any P.goes=false:=λ l=>by
  rw [List.any_eq_false];intro f _;rw [hf];decide
 unfold OpenClaim.goesBy Program.goesAt Program.goesFrom;rw [ho,Bool.false_or];split
 ·rfl
 ·exact hl _
end Go
namespace Go.Dn
open _root_.Array renaming ext' -> Ai5
open _root_.Bool renaming and_eq_true -> Ai6
open _root_.Int renaming le_trans -> Ai4
open _root_.Nat renaming beq -> Ai3, eq_of_beq_eq_true -> Ai7
set_option linter.unusedVariables false
set_option maxRecDepth 100000
theorem JR{z:Value}{f:Value->Prop}(h:Qq z f):∃ v,f v:=by
 unfold Qq at h;split at h
 all_goals first
  | (obtain⟨a,b,c,h⟩:=h;exact⟨_,h⟩)
  | (obtain⟨a,h⟩:=h;exact⟨_,h⟩)
theorem Abq{z:Value}{f:Value->Prop}(h:Aas z f):∃ v,f v:=by
 unfold Aas at h;split at h
 ·rcases h with ⟨a,b,c,h⟩ | ⟨l,h⟩
  ·exact⟨_,h⟩
  ·exact⟨_,h⟩
 ·exact JR h
theorem NK:∀ {zs:List Value} {f:List Value->Prop},Fw zs f->∃ vs,vs.length=zs.length/\f vs
 | [],_,h=>⟨[],rfl,h⟩
 | _ :: _,_,h=>by
  obtain⟨v,h⟩:=JR h;obtain⟨vs,hl,h⟩:=NK h;exact⟨v :: vs,by simp [hl],h⟩
theorem Wh{z:Value}{f:Value->Prop}(h:AcY z f):∃ v,f v:=by
 unfold AcY at h;split at h
 ·obtain⟨vs,_,h⟩:=NK h;exact⟨_,h⟩
 ·exact JR h
theorem Tr:∀ {zs:List Value} {f:List Value->Prop},Wf zs f->∃ vs,f vs
 | [],_,h=>⟨[],h⟩
 | _ :: _,_,h=>by
  obtain⟨v,h⟩:=Wh h;obtain⟨vs,h⟩:=Tr h;exact⟨v :: vs,h⟩
theorem NL{z:Value}{f:Value->Prop}(h:OH z f):∃ v,f v:=by
 unfold OH at h;split at h
 ·obtain⟨vs,h⟩:=Tr h;exact⟨_,h⟩
 ·exact Wh h
theorem NJ{d:Bool}{z:Value}{f:Value->Prop}(h:Tq d z f):∃ v,f v:=by
 unfold Tq at h;split at h
 ·split at h
  ·rcases h with ⟨_,_,_,h⟩ | h <;> exact⟨_,h⟩
  ·exact NL h
 ·exact NL h
theorem E2{a b:IntKind}(h:Bn a b=true):a=b:=by
 cases a <;> cases b <;> first | rfl | (simp [Bn] at h)
theorem Pa{α:Type}{P:Program}(s:Sem α):∀ {v:α},Az P s=some v->∀ w,s.run P w=.ok v w:=by
 induction s with
 | pure a=>intro v h w;simp [Az] at h;subst h;rfl
 | program k ih=>intro v h w;simp only [Az] at h;simp only [Sem.run];exact ih P h w
 | mark m k ih=>intro v h w;simp only [Az] at h;simp only [Sem.run];exact ih h w
 | _=>intro v h;simp [Az] at h
theorem AV{x:Option Value}{k:Value->Prop}(h:GX x k):∃ v,x=some v/\k v:=by
 cases x with
 | none=>exact h.elim
 | some v=>exact⟨v,rfl,h⟩
theorem L5{p:Option Addr}{k:Addr->Prop}(h:AL p k):∃ a,p=some a/\k a:=by
 cases p with
 | none=>exact h.elim
 | some a=>exact⟨a,rfl,h⟩
theorem L4{x:Option Value}{k:Addr->Prop}(h:Wk x k):∃ a,x=some (.pointer (some a))/\k a:=by
 unfold Wk at h;split at h
 ·obtain⟨a,rfl,h⟩:=L5 h;exact⟨a,rfl,h⟩
 ·exact h.elim
theorem Abl{x:Option Value}{k:Bool->Prop}(h:Aan x k):∃ b,x=some (.bool b)/\k b:=by
 unfold Aan at h;split at h
 ·exact⟨_,rfl,h⟩
 ·exact h.elim
theorem LW{x:Option Value}{k:IntKind->Int->Prop}(h:Sy x k):∃ kd n,x=some (.int kd n)/\k kd n:=by
 unfold Sy at h;split at h
 ·exact⟨_,_,rfl,h⟩
 ·exact h.elim
theorem IB{P:Program}{t:TypeId}{d:TypeDesc}(h:P.underlying t=some d)(w:World):(underlying t).run P w=.ok d w:=by
 simp [underlying,h]
theorem X3{P:Program}{t:TypeId}(h:P.cellsOf t≠0)(w:World):(sizeOf t).run P w=.ok (P.cellsOf t) w:=by
 unfold Program.cellsOf at h ⊢;cases hi:P.info? t with
 | none=>simp [hi] at h
 | some i=>simp [sizeOf,typeInfo,hi]
section
variable {P:Program}{e:Operand->Option Value}{ρ:Operand->Value}
theorem YM{op:BinOp}{k k':IntKind}{a b:Int}{K:Value->Prop}(t:TypeId)(h:Ku op k k' a b K) :
  ∃ v,K v/\∀ w,(binOp op t (.int k a) (.int k' b)).run P w=.ok v w:=by
 unfold Ku at h;split at h
 ·obtain⟨h0,h⟩:=h;exact⟨_,h,λ w=>by simp [binOp,Op.shift,Int.not_lt.2 h0]⟩
 ·obtain⟨h0,h⟩:=h;exact⟨_,h,λ w=>by simp [binOp,Op.shift,Int.not_lt.2 h0]⟩
 ·rename_i op jK gu;cases hk:Bn k k' with
  | false=>simp [hk] at h
  | true =>
   simp only [hk,cond_true] at h;have:=E2 hk;subst this;split at h
   case h_4=>obtain⟨h0,h⟩:=h;exact⟨_,h,λ w=>by simp [binOp,Op.intDiv,h0]⟩
   case h_5=>obtain⟨h0,h⟩:=h;exact⟨_,h,λ w=>by simp [binOp,Op.intDiv,h0]⟩
   case h_16=>exact h.elim
   all_goals exact⟨_,h,λ w=>by simp [binOp,Op.intArith,Op.intBits,Op.intCmp]⟩
theorem Vq{op:BinOp}{k k':IntKind}{a b:Int}{K:Value->Prop}(h:N1 op k k' a b K):Ku op k k' a b K:=by
 unfold N1 at h;split at h
 ·by_cases hb:0<=b
  ·simp only [hb,decide_true,cond_true] at h;exact⟨hb,h⟩
  ·simp [hb] at h
 ·by_cases hb:0<=b
  ·simp only [hb,decide_true,cond_true] at h;exact⟨hb,h⟩
  ·simp [hb] at h
 ·by_cases hb:b=0
  ·simp [hb] at h
  ·simp only [hb,decide_false,cond_false] at h;unfold Ku;cases hk:Bn k k' <;> simp only [hk,cond_true,cond_false] at h ⊢;exact⟨hb,h⟩
 ·by_cases hb:b=0
  ·simp [hb] at h
  ·simp only [hb,decide_false,cond_false] at h;unfold Ku;cases hk:Bn k k' <;> simp only [hk,cond_true,cond_false] at h ⊢;exact⟨hb,h⟩
 ·exact h
theorem YN{op:BinOp}{a b:ByteArray}{K:Value->Prop}(t:TypeId)(h:Abf op a b K) :
  ∃ v,K v/\∀ w,(binOp op t (.string a) (.string b)).run P w=.ok v w:=by
 unfold Abf at h;split at h
 case h_1 =>
  obtain⟨h0,h⟩:=h;refine⟨_,h,λ w=>?_⟩;have h1:¬ (((a.size+b.size:Nat):Int) > IntKind.i64.max):=by
   have:IntKind.i64.max=9223372036854775807:=by decide
   rw [this];omega
  simp only [binOp,Op.stringOp,h1,if_false];rfl
 case h_8=>exact h.elim
 all_goals exact⟨_,h,λ w=>by simp [binOp,Op.stringOp,Au,FJ]⟩
theorem AdS{op:BinOp}{t:TypeId}{x y:Operand}{k k':IntKind}{a b:Int}(w:World):(eqGuard op t x y (.int k a) (.int k' b)).run P w=.ok () w:=by
 cases op <;> simp [eqGuard]
theorem AdT{op:BinOp}{t:TypeId}{x y:Operand}{a b:ByteArray}(w:World):(eqGuard op t x y (.string a) (.string b)).run P w=.ok () w:=by
 cases op <;> simp [eqGuard]
theorem Ua{t:TypeId}{cs:Array Value}{off:Nat}{v:Value}(h:XL P t cs off=some v)(hc:P.info? t≠none)(w:World):(part t cs off).run P w=.ok v w:=by
 obtain⟨i,hi⟩:=Option.ne_none_iff_exists'.1 hc;unfold XL at h;unfold part isAgg;split at h
 ·rename_i hu;simp [Program.cellsOf,hi] at h;simp [underlying,hu,sizeOf,typeInfo,hi,h]
 ·rename_i hu;simp [underlying,hu,h]
 ·rename_i hu;simp [underlying,hu,h]
 ·rename_i hu;simp [underlying,hu,h]
 ·cases h
theorem WY{d:Nat}{xs ys:Array Value}(ih:∀ t x y b,eqV P d t x y=some b->∀ m w,d<=m->(Op.equalIn m t x y).run P w=.ok b w) :
  ∀(fs:List Field) (b:Bool),AdE P (eqV P d) xs ys fs=some b->∀ m w,d<=m->(Op.eqFields m xs ys fs).run P w=.ok b w
 | [],b,h,m,w,_=>by simp [AdE] at h;subst h;simp [Op.eqFields]
 | f :: fs,b,h,m,w,hm=>by
  unfold AdE at h;cases hn : f.name == "_" with
  | true=>simp [hn] at h
  | false =>
   simp only [hn,cond_false] at h;split at h
   ·rename_i x y hx hy;split at h
    ·rename_i b1 c1 hb hc;have aV : f.name ≠ "_" := by simpa using hn
     have hu:P.info? f.type≠none:=by
      intro bS;have:P.underlying f.type=none:=by simp [Program.underlying,bS]
      simp [XL,this] at hx
     simp only [Op.eqFields,aV,ne_eq,not_false_eq_true,if_true,Sem.run_bind,Ua hx hu,Ua hy hu,Result.andThen_ok,ih _ _ _ _ hb m w hm];have h2:=WY ih fs c1 hc m w hm;simp at h;subst h;cases b1
     ·simp
     ·simp [h2]
    ·cases h
   ·cases h
theorem AaM:∀(d:Nat) (t:TypeId) (x y:Value) (b:Bool),eqV P d t x y=some b->∀ m w,d<=m->(Op.equalIn m t x y).run P w=.ok b w
 | 0,_,_,_,_,h,_,_,_=>by simp [eqV] at h
 | d+1,t,x,y,b,h,m,w,hm=>by
  obtain⟨m,rfl⟩:∃ k,m=k+1:=⟨m-1,by omega⟩;unfold eqV at h;split at h
  ·rename_i hu;split at h
   ·simp at h;simp [Op.equalIn,underlying,hu,h]
   ·cases h
  ·rename_i hu;split at h
   ·rename_i k a k' b';cases hk:Bn k k' with
    | false=>simp [hk] at h
    | true =>
     have:=E2 hk;subst this;simp [hk] at h;simp [Op.equalIn,underlying,hu,h]
   ·cases h
  ·rename_i hu;split at h
   ·simp at h;simp [Op.equalIn,underlying,hu,h]
   ·cases h
  ·rename_i fs hu;split at h
   ·rename_i xs ys;cases hs:P.stoodInHeld t with
    | true=>simp [hs] at h
    | false =>
     simp only [hs,cond_false] at h;have hf:P.fieldsOf t=fs:=by simp [Program.fieldsOf,hu]
     rw [run_equalIn_struct w m t xs ys (by rw [hf];exact hu) hs,hf];exact WY (λ t x y b h m w hm=>AaM d t x y b h m w hm) fs.toList b h m w (by omega)
   ·cases h
  ·cases h
theorem Aft{t:TypeId}(hu:P.underlying t=some .bool)(a b:Bool)(m:Nat)(w:World):(Op.equalIn (m+1) t (.bool a) (.bool b)).run P w=.ok (a==b) w:=by
 simp [Op.equalIn,underlying,hu]
theorem Ag4{t el:TypeId}(hu:P.underlying t=some (.pointer el))(p:Option Addr)(m:Nat)(w:World):(Op.equalIn (m+1) t (.pointer p) (.pointer none)).run P w=.ok p.isNone w:=by
 cases p <;> simp [Op.equalIn,underlying,hu]
theorem AdX{t el:TypeId}(hu:P.underlying t=some (.slice el))(p:Option Addr)(l c l2 c2 m:Nat)(w:World):(Op.equalIn (m+1) t (.slice p l c) (.slice none l2 c2)).run P w=.ok p.isNone w:=by
 cases p <;> simp [Op.equalIn,underlying,hu]
theorem Ag3{t k el:TypeId}(hu:P.underlying t=some (.map k el))(p:Option Nat)(m:Nat)(w:World):(Op.equalIn (m+1) t (.map p) (.map none)).run P w=.ok p.isNone w:=by
 cases p <;> simp [Op.equalIn,underlying,hu]
theorem Afu{t:TypeId}{ps rs:Array TypeId}{vr:Bool}(hu:P.underlying t=some (.func ps rs vr))(fn:Fn)(fi ca:Array Value)(m:Nat)(w:World):(Op.equalIn (m+1) t (.func fn fi ca) .nilFunc).run P w=.ok false w:=by
 simp [Op.equalIn,underlying,hu]
theorem Zw{t:TypeId}{ps rs:Array TypeId}{vr:Bool}(hu:P.underlying t=some (.func ps rs vr))(m:Nat)(w:World):(Op.equalIn (m+1) t .nilFunc .nilFunc).run P w=.ok true w:=by
 simp [Op.equalIn,underlying,hu]
theorem Dg{op:BinOp}{neg:Bool}(hn:isNeg op=some neg){t:TypeId}{x y:Value}{b:Bool}(hx:∀ w,(Op.equal t x y).run P w=.ok b w)
  (hp:∀ k n,x≠.int k n) (hf:∀ k n,x≠.float k n) (hc:∀ k n m,x≠.complex k n m) (hs:∀ s,x≠.string s) (w:World):(binOp op t x y).run P w=.ok (D7 neg b) w:=by
 cases op <;> simp [isNeg] at hn
 ·subst hn;cases x <;> first | exact absurd rfl (hp _ _) | exact absurd rfl (hf _ _) | exact absurd rfl (hc _ _ _) | exact absurd rfl (hs _) | (simp only [binOp,Sem.run_bind,hx,Result.andThen_ok];simp [D7])
 ·subst hn;cases x <;> first | exact absurd rfl (hp _ _) | exact absurd rfl (hf _ _) | exact absurd rfl (hc _ _ _) | exact absurd rfl (hs _) | (simp only [binOp,Sem.run_bind,hx,Result.andThen_ok];simp [D7])
theorem AbS{op:BinOp}{t:TypeId}{u v:Value}{K:Value->Prop}(x y:Operand)(h:OR P op t u v K) :
  ∃ r,K r/\∀ w,(do eqGuard op t x y u v;binOp op t u v:Sem Value).run P w=.ok r w:=by
 unfold OR at h;split at h
 ·exact h.elim
 ·rename_i neg cW;split at h
  ·rename_i a b;have hu:P.underlying t=some .bool:=by
    cases hh:P.underlying t with
    | none=>simp [hh] at h
    | some d=>cases d <;> simp_all
   simp only [hu,cond_true] at h;refine⟨_,h,λ w=>?_⟩;have hg:(eqGuard op t x y (.bool a) (.bool b)).run P w=.ok () w:=by cases op <;> simp [eqGuard]
   simp only [Sem.run_bind,hg,Result.andThen_ok];exact Dg cW (λ w=>Aft hu a b 9999 w) (by simp) (by simp) (by simp) (by simp) w
  ·rename_i p;have hu:∃ el,P.underlying t=some (.pointer el):=by
    cases hh:P.underlying t with
    | none=>simp [hh] at h
    | some d=>cases d <;> simp_all
   obtain⟨el,hu⟩:=hu;simp only [hu,cond_true] at h;refine⟨_,h,λ w=>?_⟩;have hg:(eqGuard op t x y (.pointer p) (.pointer none)).run P w=.ok () w:=by cases op <;> simp [eqGuard]
   simp only [Sem.run_bind,hg,Result.andThen_ok];exact Dg cW (λ w=>Ag4 hu p 9999 w) (by simp) (by simp) (by simp) (by simp) w
  ·rename_i p l c l2 c2;have hu:∃ el,P.underlying t=some (.slice el):=by
    cases hh:P.underlying t with
    | none=>simp [hh] at h
    | some d=>cases d <;> simp_all
   obtain⟨el,hu⟩:=hu;simp only [hu,cond_true] at h;refine⟨_,h,λ w=>?_⟩;have hg:(eqGuard op t x y (.slice p l c) (.slice none l2 c2)).run P w=.ok () w:=by cases op <;> simp [eqGuard]
   simp only [Sem.run_bind,hg,Result.andThen_ok];exact Dg cW (λ w=>AdX hu p l c l2 c2 9999 w) (by simp) (by simp) (by simp) (by simp) w
  ·rename_i p;have hu:∃ a b,P.underlying t=some (.map a b):=by
    cases hh:P.underlying t with
    | none=>simp [hh] at h
    | some d=>cases d <;> simp_all
   obtain⟨a,b,hu⟩:=hu;simp only [hu,cond_true] at h;refine⟨_,h,λ w=>?_⟩;have hg:(eqGuard op t x y (.map p) (.map none)).run P w=.ok () w:=by cases op <;> simp [eqGuard]
   simp only [Sem.run_bind,hg,Result.andThen_ok];exact Dg cW (λ w=>Ag3 hu p 9999 w) (by simp) (by simp) (by simp) (by simp) w
  ·have hu:∃ a b c,P.underlying t=some (.func a b c):=by
    cases hh:P.underlying t with
    | none=>simp [hh] at h
    | some d=>cases d <;> simp_all
   obtain⟨a,b,c,hu⟩:=hu;simp only [hu,cond_true] at h;refine⟨_,h,λ w=>?_⟩;have hg:(eqGuard op t x y .nilFunc .nilFunc).run P w=.ok () w:=by cases op <;> simp [eqGuard]
   simp only [Sem.run_bind,hg,Result.andThen_ok];exact Dg cW (λ w=>Zw hu 9999 w) (by simp) (by simp) (by simp) (by simp) w
  ·rename_i fn fi ca;have hu:∃ a b c,P.underlying t=some (.func a b c):=by
    cases hh:P.underlying t with
    | none=>simp [hh] at h
    | some d=>cases d <;> simp_all
   obtain⟨a,b,c,hu⟩:=hu;simp only [hu,cond_true] at h;refine⟨_,h,λ w=>?_⟩;have hg:(eqGuard op t x y (.func fn fi ca) .nilFunc).run P w=.ok () w:=by cases op <;> simp [eqGuard]
   simp only [Sem.run_bind,hg,Result.andThen_ok];exact Dg cW (λ w=>Afu hu fn fi ca 9999 w) (by simp) (by simp) (by simp) (by simp) w
  ·rename_i xs ys;cases k3:P.eqGuardType P.depth t with
   | true=>simp [k3] at h
   | false =>
    simp only [k3,cond_false] at h;split at h
    ·rename_i b hb;refine⟨_,h,λ w=>?_⟩;have hg:(eqGuard op t x y (.agg xs) (.agg ys)).run P w=.ok () w:=by cases op <;> simp [eqGuard,k3]
     simp only [Sem.run_bind,hg,Result.andThen_ok];exact Dg cW (λ w=>AaM 5 t _ _ b hb 10000 w (by omega)) (by simp) (by simp) (by simp) (by simp) w
    ·exact h.elim
  ·exact h.elim
theorem Xf{t:TypeId}{ms:Array (String × TypeId)}(hu:P.underlying t=some (.interface ms)){u:Value}{b:Bool}(so:(u=.nilIface/\b=true)\/((∃ a v,u=.iface a v)/\b=false))(m:Nat)(w:World) :
  (Op.equalIn (m+1) t u .nilIface).run P w=.ok b w:=by
 rcases so with ⟨rfl,rfl⟩ | ⟨⟨a,v,rfl⟩,rfl⟩ <;> simp [Op.equalIn,underlying,hu]
theorem WZ{op:BinOp}{t:TypeId}{u v:Value}{K:Value->Prop}(x y:Operand)(h:AbR P (Bx y) op t u v K) :
  ∃ r,K r/\∀ w,(do eqGuard op t x y u v;binOp op t u v:Sem Value).run P w=.ok r w:=by
 unfold AbR at h;split at h
 ·unfold Aed at h;split at h
  ·exact h.elim
  ·rename_i neg cW;have hu:∃ ms,P.underlying t=some (.interface ms):=by
    unfold MF at h;cases hh:P.underlying t with
    | none=>simp [hh] at h
    | some d=>cases d <;> simp_all
   obtain⟨ms,hu⟩:=hu;obtain⟨cv,rfl⟩:∃ cv,y=.const cv:=by
    cases y <;> first | exact⟨_,rfl⟩ | (simp [Bx] at h)
   simp only [MF,hu,Bx,Bool.true_and,cond_true] at h;unfold AcX at h;split at h
   ·refine⟨_,h,λ w=>?_⟩;have hg:(eqGuard op t x (.const cv) .nilIface .nilIface).run P w=.ok () w:=by cases op <;> simp [eqGuard]
    simp only [Sem.run_bind,hg,Result.andThen_ok];exact Dg cW (λ w=>Xf hu (.inl ⟨rfl,rfl⟩) 9999 w) (by simp) (by simp) (by simp) (by simp) w
   ·rename_i a v;refine⟨_,h,λ w=>?_⟩;have hg:(eqGuard op t x (.const cv) (.iface a v) .nilIface).run P w=.ok () w:=by cases op <;> simp [eqGuard]
    simp only [Sem.run_bind,hg,Result.andThen_ok];exact Dg cW (λ w=>Xf hu (.inr ⟨⟨a,v,rfl⟩,rfl⟩) 9999 w) (by simp) (by simp) (by simp) (by simp) w
   ·exact h.elim
 ·exact AbS x y h
end
section
variable {P:Program}{kp:Wl}{e:Operand->Option Value}{ρ:Operand->Value}
theorem Cm{x:Option Operand}{d:Nat}{k:Int->Prop}(he:∀ x v,e x=some v->ρ x=v)(h:Eu e x d k) :
  ∃ n:Int,k n/\(x=none/\n=d\/∃ o kd,x=some o/\ρ o=.int kd n):=by
 unfold Eu at h;split at h
 ·exact⟨_,h,.inl ⟨rfl,rfl⟩⟩
 ·rename_i o;split at h
  ·rename_i kd n hn;exact⟨n,h,.inr ⟨o,kd,rfl,he _ _ hn⟩⟩
  ·exact h.elim
theorem run_sliceBound{v:Value}{kd:IntKind}{n:Int}{y:Nat}{code:BoundsCode}(hv:v=.int kd n)(h0:0<=n)(h1:n<=y)(w:World) :
  (Instr.sliceBound v y code).run P w=.ok n.toNat w:=by
 subst hv;simp [Instr.sliceBound,asIntOf,h0,h1]
theorem JF{tC:Bool}{len cap:Nat}{lo hi:Option Operand}{l h:Int}(h0:0<=l)(h1:l<=h)(h2:h<=cap)
  (hl:lo=none/\l=(0:Nat)\/∃ o kd,lo=some o/\ρ o=.int kd l) (hh:hi=none/\h=len\/∃ o kd,hi=some o/\ρ o=.int kd h) (w:World) :
  (Instr.sliceBounds tC len cap (lo.map ρ) (hi.map ρ) none).run P w=.ok (l.toNat,h.toNat,cap) w:=by
 rcases hl with ⟨rfl,rfl⟩ | ⟨o,kd,rfl,ho⟩ <;> rcases hh with ⟨rfl,rfl⟩ | ⟨o',kd',rfl,jM⟩
 ·simp [Instr.sliceBounds]
 ·simp [Instr.sliceBounds,run_sliceBound jM (Ai4 h0 h1) h2]
 ·have h3:l<=(len:Int):=h1;simp [Instr.sliceBounds,run_sliceBound ho h0 h3]
 ·have h3:l<=(h.toNat:Int):=by omega
  simp [Instr.sliceBounds,run_sliceBound jM (Ai4 h0 h1) h2,run_sliceBound ho h0 h3]
theorem X1{len cap:Nat}{lo hi:Option Operand}{l h m:Int}{mo:Operand}{km:IntKind}(h0:0<=l)(h1:l<=h)(h2:h<=m)(h3:m<=cap)
  (hl:lo=none/\l=(0:Nat)\/∃ o kd,lo=some o/\ρ o=.int kd l) (hh:∃ o kd,hi=some o/\ρ o=.int kd h) (hm:ρ mo=.int km m) (w:World) :
  (Instr.sliceBounds true len cap (lo.map ρ) (hi.map ρ) (some (ρ mo))).run P w=.ok (l.toNat,h.toNat,m.toNat) w:=by
 obtain⟨o',kd',rfl,jM⟩:=hh;have h4:h<=(m.toNat:Int):=by omega
 rcases hl with ⟨rfl,rfl⟩ | ⟨o,kd,rfl,ho⟩
 ·simp [Instr.sliceBounds,run_sliceBound hm (by omega) h3,run_sliceBound jM (Ai4 h0 h1) h4]
 ·have h5:l<=(h.toNat:Int):=by omega
  simp [Instr.sliceBounds,run_sliceBound hm (by omega) h3,run_sliceBound jM (Ai4 h0 h1) h4,run_sliceBound ho h0 h5]
theorem BJ{t:TypeId}(h:P.info? t≠none)(w:World):(sizeOf t).run P w=.ok (P.cellsOf t) w:=by
 obtain⟨i,hi⟩:=Option.ne_none_iff_exists'.1 h;simp [sizeOf,typeInfo,hi,Program.cellsOf]
theorem Jd{el:TypeId}{X:Prop}(h:bif Fj P el then X else False):P.info? el≠none/\X:=by
 unfold Fj at h;cases hi:P.info? el with
 | none=>simp [hi] at h
 | some i=>simp only [hi,Option.isSome_some,cond_true] at h;exact⟨by simp,h⟩
theorem Z8{t:TypeId}{x:Operand}{lo hi mx:Option Operand}{K:Value->Prop}(he:∀ x v,e x=some v->ρ x=v)(h:Sa P e t x lo hi mx K) :
  ∃ v,K v/\∀ w,(Instr.sliceAt t (ρ x) (lo.map ρ) (hi.map ρ) (mx.map ρ)).run P w=.ok v w:=by
 unfold Sa at h;split at h
 ·rename_i s hu hx;obtain⟨hv,h,hh⟩:=Cm he h;obtain⟨lv,h,hl⟩:=Cm he h;obtain⟨⟨h0,h1,h2⟩,h⟩:=h;refine⟨_,h,λ w=>?_⟩;have:=he _ _ hx;simp [Instr.sliceAt,Instr.slice,underlying,hu,this,JF h0 h1 h2 hl hh]
 ·rename_i el a len cap hu hx;obtain⟨az,h⟩:=Jd h;obtain⟨hv,h,hh⟩:=Cm he h;obtain⟨lv,h,hl⟩:=Cm he h;obtain⟨⟨h0,h1,h2⟩,h⟩:=h;refine⟨_,h,λ w=>?_⟩;have:=he _ _ hx;have hs:=BJ az w;simp [Instr.sliceAt,Instr.slice,underlying,hu,this,JF h0 h1 h2 hl hh,hs,BD]
 ·rename_i el a len cap mo hu hx;obtain⟨az,h⟩:=Jd h;split at h
  ·exact h.elim
  ·rename_i ho;obtain⟨mv,h,hm⟩:=Cm he h;obtain⟨hv,h,hh⟩:=Cm he h;obtain⟨lv,h,hl⟩:=Cm he h;obtain⟨⟨h0,h1,h2,h3⟩,h⟩:=h;refine⟨_,h,λ w=>?_⟩;have:=he _ _ hx;have hs:=BJ az w;rcases hm with ⟨hm,_⟩ | ⟨o,km,hm,hmo⟩
   ·cases hm
   rcases hh with ⟨hh,_⟩ | ⟨o2,kd,hh,hho⟩
   ·cases hh
   cases hm;have hb:=X1 (P:=P) (len:=len) h0 h1 h2 h3 hl ⟨o2,kd,hh,hho⟩ hmo w;simp only [Instr.sliceAt,Instr.slice,Sem.run_bind,underlying,hu,run_program,Result.andThen_ok,this,Sem.run_pure,Option.map_some] at hb ⊢;simp [hb,hs,BD]
 ·rename_i n el p hu hx;obtain⟨az,h⟩:=Jd h;obtain⟨a,rfl,h⟩:=L5 h;simp only [AL] at h;obtain⟨hv,h,hh⟩:=Cm he h;obtain⟨lv,h,hl⟩:=Cm he h;obtain⟨⟨h0,h1,h2⟩,h⟩:=h;refine⟨_,h,λ w=>?_⟩;have:=he _ _ hx;have hs:=BJ az w;simp [Instr.sliceAt,Instr.sureAddr,underlying,hu,this,JF h0 h1 h2 hl hh,hs,BD];split <;> rfl
 ·exact h.elim
theorem SO{t:TypeId}{x i:Operand}{K:Value->Prop}(he:∀ x v,e x=some v->ρ x=v)(h:Gd P e t x i K) :
  ∃ v,K v/\∀ w,(Instr.indexAt t (ρ x) (ρ i)).run P w=.ok v w:=by
 unfold Gd at h;split at h
 ·rename_i el p len cap hu hx;obtain⟨az,h⟩:=Jd h;obtain⟨kd,n,hi,h⟩:=LW h;obtain⟨⟨h0,h1⟩,h⟩:=h;obtain⟨a,rfl,h⟩:=L5 h;refine⟨_,h,λ w=>?_⟩;have e1:=he _ _ hx;have e2:=he _ _ hi;have hs:=BJ az w;simp [Instr.indexAt,asIntOf,underlying,hu,e1,e2,h0,h1,hs]
 ·rename_i len el p hu hx;obtain⟨az,h⟩:=Jd h;obtain⟨kd,n,hi,h⟩:=LW h;have h':(0<=n/\n<len)/\AL p λ a=>K (.pointer (some (a.add (n.toNat*P.cellsOf el)))):=by
   cases hc:Bx i with
   | false=>simpa [hc] using h
   | true =>
    by_cases hb:0<=n/\n<len
    ·simp only [hc,cond_true,hb,and_self,decide_true] at h;exact⟨hb,h⟩
    ·simp [hc,hb] at h
  obtain⟨⟨h0,h1⟩,h⟩:=h';obtain⟨a,rfl,h⟩:=L5 h;refine⟨_,h,λ w=>?_⟩;have e1:=he _ _ hx;have e2:=he _ _ hi;have hs:=BJ az w;simp [Instr.indexAt,asIntOf,underlying,hu,e1,e2,h0,h1,hs,Instr.sureAddr]
 ·exact h.elim
theorem TN{t:TypeId}{b:Bool}(h:Ez P t=b)(hs:(P.underlying t).isSome=true)(w:World):(isAgg t).run P w=.ok b w:=by
 unfold Ez at h;unfold isAgg;split at h
 ·rename_i hu;simp [underlying,hu,<- h]
 ·rename_i hu;simp [underlying,hu,<- h]
 ·rename_i h1 h2;cases hu:P.underlying t with
  | none=>simp [hu] at hs
  | some d =>
   rw [hu] at h1 h2;cases d <;> simp_all [underlying]
theorem Aei{t:TypeId}{cs:Array Value}{off:Nat}{K:Value->Prop}(h:Aa6 P t cs.toList off K):P.info? t≠none/\∃ v,K v/\∀ w,(part t cs off).run P w=.ok v w:=by
 unfold Aa6 at h;split at h
 ·exact h.elim
 ·rename_i z hz;have hi:P.info? t≠none:=by
   intro hn;simp [zeroOf,hn] at hz
  refine⟨hi,?_⟩;cases hg:Ez P t with
  | true =>
   simp only [hg,cond_true] at h;obtain⟨vs,_,hv,hk⟩:=NK h;refine⟨_,hk,λ w=>?_⟩;have hs:=BJ hi w;have bV:(P.underlying t).isSome=true:=by
    unfold Ez at hg;split at hg
    ·rename_i hu;simp [hu]
    ·rename_i hu;simp [hu]
    ·cases hg
   have he:cs.extract off (off+P.cellsOf t)=⟨vs⟩:=by
    apply Ai5;rw [<- hv];simp
   simp [part,TN hg bV w,hs,he]
  | false =>
   simp only [hg,cond_false] at h;cases bV:(P.underlying t).isSome with
   | false=>rw [bV] at h;exact h.elim
   | true =>
    rw [bV] at h;simp only [cond_true] at h;obtain⟨v,hv,hk⟩:=JR h;refine⟨v,hk,λ w=>?_⟩;rw [Array.getElem?_toList] at hv;simp [part,TN hg bV w,hv]
theorem Ab4{t:TypeId}{x i:Operand}{K:Value->Prop}(he:∀ x v,e x=some v->ρ x=v)(h:Q7 P e t x i K) :
  ∃ v,K v/\∀ w,(Instr.index t (ρ x) (ρ i)).run P w=.ok v w:=by
 unfold Q7 at h;split at h
 ·rename_i s hu hx;obtain⟨kd,n,hi,h⟩:=LW h;obtain⟨⟨h0,h1⟩,h⟩:=h;refine⟨_,h,λ w=>?_⟩;have e1:=he _ _ hx;have e2:=he _ _ hi;have aB:n.toNat<s.size:=by omega
  have hg:s[n.toNat]?=some (C5 s n.toNat):=by
   have h2:n.toNat<s.data.toList.length:=by simpa using aB
   rw [getElem?_pos s n.toNat aB];simp only [C5,List.getD_eq_getElem?_getD,List.getElem?_eq_getElem h2,Option.getD_some];rfl
  simp [Instr.index,asIntOf,underlying,hu,e1,e2,h0,hg]
 ·rename_i len el cs hu hx;obtain⟨kd,n,hi,h⟩:=LW h;obtain⟨⟨h0,h1⟩,h⟩:=h;obtain⟨az,v,hk,hr⟩:=Aei h;refine⟨v,hk,λ w=>?_⟩;have e1:=he _ _ hx;have e2:=he _ _ hi;have hs:=BJ az w;simp [Instr.index,asIntOf,underlying,hu,e1,e2,h0,h1,hs,hr]
 ·exact h.elim
theorem SK{s:TypeId}{x:Operand}{f:Nat}{K:Value->Prop}(he:∀ x v,e x=some v->ρ x=v)(h:Ga P e s x f K) :
  ∃ v,K v/\∀ w,(Instr.fieldAt s (ρ x) f).run P w=.ok v w:=by
 unfold Ga at h;split at h
 ·rename_i fs hu;split at h
  ·rename_i fl hf;cases hz:Ai3 (P.cellsOf fl.type) 0 with
   | true=>simp [hz] at h
   | false =>
    simp only [hz,cond_false] at h;obtain⟨a,hx,h⟩:=L4 h;have aV:P.cellsOf fl.type≠0:=λ h0=>by rw [h0] at hz;simp at hz
    have e1:=he _ _ hx;refine⟨_,h,λ w=>?_⟩;simp [Instr.fieldAt,underlying,hu,hf,e1,Instr.sureAddr,fieldPlace,X3 aV,aV]
  ·exact h.elim
 ·exact h.elim
theorem Jn{o:Oper}(he:∀ x v,e x=some v->ρ x=v)(h:known e o=true):∀ x∈o.op.operands,KD e x=ρ x:=by
 intro x hx;unfold known at h;have:=List.all_eq_true.1 h x (Array.mem_toList_iff.2 hx);obtain⟨v,hv⟩:=Option.isSome_iff_exists.1 this;simp [KD,hv,he _ _ hv]
theorem WM{o:Oper}{K:Value->Prop}(hs:∀ cs b,o.op≠.select cs b)(he:∀ x v,e x=some v->ρ x=v)(h:Bh P e o K) :
  ∃ v,K v/\∀ w,(execOp ρ o).run P w=.ok (.value v) w:=by
 unfold Bh at h;cases hk:known e o with
 | false=>simp [hk] at h
 | true =>
  simp only [hk,cond_true] at h;split at h
  ·rename_i v hv;refine⟨v,h,λ w=>?_⟩;rw [<- execOp_congr o hs (Jn he hk)];exact Pa _ hv w
  ·exact h.elim
theorem Ut{s:Sem Value}{v:Value}{w w':World}(h:s.run P w=.ok v w'):(do pure (Next.value (<- s)):Sem Next).run P w=.ok (.value v) w':=by
 simp [h]
theorem TC{o:Oper}{K:Value->Prop}(hs:∀ cs b,o.op≠.select cs b)(he:∀ x v,e x=some v->ρ x=v)(h:WL P e o K) :
  ∃ v,K v/\∀ w,(execOp ρ o).run P w=.ok (.value v) w:=by
 unfold WL at h;split at h
 ·rename_i x ho;obtain⟨v,hx,h⟩:=AV h;exact⟨v,h,λ w=>by simp [execOp,ho,he _ _ hx]⟩
 ·rename_i x ho;obtain⟨v,hx,h⟩:=AV h;exact⟨v,h,λ w=>by simp [execOp,ho,he _ _ hx]⟩
 ·rename_i c a b ho;obtain⟨t,hc,h⟩:=Abl h;cases t with
  | true =>
   obtain⟨v,hx,h⟩:=AV h;exact⟨v,h,λ w=>by simp [execOp,ho,he _ _ hx,he _ _ hc,asBool]⟩
  | false =>
   obtain⟨v,hx,h⟩:=AV h;exact⟨v,h,λ w=>by simp [execOp,ho,he _ _ hx,he _ _ hc,asBool]⟩
 ·rename_i x ho;unfold Ahh at h;split at h
  ·rename_i p hx;obtain⟨a,rfl,h⟩:=L5 h;exact⟨_,h,λ w=>by simp [execOp,ho,he _ _ hx]⟩
  ·rename_i f u c hx;exact⟨_,h,λ w=>by simp [execOp,ho,he _ _ hx]⟩
  ·rename_i f u c hx;exact⟨_,h,λ w=>by simp [execOp,ho,he _ _ hx]⟩
  ·exact h.elim
 ·rename_i op t x y yt ho;unfold Wx at h;have key:∃ v,K v/\∀ w,(do eqGuard op t x y (ρ x) (ρ y);binOp op t (ρ x) (ρ y):Sem Value).run P w=.ok v w:=by
   split at h
   ·rename_i hy;obtain⟨u,hx,h⟩:=AV h;rw [he _ _ hx,he _ _ hy];exact WZ x y h
   unfold Tw at h;split at h
   ·rename_i k a k' b hx hy;have h':Ku op k k' a b K:=by
     cases hc:Bx y with
     | false=>simpa [hc] using h
     | true=>exact Vq (by simpa [hc] using h)
    obtain⟨v,hK,hr⟩:=YM (P:=P) t h';exact⟨v,hK,λ w=>by rw [he _ _ hx,he _ _ hy];simp only [Sem.run_bind,AdS,Result.andThen_ok,hr w]⟩
   ·rename_i a b hx hy;obtain⟨v,hK,hr⟩:=YN (P:=P) t h;exact⟨v,hK,λ w=>by rw [he _ _ hx,he _ _ hy];simp only [Sem.run_bind,AdT,Result.andThen_ok,hr w]⟩
   ·rename_i u v _ _ hx hy;rw [he _ _ hx,he _ _ hy];exact WZ x y h
   ·exact h.elim
  obtain⟨v,hK,hr⟩:=key;exact⟨v,hK,λ w=>by have:=Ut (hr w);simpa only [execOp,ho] using this⟩
 ·rename_i s x f ho;obtain⟨v,hK,hr⟩:=SK he h;exact⟨v,hK,λ w=>by have:=Ut (hr w);simpa only [execOp,ho] using this⟩
 ·rename_i t x i ho;obtain⟨v,hK,hr⟩:=SO he h;exact⟨v,hK,λ w=>by have:=Ut (hr w);simpa only [execOp,ho] using this⟩
 ·rename_i t x i ho;obtain⟨v,hK,hr⟩:=Ab4 he h;exact⟨v,hK,λ w=>by have:=Ut (hr w);simpa only [execOp,ho] using this⟩
 ·rename_i t x lo hi mx ho;obtain⟨v,hK,hr⟩:=Z8 he h;exact⟨v,hK,λ w=>by have:=Ut (hr w);simpa only [execOp,ho] using this⟩
 ·exact WM hs he h
/-! ### Loads -/
theorem NM:∀(zs:List Value) (a:Addr) (i:Nat) (k:List Value->Prop) (w:World),BT zs a i k w ->
  ∃ vs,vs.length=zs.length/\k vs/\∀ j v,vs[j]?=some v->w.cell? (a.add (i+j))=some v
 | [],_,_,_,_,h=>⟨[],rfl,h,by simp⟩
 | z :: zs,a,i,k,w,h=>by
  obtain⟨v,hv,h⟩:=Abq h;obtain⟨vs,hl,hk,hc⟩:=NM zs a (i+1) _ w h;refine⟨v :: vs,by simp [hl],hk,λ j u hu=>?_⟩;cases j with
  | zero=>simp at hu;subst hu;exact hv
  | succ j=>simp at hu;have:=hc j u hu;rwa [show i+1+j=i+(j+1) by omega] at this
theorem Zu(x:Addr × Value)(h:Et)(w:World):holds (x :: h) w↔w.cell? x.1=some x.2/\holds h w:=by
 cases h <;> simp [holds]
theorem Ed(a:Addr)(w:World):∀(vs:List Value) (i:Nat),holds (H5 a vs i) w↔∀ j v,vs[j]?=some v->w.cell? (a.add (i+j))=some v
 | [],i=>by simp [H5,holds]
 | v :: vs,i=>by
  rw [H5,Zu,Ed a w vs (i+1)];constructor
  ·rintro⟨h1,h2⟩ j u hu;cases j with
   | zero=>simp at hu;subst hu;exact h1
   | succ j=>simp at hu;have:=h2 j u hu;rwa [show i+1+j=i+(j+1) by omega] at this
  ·intro h;refine⟨h 0 v rfl,λ j u hu=>?_⟩;have:=h (j+1) u (by simpa using hu);rwa [show i+1+j=i+(j+1) by omega]
theorem N6{t:TypeId}{x:Option Value}{k:Value->Et->Prop}{w:World}(h:O4 P t x k w) :
  ∃ a v hh,x=some (.pointer (some a))/\k v hh/\holds hh w/\∀ w',holds hh w'->(Instr.loadAt t (.pointer (some a))).run P w'=.ok v w':=by
 unfold O4 at h;split at h
 ·exact h.elim
 ·rename_i z hz;have hi:P.info? t≠none:=by
   intro hn;simp [zeroOf,hn] at hz
  cases hg:Ez P t with
  | true =>
   simp only [hg,cond_true] at h;cases hb:Ai3 (P.cellsOf t) z.cells.toList.length with
   | false=>rw [hb] at h;exact h.elim
   | true =>
    rw [hb] at h;simp only [cond_true] at h;obtain⟨a,rfl,h⟩:=L4 h;obtain⟨vs,hl,hk,hc⟩:=NM _ _ _ _ _ h;refine⟨a,_,_,rfl,hk,(Ed a w vs 0).2 hc,λ w' hh=>?_⟩;have dF:=(Ed a w' vs 0).1 hh;simp only [Nat.zero_add] at dF;have aO:(isAgg t).run P w'=.ok true w':=by
     unfold Ez at hg;unfold isAgg;split at hg
     ·rename_i hu;simp [underlying,hu]
     ·rename_i hu;simp [underlying,hu]
     ·cases hg
    have aU:=BJ hi w';have hn:P.cellsOf t=vs.length:=by rw [hl];exact Ai7 hb
    have bC:=run_loadCells_list (P:=P) w' a vs dF;simp [Instr.loadAt,Instr.sureAddr,loadVar,aO,aU,hn,bC]
  | false =>
   simp only [hg,cond_false] at h;cases bV:(P.underlying t).isSome with
   | false=>rw [bV] at h;exact h.elim
   | true =>
   rw [bV] at h;simp only [cond_true] at h;obtain⟨a,rfl,h⟩:=L4 h;obtain⟨vs,hl,hk,hc⟩:=NM _ _ _ _ _ h;obtain⟨v,rfl⟩:∃ v,vs=[v]:=by
    cases vs with
    | nil=>simp at hl
    | cons v r=>cases r with
     | nil=>exact⟨v,rfl⟩
     | cons=>simp at hl
   refine⟨a,_,_,rfl,hk,(Ed a w [v] 0).2 hc,λ w' hh=>?_⟩;have dF:=(Ed a w' [v] 0).1 hh 0 v rfl;simp only [Nat.zero_add] at dF;have h0:a.add 0=a:=by simp [Addr.add]
   rw [h0] at dF;have aO:(isAgg t).run P w'=.ok false w':=by
    unfold Ez at hg;unfold isAgg;cases hu:P.underlying t with
    | none =>
     simp [hu] at bV
    | some d=>cases d <;> simp_all [underlying]
   simp [Instr.loadAt,Instr.sureAddr,loadVar,aO,dF]
/-! ### Stores, and what else acts -/
theorem QA(a:Addr):∀(vs:List Value) (i:Nat) (k:World->Prop) (w:World),BO vs a i k w->∃ w',k w'/\(storeCells a vs i).run P w=.ok () w'
 | [],i,k,w,h=>⟨w,h,by simp [storeCells]⟩
 | v :: vs,i,k,w,h=>by
  unfold BO at h;cases hv:v.oneCell' with
  | false=>simp [hv] at h
  | true =>
   simp only [hv,cond_true] at h;obtain⟨h1,h2,h⟩:=h;obtain⟨u,hu⟩:=Option.isSome_iff_exists.1 h1;obtain⟨w',hk,hr⟩:=QA a vs (i+1) k _ h;refine⟨w',hk,?_⟩;simp [storeCells,run_store P w (a.add i) v .plain hv,hu,h2,hr]
def Bm(P:Program)(kp:Wl)(s:Sem Next)(k:Value->World->Prop)(w:World):Prop :=
 match s.run P w with
 | .ok (.value v) w'=>k v w'
 | .ok .skip w'=>k undef w'
 | .ok (.enter f args) w'=>Calls P f args w' λ e aR=>(∃ v,e=.returned v/\k v aR)\/∃ ch,e=.panicked ch/\ZN kp ch aR
 | .ok (.round l f tmps assign body) w'=>RoundIn Fence.wide 0 P l f tmps assign body w' λ e aR=>∃ v,e=.returned v/\k v aR
 | .halt (.panic v) w'=>ZN kp [{ v,recovered:=false }] w'
 | _=>False
theorem Bm.ML{s:Sem Next}{k:Value->World->Prop}{w w':World}{v:Value}(h:s.run P w=.ok (.value v) w')(hk:k v w'):Bm P kp s k w:=by
 simp [Bm,h,hk]
theorem Bm.ZH{s:Sem Value}{k:Value->World->Prop}{w w':World}{v:Value}(h:s.run P w=.ok v w')(hk:k v w'):Bm P kp (do pure (.value (<- s))) k w :=
 Bm.ML (Ut h) hk
theorem Bm.Aic{s:Sem Unit}{k:Value->World->Prop}{w w':World}(h:s.run P w=.ok () w')(hk:k undef w'):Bm P kp (do s;pure .skip) k w:=by
 simp [Bm,h,hk]
theorem BI{s:Sem Value}{z:Value}{k:Value->World->Prop}{w:World}(h:V3 P s z k w):Bm P kp (do pure (.value (<- s))) k w:=by
 unfold V3 at h;split at h
 ·rename_i v w' hr;obtain⟨u,rfl,hk⟩:=NL h;exact Bm.ZH hr hk
 ·exact h.elim
theorem Ac3{s:Sem Value}{k:Value->World->Prop}{w:World}(h:OPN P s (λ w'=>k (.tuple #[.bool false]) w') (λ x y w'=>k (.tuple #[.bool true,x,y]) w') w):Bm P kp (do pure (.value (<- s))) k w:=by
 unfold OPN at h;split at h
 ·rename_i v w' hr;rcases h with ⟨rfl,hk⟩ | ⟨x,y,rfl,hk⟩
  ·exact Bm.ZH hr hk
  ·exact Bm.ZH hr hk
 ·exact h.elim
theorem Wj{s:Sem Unit}{k:Value->World->Prop}{w:World}(h:OPU P s (λ w'=>k undef w') w):Bm P kp (do s;pure .skip) k w:=by
 unfold OPU at h;split at h
 ·rename_i v w' hr;exact Bm.Aic hr h
 ·exact h.elim
theorem TH:∀ {xs:List Operand} {vs:List Value},(∀ x v,e x=some v->ρ x=v)->Hj e xs=some vs->xs.map ρ=vs
 | [],vs,_,h=>by simp [Hj] at h;subst h;rfl
 | x :: xs,vs,he,h=>by
  unfold Hj at h;split at h
  ·rename_i v us hx cz;simp at h;subst h;simp [he _ _ hx,TH he cz]
  ·cases h
theorem KW{f:FuncId}(h:enters P f=true)(args:Array Value)(w:World):(callFunc f args).run P w=.ok (.enter f args) w:=by
 unfold enters at h;split at h
 ·rename_i fn hf;simp only [Ai6,Bool.not_eq_true'] at h;have hb:fn.body≠none:=by intro hh;simp [hh] at h
  have hn : fn.name ≠ "runtime.NumGoroutine" := by simpa using h.2
  simp [callFunc,hf,hn,hb]
 ·cases h
theorem AcW{x:Option Value}{k:FuncId->Array Value->Array Value->Prop}(h:AgD x k):∃ g fi ca,x=some (.func (.func g) fi ca)/\k g fi ca:=by
 unfold AgD at h;split at h
 ·exact⟨_,_,_,rfl,h⟩
 ·exact h.elim
theorem AcV{x:Option Value}{k:FuncId->Array Value->Array Value->Prop}{y:Nat->Prop}(h:Abo x k y):(∃ g fi ca,x=some (.func (.func g) fi ca)/\k g fi ca)\/(∃ l,x=some (.func (.yield l) #[] #[])/\y l):=by
 unfold Abo at h;split at h
 ·exact .inl ⟨_,_,_,rfl,h⟩
 ·rename_i l fi ca;cases h1:fi.toList.isEmpty && ca.toList.isEmpty with
  | false=>rw [h1] at h;exact h.elim
  | true =>
   rw [h1] at h;simp only [Ai6,List.isEmpty_iff] at h1;have e1:fi=#[]:=by cases fi;simp_all
   have e2:ca=#[]:=by cases ca;simp_all
   subst e1 e2;exact .inr ⟨l,rfl,h⟩
 ·exact h.elim
theorem QP{o:Oper}{k:Value->World->Prop}{w:World}(he:∀ x v,e x=some v->ρ x=v)(h:Ko P kp e o k w):Bm P kp (execOp ρ o) k w:=by
 obtain⟨dst,op,type,pos,after,guard⟩:=o;unfold Ko at h;split at h
 ·rename_i t ho;cases ho;split at h
  ·rename_i z hz;have hr:(Instr.alloc t true (.tuple #[])).run P w=.ok (.pointer (some ⟨w.heap.size,0,none⟩)) (w.alloc (.cells z.cells t)):=by
    unfold zeroOf at hz;split at hz
    ·rename_i i hi;simp [Instr.alloc,zeroValue,typeInfo,hi,hz,newVar,newRow]
    ·cases hz
   exact Bm.ZH hr h
  ·exact h.elim
 ·rename_i t x ho;cases ho;obtain⟨v,hx,h⟩:=AV h;have hr:(Instr.box t (ρ x)).run P w=.ok (.pointer (some ⟨w.heap.size,0,none⟩)) (w.alloc (.cells v.cells t)):=by
   simp [Instr.box,newVar,newRow,he _ _ hx]
  exact Bm.ZH hr h
 ·rename_i t len parts ho;cases ho;cases hk:known e ⟨dst,.buildSlice t len parts,type,pos,after,guard⟩ with
  | false=>rw [hk] at h;exact h.elim
  | true =>
   rw [hk] at h;simp only [cond_true] at h;split at h
   ·rename_i el c hc;unfold Cx at hc;split at hc
    ·rename_i lu hu;split at hc
     ·rename_i i hi;split at hc
      ·rename_i z hz;cases k9:Ai3 len 0 && parts.toList.isEmpty with
       | true =>
        rw [k9] at hc;simp only [cond_true,Option.some.injEq,Prod.mk.injEq] at hc;obtain⟨rfl,rfl⟩:=hc;simp only [Ai6,List.isEmpty_iff] at k9;have o9:len=0:=Ai7 k9.1;subst o9;have sM:parts=#[]:=by simpa using k9.2
        subst sM;have hr:(Instr.buildSlice t 0 ((#[]:Array (Nat × Operand)).map λ (j,x)=>(j,ρ x))).run P w=.ok (.slice (some ⟨w.heap.size,0,none⟩) 0 0) (w.alloc (.cells #[] lu)):=by
         simp only [Instr.buildSlice,Sem.run_bind,IB hu,Result.andThen_ok,sizeOf,typeInfo,run_program,hi,Sem.run_pure];simp [Instr.fill,newRow];congr 2;exact Array.eq_empty_of_size_eq_zero (by simp)
        exact Bm.ZH hr h
       | false =>
       rw [k9] at hc;simp only [cond_false] at hc;cases hb:(Nat.blt (2 ^ 24) (len*i.size)) || (Ai3 (len*i.size) 0) with
       | true=>simp only [hb,cond_true] at hc;cases hc
       | false =>
        simp only [hb,cond_false] at hc;obtain⟨c',dF,heq⟩:=Option.map_eq_some_iff.1 hc;simp only [Prod.mk.injEq] at heq;obtain⟨rfl,rfl⟩:=heq;simp only [Bool.or_eq_false_iff] at hb;have iM:¬ len*i.size > 2 ^ 24:=by
         intro k3;have:Nat.blt (2 ^ 24) (len*i.size)=true:=by
          rw [Nat.blt,Nat.ble_eq];exact k3
         rw [this] at hb;exact absurd hb.1 (by simp)
        have gd:¬ len*i.size=0:=by
         intro h0;rw [h0] at hb;exact absurd hb.2 (by decide)
        have aO:=Jn he hk;have ik:(parts.map λ (j,x)=>(j,ρ x)).toList=parts.toList.map λ p=>(p.1,KD e p.2):=by
         rw [Array.toList_map];refine List.map_congr_left λ p hp=>?_;obtain⟨j,x⟩:=p;have:=aO x (by simp only [Op.operands];exact List.mem_toArray.2 (List.mem_map.2 ⟨(j,x),hp,rfl⟩));simp [this]
        have hr:(Instr.buildSlice t len (parts.map λ (j,x)=>(j,ρ x))).run P w=.ok (.slice (some ⟨w.heap.size,0,none⟩) len len) (w.alloc (.cells c' lu)):=by
         simp only [Instr.buildSlice,Sem.run_bind,IB hu,Result.andThen_ok,sizeOf,typeInfo,run_program,hi,Sem.run_pure,iM,if_false,gd,zeroValue,hz,ik,dF,newRow,run_newObj];rfl
        exact Bm.ZH hr h
      ·cases hc
     ·cases hc
    ·cases hc
   ·exact h.elim
 ·rename_i t a x ho;cases ho;obtain⟨v,hx,h⟩:=AV h;obtain⟨p,ha,h⟩:=L4 h;cases hb:Ai3 v.cells.size (P.cellsOf t) && Fj P t with
  | false=>rw [hb] at h;exact h.elim
  | true =>
   rw [hb] at h;simp only [cond_true] at h;obtain⟨w',hk,hr⟩:=QA (P:=P) p _ _ _ _ h;simp only [Ai6] at hb;have aU:v.cells.size=P.cellsOf t:=Ai7 hb.1;have hi:P.info? t≠none:=by
    intro hn;have:=hb.2;simp [Fj,hn] at this
   have aA:(Instr.storeAt t (ρ a) (ρ x)).run P w=.ok () w':=by
    simp [Instr.storeAt,Instr.sureAddr,storeVar,he _ _ hx,he _ _ ha,BJ hi,aU,hr]
   exact Bm.Aic aA hk
 ·rename_i c ho;cases ho;split at h
  ·rename_i b bR;cases hk:known e ⟨dst,.call c,type,pos,after,guard⟩ with
   | false=>rw [hk] at h;exact h.elim
   | true =>
    rw [hk] at h;simp only [cond_true] at h;split at h
    ·rename_i z hz;have aO:=Jn he hk;have cf:c.args.map (KD e)=c.args.map ρ:=Array.map_congr_left λ x hx=>aO x (by simp [Op.operands,Call.operands,hx]);rw [cf] at h;split at h
     ·have:=BI (kp:=kp) h;simpa [Bm,execOp,resolve,bR,invoke,builtin] using this
     ·have:=BI (kp:=kp) h;simpa [Bm,execOp,resolve,bR,invoke,builtin] using this
     ·have:=BI (kp:=kp) h;simpa [Bm,execOp,resolve,bR,invoke,builtin] using this
     ·have:=BI (kp:=kp) h;simpa [Bm,execOp,resolve,bR,invoke,builtin] using this
     ·have:=BI (kp:=kp) h;simpa [Bm,execOp,resolve,bR,invoke,builtin] using this
     ·exact h.elim
    ·exact h.elim
  ·rename_i f bR;split at h
   ·rename_i vs z iq hz;have cf:c.args.map ρ=⟨vs⟩:=by
     rw [<- TH he iq];exact Ai5 (by simp)
    rcases AcV h with ⟨g,first,captured,hf,h⟩ | ⟨l,hf,h⟩
    ·cases aY:enters P g with
     | false =>
      rw [aY] at h;simp only [cond_false] at h;have hr:(execOp ρ ⟨dst,.call c,type,pos,after,guard⟩).run P w=(callFunc g ⟨first.toList++vs++captured.toList⟩).run P w:=by
       have ha:first++(⟨vs⟩:Array Value)++captured=⟨first.toList++vs++captured.toList⟩:=Ai5 (by simp);simp only [execOp,resolve,bR,cf,Sem.run_bind,Deferred.ofValue,he _ _ hf,Sem.run_pure,Result.andThen_ok,invoke,ha]
      unfold Bm;rw [hr];unfold AgE at h;split at h
      ·exact h.elim
      split at h
      ·rename_i v w' aF;rw [aF];obtain⟨u,hv,hk⟩:=NJ h;rw [hv];exact hk
      ·exact h.elim
     | true =>
      rw [aY] at h;simp only [cond_true] at h;have hr:(execOp ρ ⟨dst,.call c,type,pos,after,guard⟩).run P w=.ok (.enter g ⟨first.toList++vs++captured.toList⟩) w:=by
       have ha:first++(⟨vs⟩:Array Value)++captured=⟨first.toList++vs++captured.toList⟩:=Ai5 (by simp);simp only [execOp,resolve,bR,cf,Sem.run_bind,Deferred.ofValue,he _ _ hf,Sem.run_pure,Result.andThen_ok,invoke,KW aY,ha]
      unfold Bm;rw [hr];cases kp with
      | none =>
       refine Calls.mono h ?_;intro en w' hh;obtain⟨v,hv,hk⟩:=NJ hh;exact .inl ⟨v,hv,hk⟩
      | some p =>
       refine Calls.mono h ?_;intro en w' hh;rcases hh with hh | hh
       ·obtain⟨v,hv,hk⟩:=NJ hh;exact .inl ⟨v,hv,hk⟩
       ·exact .inr hh
    ·obtain⟨fn,tmps,as,bo,hy,hround⟩:=h;have hr:(execOp ρ ⟨dst,.call c,type,pos,after,guard⟩).run P w=.ok (.round l fn tmps as bo) w:=by
      simp only [execOp,resolve,bR,cf,Sem.run_bind,Deferred.ofValue,he _ _ hf,Sem.run_pure,Result.andThen_ok,invoke];simpa using hy
     unfold Bm;rw [hr];exact RoundIn.mono hround λ en w' ⟨t,hv,hk⟩=>⟨_,hv,hk⟩
   ·exact h.elim
  ·exact h.elim
 ·rename_i s d x ho;cases ho;obtain⟨v,hx,h⟩:=AV h;split at h
  ·have:=BI (kp:=kp) h;simpa only [execOp,he _ _ hx] using this
  ·exact h.elim
 ·rename_i t l c ho;cases ho;obtain⟨u,hl,h⟩:=AV h;obtain⟨v,hc,h⟩:=AV h;split at h
  ·have:=BI (kp:=kp) h;simpa only [execOp,he _ _ hl,he _ _ hc] using this
  ·exact h.elim
 ·rename_i t ho;cases ho;split at h
  ·have:=BI (kp:=kp) h;simpa only [execOp,Option.map_none] using this
  ·exact h.elim
 ·rename_i t x i ok ho;cases ho;obtain⟨u,hl,h⟩:=AV h;obtain⟨v,hc,h⟩:=AV h;split at h
  ·have:=BI (kp:=kp) h;simpa only [execOp,he _ _ hl,he _ _ hc] using this
  ·exact h.elim
 ·rename_i t m i x ho;cases ho;obtain⟨u,hl,h⟩:=AV h;obtain⟨v,hc,h⟩:=AV h;obtain⟨y,hy,h⟩:=AV h;have:=Wj (kp:=kp) h;simpa only [execOp,he _ _ hl,he _ _ hc,he _ _ hy] using this
 ·rename_i t x ho;cases ho;obtain⟨u,hl,h⟩:=AV h;have:=BI (kp:=kp) h;simpa only [execOp,he _ _ hl] using this
 ·rename_i i s ho;cases ho;obtain⟨u,hl,h⟩:=AV h;have:=Ac3 (kp:=kp) h;simpa only [execOp,he _ _ hl] using this
 ·rename_i i ho;cases ho;obtain⟨u,hl,h⟩:=AV h;split at h
  ·have:=BI (kp:=kp) h;simpa only [execOp,he _ _ hl] using this
  ·exact h.elim
 ·rename_i t m i ho;cases ho;obtain⟨u,hl,h⟩:=AV h;obtain⟨v,hc,h⟩:=AV h;have:=BI (kp:=kp) h;simpa only [execOp,he _ _ hl,he _ _ hc] using this
 ·rename_i t m i x ho;cases ho;obtain⟨u,hl,h⟩:=AV h;obtain⟨v,hc,h⟩:=AV h;obtain⟨y,hy,h⟩:=AV h;have:=Wj (kp:=kp) h;simpa only [execOp,he _ _ hl,he _ _ hc,he _ _ hy] using this
 ·rename_i op t x y ty ho;cases ho;obtain⟨u,hl,h⟩:=AV h;obtain⟨v,hc,h⟩:=AV h;split at h
  ·rename_i p q _;have:=BI (kp:=kp) h;have hg:(eqGuard op t x y (.pointer p) (.pointer q) >>= λ _=>binOp op t (.pointer p) (.pointer q))=binOp op t (.pointer p) (.pointer q):=by
    cases op <;> simp [eqGuard]
   simpa only [execOp,he _ _ hl,he _ _ hc,hg] using this
  ·exact h.elim
 ·rename_i x ho;cases ho;unfold AhK at h;split at h
  ·exact h.elim
  ·rename_i p;split at h
   ·rename_i t v hv;have hr:(execOp ρ ⟨dst,.panic x,type,pos,after,guard⟩).run P w=.halt (.panic (.iface t v)) w:=by
     simp [execOp,he _ _ hv,Instr.panic,goPanic]
    unfold Bm;rw [hr];exact h
   ·exact h.elim
 ·exact h.elim
end
end Go.Dn
namespace Go.Dn
open _root_.Array renaming getElem?_setIfInBounds_ne -> Ai9
open _root_.Nat renaming blt -> Ai8
set_option linter.unusedVariables false
set_option maxRecDepth 100000
/-! ## Frames -/
def AF(fr:Fr)(a:Act):Prop:=∀ i v,look fr i=some v->a.tmps[i]?=some v
theorem Hs(j:Nat)(v:Value)(fr:Fr)(i:Nat):look ((j,v) :: fr) i=if j=i then some v else look fr i:=by
 show (bif Nat.beq j i then some v else look fr i)=_;by_cases h:j=i
 ·subst h;simp
 ·have:Nat.beq j i=false:=by
   cases hb:Nat.beq j i with
   | false=>rfl
   | true=>exact absurd (Nat.eq_of_beq_eq_true hb) h
  rw [this];simp [h]
theorem AF.eval{fr:Fr}{a:Act}(h:AF fr a):∀ x v,D8 fr x=some v->a.eval x=v
 | .tmp t,v,hx=>by have:=h t v hx;simp [Act.eval,this]
 | .const u,v,hx=>by simpa [D8,Act.eval] using hx
 | .global g,v,hx=>by simpa [D8,Act.eval] using hx
 | .func f,v,hx=>by simpa [D8,Act.eval] using hx
theorem AF.put{fr:Fr}{a:Act}{n:Nat}(h:AF fr a)(hn:a.tmps.size=n)(d:Option Nat)(v:Value):AF (put n fr d v) (a.put d v):=by
 cases d with
 | none=>exact h
 | some d =>
  intro i u hu;unfold Dn.put at hu;simp only [Act.put];cases hb:Ai8 d n with
  | true =>
   have hd:d<n:=by rw [Ai8,Nat.ble_eq] at hb;exact hb
   simp only [hb,cond_true,Hs] at hu;by_cases hi:d=i
   ·subst hi;simp only [if_true] at hu;cases hu;simp [hn,hd]
   ·simp only [hi,if_false] at hu;rw [Ai9 hi];exact h i u hu
  | false =>
   simp only [hb,cond_false] at hu;have hd:¬ d<n:=by
    intro hd;have:Ai8 d n=true:=by rw [Ai8,Nat.ble_eq];exact hd
    rw [this] at hb;cases hb
   have h1:=h i u hu;have hi:i<a.tmps.size:=(Array.getElem?_eq_some_iff.1 h1).1;rw [Ai9 (by omega)];exact h1
theorem AF.again{fr:Fr}{a:Act}{i:Nat}{v:Value}(h:AF fr a)(hl:look fr i=some v):AF ((i,v) :: fr) a:=by
 intro j u hu;rw [Hs] at hu;by_cases cV:i=j
 ·subst cV;simp at hu;subst hu;exact h _ _ hl
 ·simp only [cV,if_false] at hu;exact h _ _ hu
structure St(n:Nat)(a0:Act)(W:Nat->Bool)(nr:Bool)(a:Act):Prop where
 size:a.tmps.size=n
 defers:nr=true->a.defers=a0.defers
 same:∀ i,W i=false->a.tmps[i]?=a0.tmps[i]?
theorem St.put{n:Nat}{a0 a:Act}{W:Nat->Bool}{nr:Bool}(h:St n a0 W nr a)(d:Option Nat)(v:Value)(hd:∀ i,d=some i->W i=true):St n a0 W nr (a.put d v):=by
 cases d with
 | none=>exact h
 | some d =>
  refine⟨by simp [Act.put,h.size],h.defers,λ i hi=>?_⟩;have aV:d≠i:=by
   intro he;subst he;rw [hd d rfl] at hi;cases hi
  simp only [Act.put];rw [Ai9 aV];exact h.same i hi
/-! ## One operation -/
section
variable {P:Program}{kp:Wl}{n:Nat}{ops:Array Oper}{a0:Act}
theorem H4{o:Oper}{fr:Fr}{A B:Fr->Prop}{a:Act}(hg:AF fr a)(h:H0 ops o fr A B) :
  (Region.wanted o (yielded ops a.tmps)=true/\∃ aG,AF aG a/\A aG)\/(Region.wanted o (yielded ops a.tmps)=false/\∃ aG,AF aG a/\B aG):=by
 unfold H0 at h;split at h
 ·rename_i ho;exact .inl ⟨by simp [Region.wanted,ho],fr,hg,h⟩
 ·rename_i j want ho;split at h
  ·exact h.elim
  ·rename_i d hd;split at h
   ·rename_i b hb;have hy:yielded ops a.tmps j=some b:=by simp [yielded,hd,hg d _ hb]
    cases b with
    | true =>
     have aO:=hg.again hb;cases want with
     | true=>exact .inl ⟨by simp [Region.wanted,ho,hy],_,aO,h⟩
     | false=>exact .inr ⟨by simp [Region.wanted,ho,hy],_,aO,h⟩
    | false =>
     have aO:=hg.again hb;cases want with
     | true=>exact .inr ⟨by simp [Region.wanted,ho,hy],_,aO,h⟩
     | false=>exact .inl ⟨by simp [Region.wanted,ho,hy],_,aO,h⟩
   ·rename_i vs hb;have hy:yielded ops a.tmps j=none:=by simp [yielded,hd,hg d _ hb]
    exact .inr ⟨by simp [Region.wanted,ho,hy],fr,hg,h⟩
   ·exact h.elim
theorem Jx{o:Oper}(h:BV P o=true):∀ cs b,o.op≠.select cs b:=by
 intro cs b ho;simp [BV,ho] at h
theorem Bm.mono{s:Sem Next}{k k':Value->World->Prop}{w:World}(h:Bm P kp s k w)(hk:∀ v w',k v w'->k' v w'):Bm P kp s k' w:=by
 unfold Bm at *;split at h
 ·exact hk _ _ h
 ·exact hk _ _ h
 ·exact Calls.mono h λ e aR hh=>hh.imp (fun⟨v,he,hh⟩=>⟨v,he,hk _ _ hh⟩) id
 ·exact RoundIn.mono h λ e aR ⟨v,he,hh⟩=>⟨v,he,hk _ _ hh⟩
 ·exact h
 ·exact h.elim
theorem Ads{fr:Fr}{a:Act}{o:Oper}{k:Value->Et->World->Prop}{w:World}(hg:AF fr a)(h:dOp P kp (D8 fr) o k w) :
  Bm P kp (execOp a.eval o) (λ v w'=>∃ hh,k v hh w') w:=by
 unfold dOp at h;split at h
 ·rename_i hc;have hp:BV P o=true:=by
   unfold cls at hc;cases hh:BV P o with
   | true=>rfl
   | false=>simp only [hh,cond_false] at hc;split at hc <;> cases hc
  obtain⟨v,hk,hr⟩:=TC (Jx hp) hg.eval h;exact Bm.ML (hr w) ⟨_,hk⟩
 ·split at h
  ·rename_i t x ho;obtain⟨ad,v,hh,hx,hk,hholds,hr⟩:=N6 h;have bE:=hr w hholds;have he:=hg.eval _ _ hx;have hv:(execOp a.eval o).run P w=.ok (.value v) w:=by
    simp only [execOp,ho,he,Sem.run_bind,bE,Result.andThen_ok,Sem.run_pure]
   exact Bm.ML hv ⟨_,hk⟩
  ·exact h.elim
 ·exact (QP hg.eval h).mono λ v w' hk=>⟨_,hk⟩
theorem AbE{fr:Fr}{a:Act}{o:Oper}{rest:List Oper}{k:Value->Et->World->Prop}{w:World}(hg:AF fr a)(h:AbD P kp (D8 fr) o rest k w) :
  Bm P kp (execOp a.eval o) (λ v w'=>∃ hh,k v hh w') w:=by
 unfold AbD at h;split at h
 ·rename_i i ho;obtain⟨u,hl,h⟩:=AV h;have he:=hg.eval _ _ hl;have:=BI (kp:=kp) h;have h2:Bm P kp (execOp a.eval o) (λ v w'=>k v [] w') w:=by
   obtain⟨dst,op,type,pos,after,guard⟩:=o;cases ho;simpa only [execOp,he] using this
  exact h2.mono λ v w' hk=>⟨_,hk⟩
 ·exact Ads hg h
def AeY(P:Program)(kp:Wl)(o:Oper)(a:Act)(w:World)(K:Act->World->Prop):Prop:=Bm P kp (execOp a.eval o) (λ v w'=>K (a.put o.dst v) w') w
def GU(P:Program)(kp:Wl)(ops:Array Oper)(i:Nat)(K:Act->World->Prop)(a:Act)(w:World):Prop :=
 match ops[i]? with
 | none=>K a w
 | some o=>if Region.wanted o (yielded ops a.tmps) then AeY P kp o a w K else K (a.put o.dst undef) w
def Su(P:Program)(kp:Wl)(ops:Array Oper)(Q:Act->World->Prop):List Nat->Act->World->Prop
 | [],a,w=>Q a w
 | i :: rest,a,w=>GU P kp ops i (Su P kp ops Q rest) a w
theorem Sr{i:Nat}{a:Act}{w:World}{K K':Act->World->Prop}(h:∀ a w,K a w->K' a w)(hh:GU P kp ops i K a w):GU P kp ops i K' a w:=by
 unfold GU at *;split
 ·exact h _ _ (by simpa [*] using hh)
 ·rename_i o ho;simp only [ho] at hh;split
  ·rename_i hw;simp only [hw,if_true] at hh;exact Bm.mono hh λ v w'=>h _ _
  ·rename_i hw;simp only [hw] at hh;exact h _ _ hh
def FF(r:Option Nat):Fence:={ fn:=λ _=>True,depth:=none,alive:=false,round:=r }
theorem Uy(r:Option Nat)(m:Nat):(FF r).room m:=λ d hd=>by cases hd
theorem Y4{c:Call}{l:Nat}{dst:Option Tmp}{type:TypeId}{pos:_}{after:_}{guard:_}{ρ:Operand->Value}{k:Value->World->Prop}{w:World}(h:Bm P kp (execOp ρ ⟨dst,.defer c,type,pos,after,guard⟩) k w) :
  (do Instr.deferInRound l (<- resolve ρ c type);pure .skip:Sem Next).run P w=(execOp ρ ⟨dst,.defer c,type,pos,after,guard⟩).run P w:=by
 unfold Bm at h;simp only [execOp,Sem.run_bind] at h ⊢;generalize (resolve ρ c type).run P w=r at h ⊢;cases r with
 | ok d w'=>simp [Result.andThen] at h
 | halt x w'=>rfl
theorem NC{o:Oper}{a:Act}{w:World}{K:Act->World->Prop}{Q:Exit->Act->World->Prop}(r:Option Nat)(m:Nat)(h:AeY P kp o a w K)(hP:∀ ch w,ZN kp ch w->Q (.panic ch) a w):o.wpIn (FF r) m P a w K Q:=by
 refine⟨λ _ _=>trivial,?_⟩;have hs:(o.semAt (FF r).round a.eval).run P w=(execOp a.eval o).run P w:=by
  unfold Oper.semAt;split
  ·rename_i l c hr ho;obtain⟨dst,op,type,pos,after,guard⟩:=o;simp only at ho;subst ho;exact Y4 h
  ·rfl
 rw [hs];unfold AeY Bm at h;split at h
 ·rename_i v w' hr;rw [hr];exact h
 ·rename_i w' hr;rw [hr];exact h
 ·rename_i f args w' hr;rw [hr];refine⟨λ hd=>(by cases hd),?_⟩;refine CallsIn.mono (F:=FF r) (R:=λ e aR=>(∃ v,e=.returned v/\K (a.put o.dst v) aR)\/∃ ch,e=.panicked ch/\ZN kp ch aR) (callsIn_wide.2 h) λ e aR hh=>?_;rcases hh with ⟨v,he,hk⟩ | ⟨ch,he,hk⟩
  ·subst he;exact hk
  ·subst he;exact hP _ _ hk
 ·rename_i l f tmps assign body w' hr;rw [hr];refine⟨λ hd=>(by cases hd),?_⟩;have h2:RoundIn (FF r) (m-1) P l f tmps assign body w' λ e aR=>∃ v,e=.returned v/\K (a.put o.dst v) aR:=⟨trivial,λ c cs _=>h.2 c cs (Uy none _)⟩;exact RoundIn.mono h2 λ e aR ⟨v,he,hk⟩=>by subst he;exact hk
 ·rename_i v w' hr;rw [hr];exact hP _ _ h
 ·exact h.elim
theorem FN{o:Oper}{i:Nat}:∀ {l:List Oper},o∈l->o.dst=some i->Bb i l=true
 | x :: l,hm,hd=>by
  unfold Bb;rcases List.mem_cons.1 hm with rfl | hm
  ·simp [hd]
  ·simp [FN hm hd]
theorem St.Aa8{a:Act}(h:St n a0 (λ i=>Bb i ops.toList) true a){i:Nat}{o:Oper}(ho:ops[i]?=some o)(v:Value):St n a0 (λ i=>Bb i ops.toList) true (a.put o.dst v) :=
 h.put o.dst v λ _ hi=>FN (Array.mem_toList_iff.2 (Array.mem_of_getElem? ho)) hi
theorem FY{Q:Act->World->Prop}{Q':Exit->Act->World->Prop}(r:Option Nat)(m:Nat)(hQ:∀ a w,Q a w->Q' .normal a w)(hP:∀ a ch w,St n a0 (λ i=>Bb i ops.toList) true a->ZN kp ch w->Q' (.panic ch) a w):∀(l:List Nat) (a:Act) (w:World),St n a0 (λ i=>Bb i ops.toList) true a->Su P kp ops Q l a w->wpOpsIn (FF r) m P ops Q' l a w
 | [],a,w,_,h=>hQ a w h
 | i :: rest,a,w,aA,h=>by
  unfold Su GU at h;rw [wpOpsIn_cons];unfold wpOpIn;split at h
  ·rename_i ho;simp only [ho];exact FY r m hQ hP rest a w aA h
  ·rename_i o ho;simp only [ho];split at h
   ·rename_i hw;rw [if_pos hw];exact NC r m (Bm.mono h λ v w' hk=>FY r m hQ hP rest _ w' (aA.Aa8 ho v) hk) λ ch w' hk=>hP _ _ _ aA hk
   ·rename_i hw;rw [if_neg hw];exact⟨λ _ _=>trivial,FY r m hQ hP rest _ w (aA.Aa8 ho _) h⟩
/-! ## Operations in the order of the text -/
def marks(ms:List Nat):List Deferred:=ms.map λ d=>{ target:=.collected d,args:=#[] }
def Ac1(n:Nat)(a0:Act)(W:Nat->Bool)(nr:Bool)(K:Exit->Fr->List Nat->World->Prop)(e:Exit)(a:Act)(w:World):Prop :=
 St n a0 W nr a/\∃ fr ms,AF fr a/\a.defers=marks ms/\K e fr ms w
def Ac2(n:Nat)(a0:Act)(W:Nat->Bool)(K:Fr->World->Prop)(a:Act)(w:World):Prop:=St n a0 W true a/\∃ fr,AF fr a/\K fr w
theorem KV{K:Fr->World->Prop}:∀(l:List Oper) (j:Nat),ops.toList.drop j=l->∀(fr:Fr) (w:World) (a:Act),AF fr a->St n a0 (λ i=>Bb i ops.toList) true a ->
  Y3 P kp n ops l fr K w->Su P kp ops (Ac2 n a0 (λ i=>Bb i ops.toList) K) (List.range' j l.length) a w
 | [],_,_,fr,w,a,hg,aA,h=>⟨aA,fr,hg,h⟩
 | o :: l,j,hl,fr,w,a,hg,aA,h=>by
  have aB:j<ops.toList.length:=by
   rcases Nat.lt_or_ge j ops.toList.length with h' | h'
   ·exact h'
   ·rw [List.drop_eq_nil_of_le h'] at hl;cases hl
  have gh:=List.drop_eq_getElem_cons aB;rw [hl] at gh;injection gh with h1 h2
  have iS:ops[j]?=some o:=by
   have hj:j<ops.size:=by simpa using aB
   rw [Array.getElem?_eq_getElem hj];rw [h1];simp
  have bJ:o∈ops.toList:=by rw [h1];exact List.getElem_mem _
  have hw:∀ i,o.dst=some i->Bb i ops.toList=true:=λ i hi=>FN bJ hi;simp only [List.length_cons,List.range'_succ,Su,GU,iS];rcases H4 hg h with ⟨hwant,aG,aS,h'⟩ | ⟨hwant,aG,aS,h'⟩
  ·simp only [hwant,if_true];refine Bm.mono (AbE aS h') ?_;rintro v w' ⟨hh,hk⟩;exact KV l (j+1) h2.symm _ w' _ (aS.put aA.size o.dst v) (aA.put o.dst v hw) hk
  ·simp only [hwant];exact KV l (j+1) h2.symm _ w _ (aS.put aA.size o.dst undef) (aA.put o.dst undef hw) h'
end
end Go.Dn
namespace Go.Dn
open _root_.List renaming mem_cons -> Ajc, mem_filter -> Aja, mem_map -> Ajb
set_option linter.unusedVariables false
set_option maxRecDepth 100000
section
variable {P:Program}{kp:Wl}{n:Nat}{ops:Array Oper}{a0:Act}{Q:Act->World->Prop}
def LM(P:Program)(kp:Wl)(ops:Array Oper)(Q:Act->World->Prop):Nat->List (Nat × (World->Prop))->Array Bool->Act->World->Prop
 | 0,_,listed,a,w=>Region.ready .any ops listed=[]/\Q a w
 | fuel+1,Ss,listed,a,w=>(Region.ready .any ops listed=[]->Q a w) /\
  ∀ j∈Region.ready .any ops listed,GU P kp ops j (λ a' w'=>(∀ s∈Ss,(Ay ops j).contains s.1=false->s.2 w') /\
   LM P kp ops Q fuel (Ss.filter λ s=>!(Ay ops j).contains s.1) (listed.setIfInBounds j true) a' w') a w
theorem ND{S:World->Prop}{i:Nat}{o:Oper}{v:Value}{a:Act}(hi:ops[i]?=some o)(hy:YieldsIf P ops S o v a)
  {K:Act->World->Prop} {w:World} (hS:S w) (h:K (a.put o.dst v) w):GU P kp ops i K a w:=by
 unfold GU;simp only [hi];rcases hy with ⟨hw,hv⟩ | ⟨hw,rfl⟩
 ·simp only [hw,if_true];exact Bm.ML (hv w hS) h
 ·simp only [hw,Bool.false_eq_true,if_false];exact h
theorem Yy{S:World->Prop}{j:Nat}{oi oj:Oper}{v:Value}(hj:ops[j]?=some oj)(rS:oi.apart ops oj=true)
  (sY:∀ cs b,oi.op≠.select cs b) (sZ:∀ cs b,oj.op≠.select cs b) {K:Act->World->Prop} {a:Act} {w:World}
  (hy:YieldsIf P ops S oi v a) (h:GU P kp ops j K (a.put oi.dst v) w) :
  GU P kp ops j (λ a' w'=>YieldsIf P ops S oi v a'/\K (a'.put oi.dst v) w') a w:=by
 obtain⟨h1,h2,h3⟩:=Oper.apart_spec rS;have keep:∀(a:Act),YieldsIf P ops S oi v a->∀ u,YieldsIf P ops S oi v (a.put oj.dst u):=λ a hy u =>
  hy.of_same (execOp_put oi sY a oj.dst u h3) (wanted_put oi a oj.dst u h3)
 unfold GU at *;simp only [hj] at *;rw [wanted_put oj a oi.dst v h1] at h;split
 ·rename_i hw;simp only [hw,if_true] at h;unfold AeY at *;rw [execOp_put oj sZ a oi.dst v h1] at h;exact Bm.mono h λ u w' hk=>⟨keep a hy u,by rw [<- Act.put_comm a v u h2];exact hk⟩
 ·rename_i hw;simp only [hw] at h;exact⟨keep a hy _,by rw [<- Act.put_comm a v undef h2];exact h⟩
theorem Sp:∀(fuel:Nat) (Ss Ts:List (Nat × (World->Prop))) (listed:Array Bool) (a:Act) (w:World),(∀ s∈Ts,s∈Ss)->LM P kp ops Q fuel Ss listed a w->LM P kp ops Q fuel Ts listed a w
 | 0,_,_,_,_,_,_,h=>h
 | fuel+1,Ss,Ts,listed,a,w,hs,h=>by
  refine⟨h.1,λ j hj=>Sr (λ a' w' hh=>⟨λ s hm hc=>hh.1 s (hs s hm) hc,?_⟩) (h.2 j hj)⟩;exact Sp fuel _ _ _ _ _ (λ s hm=>by
   obtain⟨h1,h2⟩:=Aja.1 hm;exact Aja.2 ⟨hs s h1,h2⟩) hh.2
theorem FW{Q':Exit->Act->World->Prop}(r:Option Nat)(m:Nat)(hQ:∀ a w,Q a w->Q' .normal a w)(hP:∀ a ch w,St n a0 (λ i=>Bb i ops.toList) true a->ZN kp ch w->Q' (.panic ch) a w):∀(fuel:Nat) (Ss:List (Nat × (World->Prop))) (listed:Array Bool) (a:Act) (w:World),St n a0 (λ i=>Bb i ops.toList) true a->LM P kp ops Q fuel Ss listed a w->wpAnyIn (FF r) m P .any ops Q' fuel listed a w
 | 0,_,_,_,_,_,h=>⟨h.1,hQ _ _ h.2⟩
 | fuel+1,_,listed,a,w,aA,h=>by
  refine⟨λ h0=>hQ _ _ (h.1 h0),λ j hj=>?_⟩;have h2:=h.2 j hj;unfold GU at h2;unfold wpOpIn;split at h2
  ·rename_i ho;simp only [ho];exact FW r m hQ hP fuel _ _ a w aA h2.2
  ·rename_i o ho;simp only [ho];split at h2
   ·rename_i hw;rw [if_pos hw];exact NC r m (Bm.mono h2 λ v w' hk=>FW r m hQ hP fuel _ _ _ w' (aA.Aa8 ho v) hk.2) λ ch w' hk=>hP _ _ _ aA hk
   ·rename_i hw;rw [if_neg hw];exact⟨λ _ _=>trivial,FW r m hQ hP fuel _ _ _ w (aA.Aa8 ho _) h2.2⟩
def GV(ops:Array Oper)(listed:Array Bool):Prop :=
 ∀ j oj,ops[j]?=some oj->listed.getD j false=true->∀ e∈oj.after,Region.binds .any e=true->listed.getD e.on false=true
theorem GV.set{listed:Array Bool}(h:GV ops listed){i:Nat}(hi:i∈Region.ready .any ops listed):GV ops (listed.setIfInBounds i true):=by
 obtain⟨_,oi,kF,aC⟩:=mem_ready.1 hi;intro j oj hj hl e he hb;by_cases cV:i=j
 ·subst cV;have:oj=oi:=Option.some.inj (hj.symm.trans kF);subst this;exact getD_set_true (aC e he hb)
 ·rw [getD_set_ne false cV] at hl;exact getD_set_true (h j oj hj hl e he hb)
theorem GV.start:GV ops (Array.replicate ops.size false):=by
 intro j oj hj hl;have aB:=(Array.getElem?_eq_some_iff.1 hj).1;simp [aB] at hl
theorem Jw{listed:Array Bool}{j:Nat}(h:∀ oj,ops[j]?=some oj->∀ e∈oj.after,Region.binds .any e=true->listed.getD e.on false=true):∀ m∈Qf ops j,listed.getD m false=true:=by
 intro m hm;unfold Qf at hm;split at hm
 ·rename_i o ho;obtain⟨e,he,rfl⟩:=Ajb.1 hm;obtain⟨h1,h2⟩:=Aja.1 he;exact h o ho e (Array.mem_toList_iff.1 h1) h2
 ·cases hm
theorem EC{listed:Array Bool}(hc:GV ops listed):∀(k:Nat) (s:List Nat),(∀ m∈s,listed.getD m false=true)->∀ m∈Hv ops k s,listed.getD m false=true
 | 0,_,h=>h
 | k+1,s,h=>by
  unfold Hv;cases hk:s.contains k with
  | true =>
   simp only [cond_true];refine EC hc k _ λ m hm=>?_;rcases List.mem_append.1 hm with hm | hm
   ·exact Jw (λ oj ij e he hb=>hc k oj ij (h k (by simpa using hk)) e he hb) m hm
   ·exact h m hm
  | false=>simp only [cond_false];exact EC hc k s h
theorem Ack{listed:Array Bool}(hc:GV ops listed){i j:Nat}(hi:i∈Region.ready .any ops listed)(hj:j∈Region.ready .any ops listed):(Ay ops j).contains i=false:=by
 obtain⟨kM,oi,kF,_⟩:=mem_ready.1 hi;obtain⟨_,oj,ij,aC⟩:=mem_ready.1 hj;cases ml:(Ay ops j).contains i with
 | false=>rfl
 | true =>
  have hm:i∈Ay ops j:=by simpa using ml
  have:=EC hc j _ (Jw λ o ho e he hb=>by
   have:o=oj:=Option.some.inj (ho.symm.trans ij);subst this;exact aC e he hb) i hm
  rcases Nat.lt_or_ge i listed.size with h' | h'
  ·simp [h'] at kM this;rw [kM] at this;cases this
  ·simp [Array.getElem?_eq_none h'] at this
theorem FX{i:Nat}{oi:Oper}{v:Value}{S:World->Prop}(hi:ops[i]?=some oi)(dS:∀(j:Nat) (o:Oper) cs b,ops[j]?=some o->o.op≠.select cs b) :
  ∀(fuel:Nat) (Ss Ts:List (Nat × (World->Prop))) (listed:Array Bool) (a:Act) (w:World),
   (∀ j oj,ops[j]?=some oj->j≠i->listed.getD j true=false->(∀ e∈oj.after,Region.binds .any e=true->e.on≠i)->oi.apart ops oj=true) ->
   GV ops listed->i∈Region.ready .any ops listed->YieldsIf P ops S oi v a->S w->(∀ s∈Ss,s∈Ts)->((∀ w,S w)\/(i,S)∈Ts)->(∀ s∈Ts,s.2 w) ->
   LM P kp ops Q fuel Ts (listed.setIfInBounds i true) (a.put oi.dst v) w->LM P kp ops Q (fuel+1) Ss listed a w:=by
 intro fuel
 induction fuel with
 | zero =>
  intro Ss Ts listed a w _ cF hr hy hS eT hE aC H;refine⟨λ h=>(by rw [h] at hr;cases hr),λ j hj=>?_⟩;by_cases cQ:j=i
  ·subst cQ;exact ND hi hy hS ⟨λ s hs _=>aC s (eT s hs),H⟩
  ·have:=ready_mono hj cQ;rw [H.1] at this;cases this
 | succ fuel ih =>
  intro Ss Ts listed a w bz cF hr hy hS eT hE aC H;refine⟨λ h=>(by rw [h] at hr;cases hr),λ j hj=>?_⟩;by_cases cQ:j=i
  ·subst cQ;refine ND hi hy hS ⟨λ s hs _=>aC s (eT s hs),?_⟩;exact Sp _ _ _ _ _ _ (λ s hs=>eT s (Aja.1 hs).1) H
  ·have h1:=H.2 j (ready_mono hj cQ);obtain⟨hjun,oj,ij,fX⟩:=mem_ready.1 hj;have nU:∀ e∈oj.after,Region.binds .any e=true->e.on≠i:=λ e he hb heq=>by
    have h1:=fX e he hb;have h0:=(mem_ready.1 hr).1;rw [heq] at h1;rcases Nat.lt_or_ge i listed.size with h' | h'
    ·simp [h'] at h0 h1;rw [h0] at h1;cases h1
    ·simp [Array.getElem?_eq_none h'] at h1
   have pR:=Ack cF hr hj;have h2:=Yy ij (bz j oj ij cQ hjun nU) (λ cs b=>dS i oi cs b hi) (λ cs b=>dS j oj cs b ij) hy h1;have iQ:∀ k ok,ops[k]?=some ok->k≠i->(listed.setIfInBounds j true).getD k true=false ->
     (∀ e∈ok.after,Region.binds .any e=true->e.on≠i)->oi.apart ops ok=true:=λ k ok hk jI kM aq=>by
    refine bz k ok hk jI ?_ aq;by_cases jH:j=k
    ·subst jH;exact hjun
    ·rw [getD_set_ne true jH] at kM;exact kM
   refine Sr (λ a' w' h3=>?_) h2;obtain⟨iA,hreq,H'⟩:=h3;have dc:S w':=by
    rcases hE with hE | hE
    ·exact hE w'
    ·exact hreq (i,S) hE pR
   refine⟨λ s hs hc=>hreq s (eT s hs) hc,ih _ (Ts.filter λ s=>!(Ay ops j).contains s.1) (listed.setIfInBounds j true) a' w' iQ (cF.set hj) (ready_mono hr (Ne.symm cQ)) iA dc ?_ ?_ ?_ ?_⟩
   ·intro s hs;obtain⟨h1,h2⟩:=Aja.1 hs;exact Aja.2 ⟨eT s h1,h2⟩
   ·rcases hE with hE | hE
    ·exact .inl hE
    ·exact .inr (Aja.2 ⟨hE,by simp only [pR];rfl⟩)
   ·intro s hs;obtain⟨h1,h2⟩:=Aja.1 hs;exact hreq s h1 (by simpa using h2)
   ·rw [Array.setIfInBounds_comm _ _ cQ];exact H'
theorem LG{ps:List Nat}{w:World}{X:Prop}:∀ {held:List (Nat × Et)},stands ps held w X->(∀ s∈held,ps.contains s.1=false->holds s.2 w)/\X
 | [],h=>⟨by simp,h⟩
 | s :: r,h=>by
  unfold stands at h;cases hc:ps.contains s.1 with
  | true =>
   simp only [hc,cond_true] at h;obtain⟨h1,h2⟩:=LG h;refine⟨λ t ht kK=>?_,h2⟩;rcases Ajc.1 ht with rfl | ht
   ·rw [hc] at kK;cases kK
   ·exact h1 t ht kK
  | false =>
   simp only [hc,cond_false] at h;obtain⟨h0,h⟩:=h;obtain⟨h1,h2⟩:=LG h;refine⟨λ t ht kK=>?_,h2⟩;rcases Ajc.1 ht with rfl | ht
   ·exact h0
   ·exact h1 t ht kK
theorem Ws{f:Nat->Prop}:∀ {l:List Nat},Adh l f->∀ i∈l,f i
 | [],_,_,hi=>by cases hi
 | [i],h,j,hj=>by simp at hj;subst hj;exact h
 | i :: k :: r,h,j,hj=>by
  obtain⟨h1,h2⟩:=h;rcases Ajc.1 hj with rfl | hj
  ·exact h1
  ·exact Ws h2 j hj
def asS(held:List (Nat × Et)):List (Nat × (World->Prop)):=held.map λ s=>(s.1,holds s.2)
theorem Ww(ps:List Nat)(held:List (Nat × Et)):(asS held).filter (λ s=>!ps.contains s.1)=asS (kept ps held):=by
 unfold asS kept;rw [List.filter_map];rfl
theorem Ab5{c:Cls}{i:Nat}{o:Oper}(ho:ops[i]?=some o)(h:OU P ops c i=true):cls P o=c:=by
 unfold OU at h;simp only [ho] at h;cases h1:cls P o <;> cases c <;> simp_all [AhX]
theorem Adp{o:Oper}(h:cls P o=.pure):BV P o=true:=by
 unfold cls at h;cases hh:BV P o with
 | true=>rfl
 | false=>simp only [hh,cond_false] at h;split at h <;> cases h
theorem WK(dS:Region.noSelect ops=true){K:Fr->World->Prop}:∀(fuel:Nat) (listed:Array Bool) (held:List (Nat × Et)) (fr:Fr) (w:World) (a:Act),
  AF fr a->St n a0 (λ i=>Bb i ops.toList) true a->GV ops listed->(∀ s∈held,holds s.2 w) ->
  Dr P kp n ops fuel listed held fr K w->LM P kp ops (Ac2 n a0 (λ i=>Bb i ops.toList) K) fuel (asS held) listed a w:=by
 have hs:=Region.noSelect_spec dS;have jS:∀(j:Nat) (o:Oper),ops[j]?=some o->∀ i,o.dst=some i->Bb i ops.toList=true:=λ j o ho i hi =>
  FN (Array.mem_toList_iff.2 (Array.mem_of_getElem? ho)) hi
 intro fuel
 induction fuel with
 | zero =>
  intro listed held fr w a hg aA _ _ h;unfold Dr at h;cases hr:Region.ready .any ops listed with
  | nil=>rw [hr] at h;exact⟨hr,aA,fr,hg,h⟩
  | cons x r=>rw [hr] at h;exact h.elim
 | succ fuel ih =>
  intro listed held fr w a hg aA cF bO h;unfold Dr at h;split at h
  ·rename_i hr;refine⟨λ _=>⟨aA,fr,hg,h⟩,λ j hj=>?_⟩;rw [hr] at hj;cases hj
  ·rename_i i0 rs hr;split at h
   ·rename_i i dx;have bJ:i∈Region.ready .any ops listed:=by rw [hr];exact List.mem_of_find?_eq_some dx
    have mi:=List.find?_some dx;split at h
    ·rename_i o ho;cases aL:Region.free .any ops listed i with
     | false=>rw [aL] at h;exact h.elim
     | true =>
      rw [aL] at h;simp only [cond_true] at h;have hp:=Adp (Ab5 ho mi);have bz:=Region.free_spec ho aL;rcases H4 hg h with ⟨hwant,aG,aS,h'⟩ | ⟨hwant,aG,aS,h'⟩
      ·obtain⟨v,hk,aF⟩:=TC (Jx hp) aS.eval h';refine FX (S:=λ _=>True) ho hs fuel _ (asS held) listed a w bz cF bJ (.inl ⟨hwant,λ w _=>aF w⟩) trivial (λ _ h=>h) (.inl λ _=>trivial) ?_ ?_
       ·intro s cH;obtain⟨t,ht,rfl⟩:=Ajb.1 cH;exact bO t ht
       ·exact ih _ _ _ _ _ (aS.put aA.size o.dst v) (aA.put o.dst v (jS i o ho)) (cF.set bJ) bO hk
      ·refine FX (S:=λ _=>True) (v:=undef) ho hs fuel _ (asS held) listed a w bz cF bJ (.inr ⟨hwant,rfl⟩) trivial (λ _ h=>h) (.inl λ _=>trivial) ?_ ?_
       ·intro s cH;obtain⟨t,ht,rfl⟩:=Ajb.1 cH;exact bO t ht
       ·exact ih _ _ _ _ _ (aS.put aA.size o.dst undef) (aA.put o.dst undef (jS i o ho)) (cF.set bJ) bO h'
    ·exact h.elim
   ·split at h
    ·rename_i i dx;have bJ:i∈Region.ready .any ops listed:=by rw [hr];exact List.mem_of_find?_eq_some dx
     split at h
     ·rename_i o ho;cases aL:Region.free .any ops listed i with
      | false=>rw [aL] at h;exact h.elim
      | true =>
       rw [aL] at h;simp only [cond_true] at h;have bz:=Region.free_spec ho aL;rcases H4 hg h with ⟨hwant,aG,aS,h'⟩ | ⟨hwant,aG,aS,h'⟩
       ·split at h'
        ·rename_i t x cq;obtain⟨ad,v,hh,hx,hk,hholds,aF⟩:=N6 h';have he:=aS.eval _ _ hx;have hv:∀ w',holds hh w'->(execOp a.eval o).run P w'=.ok (.value v) w':=λ w' kP=>by
          simp only [execOp,cq,he,Sem.run_bind,aF w' kP,Result.andThen_ok,Sem.run_pure]
         refine FX (S:=holds hh) ho hs fuel _ (asS ((i,hh) :: held)) listed a w bz cF bJ (.inl ⟨hwant,hv⟩) hholds ?_ (.inr ?_) ?_ ?_
         ·intro s cH;exact List.mem_cons_of_mem _ cH
         ·exact List.mem_cons_self
         ·intro s cH;obtain⟨t,ht,rfl⟩:=Ajb.1 cH;rcases Ajc.1 ht with rfl | ht
          ·exact hholds
          ·exact bO t ht
         ·exact ih _ _ _ _ _ (aS.put aA.size o.dst v) (aA.put o.dst v (jS i o ho)) (cF.set bJ) (λ s cH=>by
           rcases Ajc.1 cH with rfl | ht
           ·exact hholds
           ·exact bO s ht) hk
        ·exact h'.elim
       ·refine FX (S:=λ _=>True) (v:=undef) ho hs fuel _ (asS held) listed a w bz cF bJ (.inr ⟨hwant,rfl⟩) trivial (λ _ h=>h) (.inl λ _=>trivial) ?_ ?_
        ·intro s cH;obtain⟨t,ht,rfl⟩:=Ajb.1 cH;exact bO t ht
        ·exact ih _ _ _ _ _ (aS.put aA.size o.dst undef) (aA.put o.dst undef (jS i o ho)) (cF.set bJ) bO h'
     ·exact h.elim
    ·refine⟨(λ h0=>by rw [hr] at h0;cases h0),λ j hj=>?_⟩;have bh:=Ws h j (by rw [<- hr];exact hj);split at bh
     ·rename_i o ho;unfold GU;simp only [ho];rcases H4 hg bh with ⟨hwant,aG,aS,h'⟩ | ⟨hwant,aG,aS,h'⟩
      ·simp only [hwant,if_true];refine Bm.mono (QP aS.eval h') λ v w' hk=>?_;obtain⟨fP,hk⟩:=LG hk;refine⟨λ s cH hc=>?_,?_⟩
       ·obtain⟨t,ht,rfl⟩:=Ajb.1 cH;exact fP t ht hc
       ·rw [Ww];exact ih _ _ _ _ _ (aS.put aA.size o.dst v) (aA.put o.dst v (jS j o ho)) (cF.set hj) (λ s cH=>by
         obtain⟨h1,h2⟩:=Aja.1 cH;exact fP s h1 (by simpa using h2)) hk
      ·simp only [hwant];refine⟨λ s cH _=>?_,?_⟩
       ·obtain⟨t,ht,rfl⟩:=Ajb.1 cH;exact bO t ht
       ·rw [Ww];exact ih _ _ _ _ _ (aS.put aA.size o.dst undef) (aA.put o.dst undef (jS j o ho)) (cF.set hj) (λ s cH=>bO s (Aja.1 cH).1) h'
     ·exact bh.elim
end
end Go.Dn
