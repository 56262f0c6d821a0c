/- Texts of this claim, laid one behind the other by a program of mine. -/
import Derived.Orders
import Derived.Laws.World
import Derived.Laws.Sem
import Derived.KernelRfl
import Derived.RangeFuncRecord
import GoSem.Claim
import Derived.Handed
import Derived.SizedLaws
import Derived.HandedShaped
import Derived.LaidSub
import Derived.Lib.LaidTab
import Derived.Shelf.Vars
import Derived.MakeChecks
import Derived.JoinedOf
import Derived.Laws.Cells
import Derived.Laws.StructEq
import Derived.Laws.Rows
import Derived.OrdersHeld
import Derived.OrdersIn
namespace Go.Dn
open _root_.BitVec renaming ofInt -> AhZ
open _root_.Nat renaming beq -> Ah0
theorem Omg{p:Prop}(h:p:=by omega):p:=h
theorem Osi{p:Prop}(h:p:=by simp):p:=h
theorem Ode{p:Prop}(h:p:=by decide):p:=h
set_option linter.unusedVariables false
set_option maxRecDepth 100000
abbrev Fr:=List (Nat × Value)
def look:Fr->Nat->Option Value
 | [],_=>none
 | x :: r,i=>bif Ah0 x.1 i then some x.2 else look r i
def put(n:Nat)(fr:Fr)(d:Option Nat)(v:Value):Fr :=
 match d with
 | none=>fr
 | some d=>bif Nat.blt d n then (d,v) :: fr else fr
def JH(fr:Fr):Operand->Option Value
 | .tmp t=>look fr t
 | .const v=>some v
 | .global g=>some (.pointer (some ⟨g,0,none⟩))
 | .func f=>some (.func (.func f) #[] #[])
/-! ## Small combinators -/
def PB(x:Option Value)(k:Value->Prop):Prop :=
 match x with
 | some v=>k v
 | none=>False
def ZB(b:Bool)(x y:Prop):Prop :=
 match b with
 | true=>x
 | false=>y
def Av(p:Option Addr)(k:Addr->Prop):Prop :=
 match p with
 | some a=>k a
 | none=>False
def Ac0(x:Option Value)(k:Bool->Prop):Prop :=
 match x with
 | some (.bool b)=>k b
 | _=>False
def AbH(x:Option Value)(k:IntKind->Int->Prop):Prop :=
 match x with
 | some (.int kd n)=>k kd n
 | _=>False
def AbL(x:Option Value)(k:Addr->Prop):Prop :=
 match x with
 | some (.pointer p)=>Av p k
 | _=>False
def Af6(x:Option Value)(k:FuncId->Array Value->Array Value->Prop):Prop :=
 match x with
 | some (.func (.func g) fi ca)=>k g fi ca
 | _=>False
def Af5(x:Option Value)(k:FuncId->Array Value->Array Value->Prop)(y:Nat->Prop):Prop :=
 match x with
 | some (.func (.func g) fi ca)=>k g fi ca
 | some (.func (.yield l) fi ca)=>bif fi.toList.isEmpty && ca.toList.isEmpty then y l else False
 | _=>False
/-! ## Typed opening -/
def Vc(z:Value)(f:Value->Prop):Prop :=
 match z with
 | .int kd _=>∃ n:Int,f (.int kd n)
 | .bool _=>∃ b:Bool,f (.bool b)
 | .string _=>∃ s:ByteArray,f (.string s)
 | .pointer _=>∃ p:Option Addr,f (.pointer p)
 | .slice _ _ _=>∃(p:Option Addr) (l c:Nat),f (.slice p l c)
 | .map _=>∃ r:Option Nat,f (.map r)
 | .nilFunc=>∃(g:FuncId) (fi ca:Array Value),f (.func (.func g) fi ca)
 | _=>∃ v:Value,f v
def Ac7(z:Value)(f:Value->Prop):Prop :=
 match z with
 | .nilFunc=>(∃(g:FuncId) (fi ca:Array Value),f (.func (.func g) fi ca))\/(∃ l:Nat,f (.func (.yield l) #[] #[]))
 | z=>Vc z f
def Fh:List Value->(List Value->Prop)->Prop
 | [],f=>f []
 | z :: zs,f=>Vc z λ v=>Fh zs λ vs=>f (v :: vs)
def AeY(z:Value)(f:Value->Prop):Prop :=
 match z with
 | .agg zs=>Fh zs.toList λ vs=>f (.agg ⟨vs⟩)
 | z=>Vc z f
def Ac6:List Value->(List Value->Prop)->Prop
 | [],f=>f []
 | z :: zs,f=>AeY z λ v=>Ac6 zs λ vs=>f (v :: vs)
def Xw(z:Value)(f:Value->Prop):Prop :=
 match z with
 | .tuple zs=>Ac6 zs.toList λ vs=>f (.tuple ⟨vs⟩)
 | z=>AeY z f
def AaO(d:Bool)(z:Value)(f:Value->Prop):Prop :=
 match z with
 | .nilFunc=>(match d with
  | true=>(∃(g:FuncId) (fi ca:Array Value),f (.func (.func g) fi ca))\/f .nilFunc
  | false=>Xw .nilFunc f)
 | z=>Xw z f
def Agn:Operand->Bool
 | .tmp _=>true
 | _=>false
def AeR(z:Value)(f:Value->Prop):Prop :=
 match z with
 | .int kd _=>∀ n:Int,f (.int kd n)
 | .bool _=>∀ b:Bool,f (.bool b)
 | .string _=>∀ s:ByteArray,f (.string s)
 | .pointer _=>∀ p:Option Addr,f (.pointer p)
 | .slice _ _ _=>∀(p:Option Addr) (l c:Nat),f (.slice p l c)
 | .map _=>∀ r:Option Nat,f (.map r)
 | .nilFunc=>∀(g:FuncId) (fi ca:Array Value),f (.func (.func g) fi ca)
 | _=>∀ v:Value,f v
def AeS:List Value->(List Value->Prop)->Prop
 | [],f=>f []
 | z :: zs,f=>AeR z λ v=>AeS zs λ vs=>f (v :: vs)
def AcY(z:Value)(f:Value->Prop):Prop :=
 match z with
 | .agg zs=>AeS zs.toList λ vs=>f (.agg ⟨vs⟩)
 | z=>AeR z f
def Wl:List Value->(List Value->Prop)->Prop
 | [],f=>f []
 | z :: zs,f=>AcY z λ v=>Wl zs λ vs=>f (v :: vs)
def Er:IntKind->IntKind->Bool
 | .i8,.i8 | .i16,.i16 | .i32,.i32 | .i64,.i64 | .u8,.u8 | .u16,.u16 | .u32,.u32 | .u64,.u64=>true
 | _,_=>false
def Ys(z v:Value):Bool :=
 match z with
 | .int kd _=>match v with | .int kd' _=>Er kd kd' | _=>false
 | .bool _=>match v with | .bool _=>true | _=>false
 | .string _=>match v with | .string _=>true | _=>false
 | .pointer _=>match v with | .pointer _=>true | _=>false
 | .slice _ _ _=>match v with | .slice _ _ _=>true | _=>false
 | .map _=>match v with | .map _=>true | _=>false
 | .nilFunc=>match v with | .func (.func _) _ _=>true | _=>false
 | _=>true
def VJ:List Value->List Value->Bool
 | [],[]=>true
 | z :: zs,v :: vs=>Ys z v && VJ zs vs
 | _,_=>false
def Ad1(z v:Value):Bool :=
 match z with
 | .agg zs=>match v with | .agg vs=>VJ zs.toList vs.toList | _=>false
 | z=>Ys z v
def Mr:List Value->List Value->Bool
 | [],[]=>true
 | z :: zs,v :: vs=>Ad1 z v && Mr zs vs
 | _,_=>false
/-! ## Memory -/
def Du(cells:Array Value)(t:TypeId)(k:Nat->World->Prop)(w:World):Prop:=k w.heap.size (w.alloc (.cells cells t))
def PF(k:World->Prop)(w:World):Prop:=k w.drew
def CR:List Value->Addr->Nat->(List Value->Prop)->World->Prop
 | [],_,_,k,_=>k []
 | z :: zs,a,i,k,w=>Ac7 z λ v=>w.cell? (a.add i)=some v/\CR zs a (i+1) (λ vs=>k (v :: vs)) w
def DG(a:Addr)(v:Value)(k:World->Prop)(w:World):Prop :=
 (w.cell? a).isSome=true/\w.frozen? a=false/\k (w.setCell a v)
def CL:List Value->Addr->Nat->(World->Prop)->World->Prop
 | [],_,_,k,w=>k w
 | v :: vs,a,i,k,w=>bif v.oneCell' then DG (a.add i) v (λ w'=>CL vs a (i+1) k w') w else False
/-! ## Pure semantics -/
def HZ{α:Type}(P:Program):Sem α->Option α
 | .pure a=>some a
 | .program k=>HZ P (k P)
 | .mark _ k=>HZ P k
 | _=>none
def rho(e:Operand->Option Value)(x:Operand):Value:=(e x).getD undef
def known(e:Operand->Option Value)(o:Oper):Bool:=o.op.operands.toList.all λ x=>(e x).isSome
def Q9(op:BinOp)(k k':IntKind)(a b:Int)(K:Value->Prop):Prop :=
 match op with
 | .shl=>0<=b/\K (.int k (k.wrap (a*2 ^ (min b.toNat k.bits))))
 | .shr=>0<=b/\K (.int k (a.fdiv (2 ^ (min b.toNat k.bits))))
 | op=>bif Er k k' then
  match op with
  | .add=>K (.int k (k.wrap (a+b)))
  | .sub=>K (.int k (k.wrap (a-b)))
  | .mul=>K (.int k (k.wrap (a*b)))
  | .quo=>b≠0/\K (.int k (k.wrap (a.tdiv b)))
  | .rem=>b≠0/\K (.int k (a.tmod b))
  | .and=>K (.int k (k.wrap (AhZ k.bits a &&& AhZ k.bits b).toNat))
  | .or=>K (.int k (k.wrap (AhZ k.bits a ||| AhZ k.bits b).toNat))
  | .xor=>K (.int k (k.wrap (AhZ k.bits a ^^^ AhZ k.bits b).toNat))
  | .andNot=>K (.int k (k.wrap (AhZ k.bits a &&& ~~~(AhZ k.bits b)).toNat))
  | .eql=>K (.bool (a==b))
  | .neq=>K (.bool (a != b))
  | .lss=>K (.bool (decide (a<b)))
  | .leq=>K (.bool (decide (a<=b)))
  | .gtr=>K (.bool (decide (a > b)))
  | .geq=>K (.bool (decide (a>=b)))
  | _=>False
 else False
def Z7(op:BinOp)(k k':IntKind)(a b:Int)(K:Value->Prop):Prop :=
 match op with
 | .shl=>bif decide (0<=b) then K (.int k (k.wrap (a*2 ^ (min b.toNat k.bits)))) else False
 | .shr=>bif decide (0<=b) then K (.int k (a.fdiv (2 ^ (min b.toNat k.bits)))) else False
 | .quo=>bif decide (b=0) then False else bif Er k k' then K (.int k (k.wrap (a.tdiv b))) else False
 | .rem=>bif decide (b=0) then False else bif Er k k' then K (.int k (a.tmod b)) else False
 | op=>Q9 op k k' a b K
def A1(a b:ByteArray):Bool:=a.toList==b.toList
def Ex(a b:ByteArray):Bool:=Op.bytesLess a.toList b.toList
def AeB(op:BinOp)(a b:ByteArray)(K:Value->Prop):Prop :=
 match op with
 | .add=>a.size+b.size<=9223372036854775807/\K (.string (a++b))
 | .eql=>K (.bool (A1 a b))
 | .neq=>K (.bool (!A1 a b))
 | .lss=>K (.bool (Ex a b))
 | .leq=>K (.bool (Ex a b || A1 a b))
 | .gtr=>K (.bool (!(Ex a b || A1 a b)))
 | .geq=>K (.bool (!Ex a b))
 | _=>False
def YF(P:Program)(t:TypeId)(cs:Array Value)(off:Nat):Option Value :=
 match P.underlying t with
 | some (.struct _)=>some (.agg (cs.extract off (off+P.cellsOf t)))
 | some .bool | some (.int _) | some .string=>cs[off]?
 | _=>none
def AdH(P:Program)(eq:TypeId->Value->Value->Option Bool)(xs ys:Array Value):List Field->Option Bool
 | []=>some true
 | f :: fs => bif f.name == "_" then none else
  match YF P f.type xs f.offset,YF P f.type ys f.offset with
  | some x,some y =>
   (match eq f.type x y,AdH P eq xs ys fs with
   | some b,some c=>some (b && c)
   | _,_=>none)
  | _,_=>none
def eqV(P:Program):Nat->TypeId->Value->Value->Option Bool
 | 0,_,_,_=>none
 | d+1,t,x,y =>
  match P.underlying t with
  | some .bool=>(match x,y with
   | .bool a,.bool b=>some (a==b)
   | _,_=>none)
  | some (.int _)=>(match x,y with
   | .int k a,.int k' b=>bif Er k k' then some (a==b) else none
   | _,_=>none)
  | some .string=>(match x,y with
   | .string a,.string b=>some (a==b)
   | _,_=>none)
  | some (.struct fs)=>(match x,y with
   | .agg xs,.agg ys=>bif P.stoodInHeld t then none else AdH P (eqV P d) xs ys fs.toList
   | _,_=>none)
  | _=>none
def isNeg:BinOp->Option Bool
 | .eql=>some false
 | .neq=>some true
 | _=>none
def Kn(neg:Bool)(b:Bool):Value:=.bool (bif neg then !b else b)
def AdI(P:Program)(op:BinOp)(t:TypeId)(x y:Value)(K:Value->Prop):Prop :=
 match isNeg op with
 | none=>False
 | some neg =>
  match x,y with
  | .bool a,.bool b=>bif (match P.underlying t with | some .bool=>true | _=>false) then K (Kn neg (a==b)) else False
  | .pointer p,.pointer none=>bif (match P.underlying t with | some (.pointer _)=>true | _=>false) then K (Kn neg p.isNone) else False
  | .slice p _ _,.slice none _ _=>bif (match P.underlying t with | some (.slice _)=>true | _=>false) then K (Kn neg p.isNone) else False
  | .map p,.map none=>bif (match P.underlying t with | some (.map _ _)=>true | _=>false) then K (Kn neg p.isNone) else False
  | .nilFunc,.nilFunc=>bif (match P.underlying t with | some (.func _ _ _)=>true | _=>false) then K (Kn neg true) else False
  | .func _ _ _,.nilFunc=>bif (match P.underlying t with | some (.func _ _ _)=>true | _=>false) then K (Kn neg false) else False
  | .agg xs,.agg ys=>bif P.eqGuardType P.depth t then False else (match eqV P 5 t (.agg xs) (.agg ys) with | some b=>K (Kn neg b) | none=>False)
  | _,_=>False
def TL(P:Program)(t:TypeId):Bool :=
 match P.underlying t with
 | some (.interface _)=>true
 | _=>false
def Ac5(x:Value)(k:Bool->Prop):Prop :=
 match x with
 | .nilIface=>k true
 | .iface _ _=>k false
 | _=>False
def Af0(op:BinOp)(k:Bool->Prop):Prop :=
 match isNeg op with
 | none=>False
 | some neg=>k neg
def Afb(P:Program)(c:Bool)(op:BinOp)(t:TypeId)(x y:Value)(K:Value->Prop):Prop :=
 match y with
 | .nilIface=>Af0 op λ neg=>bif c && TL P t then Ac5 x (λ b=>K (Kn neg b)) else False
 | y=>AdI P op t x y K
def EW:Operand->Bool
 | .const _=>true
 | _=>false
def AfX(P:Program)(e:Operand->Option Value)(op:BinOp)(t:TypeId)(x y:Operand)(K:Value->Prop):Prop :=
 match e x,e y with
 | some (.int k a),some (.int k' b)=>bif EW y then Z7 op k k' a b K else Q9 op k k' a b K
 | some (.string a),some (.string b)=>AeB op a b K
 | some u,some v=>Afb P (EW y) op t u v K
 | _,_=>False
def Ag1(P:Program)(e:Operand->Option Value)(op:BinOp)(t:TypeId)(x y:Operand)(K:Value->Prop):Prop :=
 match e y with
 | some .nilIface=>PB (e x) λ u=>Afb P (EW y) op t u .nilIface K
 | _=>AfX P e op t x y K
def Ch(a:Option Addr)(l m size:Nat):Option Addr:=if m=l then a else a.map (·.add (l*size))
def Az(s:ByteArray)(i:Nat):UInt8:=s.data.toList.getD i 0
def Hc(e:Operand->Option Value)(x:Option Operand)(d:Nat)(k:Int->Prop):Prop :=
 match x with
 | none=>k d
 | some o=>match e o with
  | some (.int _ n)=>k n
  | _=>False
def UL(P:Program)(t:TypeId):Bool:=(P.info? t).isSome
def Aas(P:Program)(e:Operand->Option Value)(t:TypeId)(x:Operand)(lo hi mx:Option Operand)(K:Value->Prop):Prop :=
 match P.underlying t,e x,mx with
 | some .string,some (.string s),none =>
  Hc e hi s.size λ h=>Hc e lo 0 λ l=>(0<=l/\l<=h/\h<=s.size)/\K (.string (s.extract l.toNat h.toNat))
 | some (.slice el),some (.slice a len cap),none=>bif UL P el then
  Hc e hi len λ h=>Hc e lo 0 λ l=>(0<=l/\l<=h/\h<=cap)/\K (.slice (Ch a l.toNat cap (P.cellsOf el)) (h.toNat-l.toNat) (cap-l.toNat)) else False
 | some (.slice el),some (.slice a _ cap),some mo=>bif UL P el then
  match hi with
  | none=>False
  | some _=>Hc e (some mo) 0 λ m=>Hc e hi 0 λ h=>Hc e lo 0 λ l=>(0<=l/\l<=h/\h<=m/\m<=cap)/\K (.slice (Ch a l.toNat m.toNat (P.cellsOf el)) (h.toNat-l.toNat) (m.toNat-l.toNat)) else False
 | some (.array n el),some (.pointer p),none=>bif UL P el then Av p λ a =>
  Hc e hi n λ h=>Hc e lo 0 λ l=>(0<=l/\l<=h/\h<=n)/\K (.slice (Ch (some a) l.toNat n (P.cellsOf el)) (h.toNat-l.toNat) (n-l.toNat)) else False
 | _,_,_=>False
def MW(P:Program)(e:Operand->Option Value)(t:TypeId)(x i:Operand)(K:Value->Prop):Prop :=
 match P.underlying t,e x with
 | some (.slice el),some (.slice p len _)=>bif UL P el then AbH (e i) λ _ n=>(0<=n/\n<len)/\Av p λ a=>K (.pointer (some (a.add (n.toNat*P.cellsOf el)))) else False
 | some (.array len el),some (.pointer p)=>bif UL P el then AbH (e i) λ _ n=>bif EW i then (bif decide (0<=n/\n<len) then Av p λ a=>K (.pointer (some (a.add (n.toNat*P.cellsOf el)))) else False) else (0<=n/\n<len)/\Av p λ a=>K (.pointer (some (a.add (n.toNat*P.cellsOf el)))) else False
 | _,_=>False
def zeroOf(P:Program)(t:TypeId):Option Value :=
 match P.info? t with
 | some i=>i.zero
 | none=>none
def Jh(P:Program)(t:TypeId):Bool :=
 match P.underlying t with
 | some (.struct _) | some (.array _ _)=>true
 | _=>false
def Aef(P:Program)(t:TypeId)(cs:List Value)(off:Nat)(K:Value->Prop):Prop :=
 match zeroOf P t with
 | none=>False
 | some z =>
  bif Jh P t then Fh z.cells.toList λ vs=>(cs.drop off).take (P.cellsOf t)=vs/\K (.agg ⟨vs⟩)
  else bif (P.underlying t).isSome then Vc z λ v=>cs[off]?=some v/\K v else False
def Z5(P:Program)(e:Operand->Option Value)(t:TypeId)(x i:Operand)(K:Value->Prop):Prop :=
 match P.underlying t,e x with
 | some .string,some (.string s)=>AbH (e i) λ _ n=>(0<=n/\n<s.size)/\K (.int .u8 (Az s n.toNat).toNat)
 | some (.array len el),some (.agg cs)=>AbH (e i) λ _ n=>(0<=n/\n<len)/\Aef P el cs.toList (n.toNat*P.cellsOf el) K
 | _,_=>False
def MT(P:Program)(e:Operand->Option Value)(s:TypeId)(x:Operand)(f:Nat)(K:Value->Prop):Prop :=
 match P.underlying s with
 | some (.struct fs) =>
  match fs[f]? with
  | some fl=>bif Ah0 (P.cellsOf fl.type) 0 then False else AbL (e x) λ a=>K (.pointer (some (a.add fl.offset)))
  | none=>False
 | _=>False
def Ahh(x:Option Value)(K:Value->Prop):Prop :=
 match x with
 | some (.pointer p)=>Av p λ a=>K (.pointer (some a))
 | some (.func (.func f) u c)=>K (.func (.func f) u c)
 | some (.func (.yield l) u c)=>K (.func (.yield l) u c)
 | _=>False
def Tn(P:Program)(e:Operand->Option Value)(o:Oper)(K:Value->Prop):Prop :=
 bif known e o then
  match HZ P (execOp (rho e) o) with
  | some (.value v)=>K v
  | _=>False
 else False
def AaX(P:Program)(e:Operand->Option Value)(o:Oper)(K:Value->Prop):Prop :=
 match o.op with
 | .move x=>PB (e x) K
 | .assign x=>PB (e x) K
 | .pick c a b=>Ac0 (e c) λ t=>ZB t (PB (e a) K) (PB (e b) K)
 | .nilCheck x=>Ahh (e x) K
 | .binOp op t x y _=>Ag1 P e op t x y K
 | .fieldAddr s x f=>MT P e s x f K
 | .indexAddr t x i=>MW P e t x i K
 | .index t x i=>Z5 P e t x i K
 | .slice t x lo hi mx=>Aas P e t x lo hi mx K
 | _=>Tn P e o K
def AdU(P:Program)(t:TypeId):Bool :=
 match P.underlying t with
 | some (.int _)=>true
 | _=>false
def Afr(P:Program)(ts:Array TypeId):Bool :=
 match ts.toList with
 | t :: _=>match P.underlying t with
  | some .string | some (.slice _) | some (.array _ _)=>true
  | _=>false
 | []=>false
def Agm(P:Program)(t:TypeId):Bool :=
 match P.underlying t with
 | some (.pointer _)=>true
 | _=>false
def MX(P:Program)(o:Oper):Bool :=
 match o.op with
 | .move _ | .assign _ | .pick _ _ _ | .nilCheck _ | .fieldAddr _ _ _ | .indexAddr _ _ _ | .index _ _ _ | .slice _ _ _ _ _=>true
 | .binOp _ t _ y _=>!(Agm P t) || EW y
 | .unOp _ _ _ | .field _ _ _ | .extract _ _ | .makeFunc _ _ _ | .makeInterface _ _ | .build _ _=>true
 | .convert s d _=>AdU P s && AdU P d
 | .call { callee:=.builtin b,argTypes,.. } =>
  match b with
  | .len | .cap=>Afr P argTypes
  | .min | .max=>true
  | _=>false
 | _=>false
/-! ## Reads -/
abbrev Gp:=List (Addr × Value)
def Kt(a:Addr):List Value->Nat->Gp
 | [],_=>[]
 | v :: vs,i=>(a.add i,v) :: Kt a vs (i+1)
def Yt(P:Program)(t:TypeId)(x:Option Value)(k:Value->Gp->Prop)(w:World):Prop :=
 match zeroOf P t with
 | none=>False
 | some z =>
  bif Jh P t then
   (bif Ah0 (P.cellsOf t) z.cells.toList.length then AbL x λ a=>CR z.cells.toList a 0 (λ vs=>k (.agg ⟨vs⟩) (Kt a vs 0)) w else False)
  else bif (P.underlying t).isSome then AbL x λ a=>CR [z] a 0 (λ vs=>k (vs.headD undef) (Kt a vs 0)) w else False
/-! ## What acts -/
abbrev XA:=Option (List PanicEntry->World->Prop)
def Aai(kp:XA)(ch:List PanicEntry)(w:World):Prop :=
 match kp with
 | none=>False
 | some p=>p ch w
def AgG(P:Program)(kp:XA)(d:Bool)(f:FuncId)(args:Array Value)(z:Value)(k:Value->World->Prop)(w:World):Prop :=
 match kp with
 | none=>Calls P f args w λ e w'=>AaO d z λ v=>e=.returned v/\k v w'
 | some p=>Calls P f args w λ e w'=>(AaO d z λ v=>e=.returned v/\k v w')\/∃ ch,e=.panicked ch/\p ch w'
def AgQ(kp:XA)(x:Option Value)(w:World):Prop :=
 match kp with
 | none=>False
 | some p=>match x with
  | some (.iface t v)=>p [{ v:=.iface t v,recovered:=false }] w
  | _=>False
def ZC(P:Program)(s:Sem Value)(z:Value)(k:Value->World->Prop)(w:World):Prop :=
 match s.run P w with
 | .ok v w'=>Xw z λ u=>v=u/\k u w'
 | .halt _ _=>False
def ZD(P:Program)(s:Sem Unit)(k:World->Prop)(w:World):Prop :=
 match s.run P w with
 | .ok _ w'=>k w'
 | .halt _ _=>False
def De(P:Program)(s:Sem Value)(f:Value->World->Prop)(w:World):Prop :=
 match s.run P w with
 | .ok v w'=>f v w'
 | .halt _ _=>False
def OPN(P:Program)(s:Sem Value)(k0:World->Prop)(k1:Value->Value->World->Prop)(w:World):Prop :=
 match s.run P w with
 | .ok v w'=>(v=.tuple #[.bool false]/\k0 w')\/(∃ x y:Value,v=.tuple #[.bool true,x,y]/\k1 x y w')
 | .halt _ _=>False
def N0(P:Program)(l:Nat)(args:Array Value)(k:Bool->World->Prop)(w:World):Prop :=
 ∃ f tmps assign body,(Instr.yield l args).run P w=.ok (.round l f tmps assign body) w/\RoundIn Fence.wide 0 P l f tmps assign body w λ e w'=>∃ t,e=.returned (.bool t)/\k t w'
def enters(P:Program)(f:FuncId):Bool :=
 match P.funcs[f]? with
 | some fn => fn.body.isSome && !(fn.name == "runtime.NumGoroutine")
 | none=>false
def XY(e:Operand->Option Value):List Operand->Option (List Value)
 | []=>some []
 | x :: xs=>match e x,XY e xs with
  | some v,some vs=>some (v :: vs)
  | _,_=>none
def JF(P:Program)(e:Operand->Option Value)(t:TypeId)(len:Nat)(parts:Array (Nat × Operand)):Option (TypeId × Array Value) :=
 match P.underlying t with
 | some (.slice el) =>
  match P.info? el with
  | some i =>
   match i.zero with
   | some z=>bif Ah0 len 0 && parts.toList.isEmpty then some (el,#[]) else bif (Nat.blt (2 ^ 24) (len*i.size)) || (Ah0 (len*i.size) 0) then none else
    (Instr.fill (λ j=>some (j*i.size,i.size)) ((Array.range (len*i.size)).map (z.cells[· % z.cells.size]!)) (parts.toList.map λ p=>(p.1,rho e p.2))).map λ c=>(el,c)
   | none=>none
  | none=>none
 | _=>none
def AaW(P:Program)(kp:XA)(e:Operand->Option Value)(o:Oper)(k:Value->World->Prop)(w:World):Prop :=
 match o.op with
 | .alloc t=>(match zeroOf P t with
  | some z=>Du z.cells t (λ b w'=>k (.pointer (some ⟨b,0,none⟩)) w') w
  | none=>False)
 | .box t x=>PB (e x) λ v=>Du v.cells t (λ b w'=>k (.pointer (some ⟨b,0,none⟩)) w') w
 | .buildSlice t len parts=>bif known e o then
   (match JF P e t len parts with
   | some (el,c)=>Du c el (λ b w'=>k (.slice (some ⟨b,0,none⟩) len len) w') w
   | none=>False) else False
 | .store t a x=>PB (e x) λ v=>AbL (e a) λ p=>bif Ah0 v.cells.size (P.cellsOf t) && UL P t then CL v.cells.toList p 0 (λ w'=>k undef w') w else False
 | .call c =>
  match c.callee with
  | .builtin b=>bif known e o then
    (match zeroOf P o.type with
    | some z=>(match b with
     | .append=>ZC P (Builtin.append_ c.argTypes o.type (c.args.map (rho e))) z k w
     | .copy=>ZC P (Builtin.copy_ c.argTypes o.type (c.args.map (rho e))) z k w
     | .len=>ZC P (Builtin.len_ c.argTypes o.type (c.args.map (rho e))) z k w
     | .clear=>ZC P (Builtin.clear_ c.argTypes o.type (c.args.map (rho e))) z k w
     | .delete=>ZC P (Builtin.delete_ c.argTypes o.type (c.args.map (rho e))) z k w
     | _=>False)
    | none=>False) else False
  | .value f =>
   (match XY e c.args.toList,zeroOf P o.type with
   | some vs,some z=>Af5 (e f) (λ g first captured=>bif enters P g then AgG P kp (Agn f) g ⟨first.toList++vs++captured.toList⟩ z k w else False) (λ l=>N0 P l ⟨vs⟩ (λ t w'=>k (.bool t) w') w)
   | _,_=>False)
  | .invoke _ _=>False
 | .convert s d x=>PB (e x) λ v=>(match zeroOf P o.type with
   | some z=>ZC P (convert s d v) z k w
   | none=>False)
 | .makeSlice t l c=>PB (e l) λ u=>PB (e c) λ v=>(match zeroOf P o.type with
   | some z=>ZC P (Instr.makeSlice t u v) z k w
   | none=>False)
 | .makeMap t none=>(match zeroOf P o.type with
   | some z=>ZC P (Instr.makeMap t none) z k w
   | none=>False)
 | .lookup t x i ok=>PB (e x) λ u=>PB (e i) λ v=>(match zeroOf P o.type with
   | some z=>ZC P (Instr.lookup t u v ok) z k w
   | none=>False)
 | .mapUpdate t m i x=>PB (e m) λ u=>PB (e i) λ v=>PB (e x) λ y=>ZD P (Instr.mapUpdate t u v y) (λ w'=>k undef w') w
 | .range t x=>PB (e x) λ u=>ZC P (Instr.range t u) (.pointer none) k w
 | .next i s=>PB (e i) λ u=>OPN P (Instr.next u s o.type) (λ w'=>k (.tuple #[.bool false]) w') (λ x y w'=>k (.tuple #[.bool true,x,y]) w') w
 | .entry i=>PB (e i) λ u=>(match zeroOf P o.type with
   | some z=>ZC P (Instr.entry u) z k w
   | none=>False)
 | .mapEntry t m i=>PB (e m) λ u=>PB (e i) λ v=>ZC P (Instr.mapEntry t u v) (.tuple #[.nilIface,.int .i64 0]) k w
 | .entryStore t m i x=>PB (e m) λ u=>PB (e i) λ v=>PB (e x) λ y=>ZD P (Instr.entryStore t u v y) (λ w'=>k undef w') w
 | .binOp op t x y _=>PB (e x) λ u=>PB (e y) λ v=>(match u,v with
   | .pointer p,.pointer q=>ZC P (binOp op t (.pointer p) (.pointer q)) (.bool false) k w
   | _,_=>False)
 | .panic x=>AgQ kp (e x) w
 | _=>False
inductive Cls where
 | pure | read | Afu
 deriving DecidableEq
def Ag3:Cls->Cls->Bool
 | .pure,.pure | .read,.read | .Afu,.Afu=>true
 | _,_=>false
def cls(P:Program)(o:Oper):Cls :=
 bif MX P o then .pure else match o.op with
  | .load _ _=>.read
  | _=>.Afu
def dOp(P:Program)(kp:XA)(e:Operand->Option Value)(o:Oper)(k:Value->Gp->World->Prop)(w:World):Prop :=
 match cls P o with
 | .pure=>AaX P e o λ v=>k v [] w
 | .read=>(match o.op with
  | .load t a=>Yt P t (e a) (λ v h=>k v h w) w
  | _=>False)
 | .Afu=>AaW P kp e o (λ v w'=>k v [] w') w
def AaU(P:Program)(d:Option Nat)(i:Nat):List Oper->Value
 | []=>.nilIface
 | o :: r =>
  match o.op with
  | .extract (.tmp t) j=>bif (match d with | some d=>Ah0 t d | none=>false) && Ah0 j i then (match zeroOf P o.type with | some z=>z | none=>.nilIface) else AaU P d i r
  | _=>AaU P d i r
def Agj(P:Program)(kp:XA)(e:Operand->Option Value)(o:Oper)(rest:List Oper)(k:Value->Gp->World->Prop)(w:World):Prop :=
 match o.op with
 | .entry i=>PB (e i) λ u=>ZC P (Instr.entry u) (.tuple #[AaU P o.dst 0 rest,AaU P o.dst 1 rest]) (λ v w'=>k v [] w') w
 | _=>dOp P kp e o k w
def P8(ops:Array Oper)(o:Oper)(fr:Fr)(A B:Fr->Prop):Prop :=
 match o.guard with
 | none=>A fr
 | some (j,want) =>
  match (ops[j]?).bind (·.dst) with
  | none=>False
  | some d =>
   match look fr d with
   | some (.bool b)=>ZB b (bif want then A ((d,.bool true) :: fr) else B ((d,.bool true) :: fr)) (bif want then B ((d,.bool false) :: fr) else A ((d,.bool false) :: fr))
   | some (.tuple _)=>B fr
   | _=>False
def Afa(P:Program)(kp:XA)(n:Nat)(ops:Array Oper):List Oper->Fr->(Fr->World->Prop)->World->Prop
 | [],fr,K,w=>K fr w
 | o :: rest,fr,K,w =>
  P8 ops o fr (λ fr=>Agj P kp (JH fr) o rest (λ v _ w'=>Afa P kp n ops rest (put n fr o.dst v) K w') w)
   (λ fr=>Afa P kp n ops rest (put n fr o.dst undef) K w)
/-! ## A region that draws its order -/
def SC(ops:Array Oper)(j:Nat):List Nat :=
 match ops[j]? with
 | some o=>(o.after.toList.filter λ e=>Region.binds .any e).map (·.on)
 | none=>[]
def IK(ops:Array Oper):Nat->List Nat->List Nat
 | 0,s=>s
 | k+1,s=>bif s.contains k then IK ops k (SC ops k++s) else IK ops k s
def EE(ops:Array Oper)(j:Nat):List Nat:=IK ops j (SC ops j)
def holds(h:Gp)(w:World):Prop :=
 match h with
 | []=>True
 | [x]=>w.cell? x.1=some x.2
 | x :: y :: r=>w.cell? x.1=some x.2/\holds (y :: r) w
def stands(ps:List Nat):List (Nat × Gp)->World->Prop->Prop
 | [],_,X=>X
 | s :: r,w,X=>bif ps.contains s.1 then stands ps r w X else holds s.2 w/\stands ps r w X
def kept(ps:List Nat)(held:List (Nat × Gp)):List (Nat × Gp):=held.filter λ s=>!ps.contains s.1
def Aa5(P:Program)(ops:Array Oper)(c:Cls)(i:Nat):Bool :=
 match ops[i]? with
 | some o=>Ag3 (cls P o) c
 | none=>false
def Agd:List Nat->(Nat->Prop)->Prop
 | [],_=>True
 | [i],f=>f i
 | i :: j :: r,f=>f i/\Agd (j :: r) f
def Mp(P:Program)(kp:XA)(n:Nat)(ops:Array Oper):Nat->Array Bool->List (Nat × Gp)->Fr->(Fr->World->Prop)->World->Prop
 | 0,listed,_,fr,K,w=>bif (Region.ready .any ops listed).isEmpty then K fr w else False
 | fuel+1,listed,held,fr,K,w =>
  match Region.ready .any ops listed with
  | []=>K fr w
  | i0 :: rs =>
   match (i0 :: rs).find? (Aa5 P ops .pure) with
   | some i =>
    (match ops[i]? with
    | some o=>bif Region.free .any ops listed i then
      P8 ops o fr (λ fr=>AaX P (JH fr) o λ v=>Mp P kp n ops fuel (listed.setIfInBounds i true) held (put n fr o.dst v) K w)
       (λ fr=>Mp P kp n ops fuel (listed.setIfInBounds i true) held (put n fr o.dst undef) K w) else False
    | none=>False)
   | none =>
    match (i0 :: rs).find? (Aa5 P ops .read) with
    | some i =>
     (match ops[i]? with
     | some o=>bif Region.free .any ops listed i then
       P8 ops o fr (λ fr=>(match o.op with
         | .load t a=>Yt P t (JH fr a) (λ v h=>Mp P kp n ops fuel (listed.setIfInBounds i true) ((i,h) :: held) (put n fr o.dst v) K w) w
         | _=>False))
        (λ fr=>Mp P kp n ops fuel (listed.setIfInBounds i true) held (put n fr o.dst undef) K w) else False
     | none=>False)
    | none =>
     Agd (i0 :: rs) λ j =>
      match ops[j]? with
      | some o =>
       P8 ops o fr (λ fr=>AaW P kp (JH fr) o (λ v w' =>
         stands (EE ops j) held w' (Mp P kp n ops fuel (listed.setIfInBounds j true) (kept (EE ops j) held) (put n fr o.dst v) K w')) w)
        (λ fr=>Mp P kp n ops fuel (listed.setIfInBounds j true) (kept (EE ops j) held) (put n fr o.dst undef) K w)
      | none=>False
/-! ## Code -/
structure Hint where
 DD:List (Nat × Value)
 keep:List Nat
abbrev Hints:=List (Nat × Hint)
def TE:Hints->Option Nat->Option Hint
 | _,none=>none
 | [],_=>none
 | x :: r,some i=>bif Ah0 x.1 i then some x.2 else TE r (some i)
def Cc:Code->Option Nat
 | .region id _ _=>some id
 | .seq a b=>(Cc a).or (Cc b)
 | .cond _ a b=>(Cc a).or (Cc b)
 | .block _ c=>Cc c
 | .loop c=>Cc c
 | .scope c=>Cc c
 | .rangeFunc _ _ a b=>(Cc a).or (Cc b)
 | _=>none
def CB(i:Nat):List Oper->Bool
 | []=>false
 | o :: r=>(match o.dst with | some d=>Ah0 d i | none=>false) || CB i r
def writes(i:Nat):Code->Bool
 | .skip | .label _ | .exit _ | .ret=>false
 | .region _ ops _=>CB i ops.toList
 | .seq a b=>writes i a || writes i b
 | .cond _ a b=>writes i a || writes i b
 | .block _ c=>writes i c
 | .loop c=>writes i c
 | .scope c=>writes i c
 | .rangeFunc _ _ _ _=>false
 | _=>true
def Bi:Code->Bool
 | .seq a b=>Bi a && Bi b
 | .cond _ a b=>Bi a && Bi b
 | .block _ c=>Bi c
 | .loop c=>Bi c
 | .scope c=>Bi c
 | .rangeFunc _ _ _ _=>false
 | _=>true
def Ib:Code->Bool
 | .ret=>true
 | .seq a b=>Ib a || Ib b
 | .cond _ a b=>Ib a || Ib b
 | .block _ c=>Ib c
 | .loop c=>Ib c
 | .scope c=>Ib c
 | .rangeFunc _ _ _ b=>Ib b
 | _=>false
def GO(lR:List Nat):Code->List Nat
 | .exit id=>bif lR.contains id then [] else [id]
 | .seq a b=>GO lR a++GO lR b
 | .cond _ a b=>GO lR a++GO lR b
 | .block id c=>GO (id :: lR) c
 | .loop c=>GO lR c
 | .scope c=>GO lR c
 | .rangeFunc _ _ _ b=>GO lR b
 | _=>[]
def WD:List Nat->List Nat
 | []=>[]
 | x :: r=>bif (WD r).contains x then WD r else x :: WD r
def Sv(c:Code):List (Option Code × Exit) :=
 (none,.normal) :: ((bif Ib c then [(some .ret,.ret)] else [])++(WD (GO [] c)).map λ i=>(some (.exit i),.exit i))
def orJ(j:Option Code)(f:Exit->Prop):List (Option Code × Exit)->Prop
 | []=>False
 | [x]=>j=x.1/\f x.2
 | x :: y :: r=>(j=x.1/\f x.2)\/orJ j f (y :: r)
def OI(fr:Fr):List (Nat × Value)->Option (List Value)
 | []=>some []
 | x :: r=>match look fr x.1,OI fr r with
  | some v,some vs=>some (v :: vs)
  | _,_=>none
def ENT(DD:List (Nat × Value))(fr:Fr)(k:List Value->Prop):Prop :=
 match OI fr DD with
 | some s=>bif Mr (DD.map (·.2)) s then k s else False
 | none=>False
def Ji(fr:Fr):List Nat->Fr
 | []=>[]
 | i :: r=>match look fr i with
  | some v=>(i,v) :: Ji fr r
  | none=>Ji fr r
def HV(DD:List (Nat × Value))(s:List Value)(rest:Fr):Fr :=
 match DD,s with
 | m :: ms,v :: vs=>(m.1,v) :: HV ms vs rest
 | _,_=>rest
def MY(c:Code)(keep:List Nat):Bool:=keep.all λ i=>!writes i c
def AgN(zs:List Value)(body:List Value->(List Value->World->Prop)->World->Prop)(uK:(List Value->Prop)->Prop)(w:World):Prop :=
 ∃(Inv:List Value->World->Prop) (mu:List Value->World->Nat),uK (λ s=>Inv s w) /\
  Wl zs λ s=>∀ w,Inv s w->body s (λ s' w'=>Inv s' w'/\mu s' w'<mu s w) w
def Ahx(zs:List Value)(before:(List Value->World->Prop)->Prop)(behind:List Value->World->Prop):Prop :=
 ∃ Y:List Value->World->Prop,before Y/\Wl zs λ s=>∀ w,Y s w->behind s w
def AgM(zs:List Value)(body:List Value->List Nat->(List Value->List Nat->World->Prop)->World->Prop)(uK:(List Value->Prop)->Prop)(ms:List Nat)(w:World):Prop :=
 ∃(Inv:List Value->List Nat->World->Prop) (mu:List Value->World->Nat),uK (λ s=>Inv s ms w) /\
  Wl zs λ s=>∀ ms w,Inv s ms w->body s ms (λ s' aw w'=>Inv s' aw w'/\mu s' w'<mu s w) w
def Ahw(zs:List Value)(before:(List Value->List Nat->World->Prop)->Prop)(behind:List Value->List Nat->World->Prop):Prop :=
 ∃ Y:List Value->List Nat->World->Prop,before Y/\Wl zs λ s=>∀ ms w,Y s ms w->behind s ms w
/-! ## A range over a function -/
def PD(rr:Loop)(l:Nat)(k:World->Prop)(w:World):Prop :=
 w.heap[l]?=some (.loop rr)/\k (w.putObj l (.loop { rr with state:=.busy }))
def FO(rr:Loop)(l:Nat)(k:Bool->World->Prop)(j:Option Code)(w:World):Prop :=
 w.heap[l]?=some (.loop { rr with state:=.busy })/\k j.isNone (w.putObj l (.loop { rr with state:=if j.isNone then .ready else .done,pending:=j }))
def PG(rr:Loop)(l:Nat)(k:Option Code->World->Prop)(w:World):Prop :=
 ∃ j,w.heap[l]?=some (.loop { rr with state:=if j.isNone then .ready else .done,pending:=j })/\k j (w.putObj l (.loop { rr with state:=.exhausted,pending:=j }))
def Adi(P:Program)(zs:List Value)(su:Loop->Nat->List Value->(Option Code->World->Prop)->World->Prop)(f:FuncId)(fi ca:Array Value)(K:Option Code->World->Prop)(rr:Loop)(l:Nat)(w:World):Prop :=
 (Wl zs λ vs=>∀(k:Bool->World->Prop) (w:World),w.heap[l]?=some (.loop rr)->su rr l vs (FO rr l k) w->N0 P l ⟨vs⟩ k w) ->
  Calls P f ⟨fi.toList++[.func (.yield l) #[] #[]]++ca.toList⟩ w λ e w'=>(∃ v,e=.returned v)/\PG rr l K w'
def AgS(P:Program)(rd:Option Nat)(zs:List Value)(v:Option Value)(su:Loop->Nat->List Value->(Option Code->World->Prop)->World->Prop)(K:List Nat->Option Code->World->Prop)(w:World):Prop :=
 Af6 v λ f fi ca=>enters P f=true /\
  match rd with
  | none=>∀ rr:Loop,rr.state=.ready->rr.pending=none->Adi P zs su f fi ca (K [w.heap.size]) rr (w.heap.size+1) ((w.alloc (.deferred (some []))).alloc (.loop rr))
  | some lo=>(∃ ro,w.heap[lo]?=some (.loop ro))/\∀ rr:Loop,rr.state=.ready->rr.pending=none->Adi P zs su f fi ca (K []) rr w.heap.size (w.alloc (.loop rr))
def M5(n:Nat)(fr:Fr):List Nat->List Value->Fr
 | p :: ps,v :: vs=>M5 n (put n fr (some p) v) ps vs
 | _,_=>fr
def TT:List Nat->List Nat->Bool
 | [],[]=>true
 | x :: r,y :: s=>Ah0 x y && TT r s
 | _,_=>false
def VO(C:Hints)(p:List PanicEntry->World->Prop):XA :=
 match TE C (some 1000000) with
 | none=>none
 | some _=>some p
def den(P:Program)(n:Nat)(L C:Hints):Code->Option Nat->(Exit->Fr->List Nat->World->Prop)->Fr->List Nat->World->Prop
 | .skip,_,K,fr,ms,w=>K .normal fr ms w
 | .label _,_,K,fr,ms,w=>K .normal fr ms w
 | .exit id,_,K,fr,ms,w=>K (.exit id) fr ms w
 | .ret,_,K,fr,ms,w=>K .ret fr ms w
 | .seq a b,rd,K,fr,ms,w =>
  match TE C (Cc b) with
  | none=>den P n L C a rd (λ e ag aw w'=>match e with
    | .normal=>den P n L C b rd K ag aw w'
    | e=>K e ag aw w') fr ms w
  | some h=>bif MY a h.keep then
    (bif Bi a then
     Ahx (h.DD.map (·.2)) (λ Y=>den P n L C a rd (λ e ag aw w'=>match e with
      | .normal=>ENT h.DD ag λ s=>Y s w'
      | e=>K e ag aw w') fr ms w) (λ s w'=>den P n L C b rd K (HV h.DD s (Ji fr h.keep)) ms w')
    else
     Ahw (h.DD.map (·.2)) (λ Y=>den P n L C a rd (λ e ag aw w'=>match e with
      | .normal=>ENT h.DD ag λ s=>Y s aw w'
      | e=>K e ag aw w') fr ms w) (λ s aw w'=>den P n L C b rd K (HV h.DD s (Ji fr h.keep)) aw w'))
   else False
 | .cond c a b,rd,K,fr,ms,w =>
  (match JH fr c with
  | some (.bool t)=>(match c with
   | .tmp i=>ZB t (den P n L C a rd K ((i,.bool true) :: fr) ms w) (den P n L C b rd K ((i,.bool false) :: fr) ms w)
   | _=>ZB t (den P n L C a rd K fr ms w) (den P n L C b rd K fr ms w))
  | _=>False)
 | .block id c,rd,K,fr,ms,w=>den P n L C c rd (λ e ag aw w'=>match e with
   | .exit j=>bif Ah0 j id then K .normal ag aw w' else K (.exit j) ag aw w'
   | e=>K e ag aw w') fr ms w
 | .loop c,rd,K,fr,ms,w =>
  (match TE L (Cc c) with
  | none=>False
  | some h=>bif MY c h.keep then
    (bif Bi c then
     AgN (h.DD.map (·.2)) (λ s k w'=>den P n L C c rd (λ e ag aw cQ=>match e with
      | .normal=>ENT h.DD ag λ s'=>k s' cQ
      | e=>K e ag aw cQ) (HV h.DD s (Ji fr h.keep)) ms w') (ENT h.DD fr) w
    else
     AgM (h.DD.map (·.2)) (λ s aw k w'=>den P n L C c rd (λ e ag rS cQ=>match e with
      | .normal=>ENT h.DD ag λ s'=>k s' rS cQ
      | e=>K e ag rS cQ) (HV h.DD s (Ji fr h.keep)) aw w') (ENT h.DD fr) ms w)
   else False)
 | .scope c,rd,K,fr,ms,w=>den P n L C c rd (λ e ag aw w'=>match e with
   | .goto _=>False
   | e=>K e ag aw w') fr ms w
 | .region _ ops false,_,K,fr,ms,w=>Afa P (VO C λ ch w'=>K (.panic ch) [] ms w') n ops ops.toList fr (λ ag w'=>K .normal ag ms w') w
 | .region _ ops true,_,K,fr,ms,w=>bif Region.noSelect ops then PF (λ w'=>Mp P (VO C λ ch w'=>K (.panic ch) [] ms w') n ops ops.size (Array.replicate ops.size false) [] fr (λ ag cQ=>K .normal ag ms cQ) w') w else False
 | .rangeFunc g ps assign body,rd,K,fr,ms,w =>
  (match TE L ((Cc assign).or (Cc body)) with
  | none=>False
  | some h=>bif TT (h.DD.map (·.1)) ps.toList && Bi assign then
    AgS P rd (h.DD.map (·.2)) (JH fr g)
     (λ rr l vs c w'=>den P n L C assign (some l) (λ e pw _ w1=>match e with
      | .normal=>PD rr l (λ w2=>den P n L C body (some l) (λ e _ _ w3=>match e with
       | .normal=>c none w3
       | .ret=>c (some .ret) w3
       | .exit i=>c (some (.exit i)) w3
       | _=>False) pw [] w2) w1
      | _=>False) (M5 n fr ps.toList vs) [] w')
     (λ aw j w'=>orJ j (λ e=>K e fr (aw++ms) w') (Sv body)) w
   else False)
 | _,_,_,_,_,_=>False
/-! ## A function -/
def SY:Nat->List Value->Fr
 | _,[]=>[]
 | i,v :: vs=>(i,v) :: SY (i+1) vs
def AcB(P:Program)(fr:Fr):List ResultVar->(List Value->World->Prop)->World->Prop
 | [],k,w=>k [] w
 | .tmp t :: r,k,w=>PB (look fr t) λ v=>AcB P fr r (λ vs w=>k (v :: vs) w) w
 | .cell a t :: r,k,w=>Yt P t (look fr a) (λ v _=>AcB P fr r (λ vs w=>k (v :: vs) w) w) w
def Fc:List Value->Value
 | [v]=>v
 | vs=>.tuple ⟨vs⟩
def Ae1:List Nat->(World->Prop)->World->Prop
 | [],k,w=>k w
 | d :: ds,k,w=>w.heap[d]?=some (.deferred (some []))/\Ae1 ds k (w.putObj d (.deferred none))
def Agi(P:Program)(L C:Hints)(f:FuncId)(args:List Value)(k:Value->World->Prop)(w:World):Prop :=
 match P.funcs[f]? with
 | some fn =>
  (match fn.body with
  | some c=>bif Nat.ble args.length fn.ntmps then den P fn.ntmps L C c none (λ e fr ms w'=>match e with
    | .normal=>Ae1 ms (λ w'=>AcB P fr fn.results.toList (λ vs cQ=>k (Fc vs) cQ) w') w'
    | .ret=>Ae1 ms (λ w'=>AcB P fr fn.results.toList (λ vs cQ=>k (Fc vs) cQ) w') w'
    | _=>False) (SY 0 args) [] w else False
  | none=>False)
 | none=>False
theorem wrap_u8(n:Int):IntKind.u8.wrap n=n % 256:=by simp [IntKind.wrap,IntKind.signed,IntKind.bits]
theorem wrap_u32(n:Int):IntKind.u32.wrap n=n % 4294967296:=by simp [IntKind.wrap,IntKind.signed,IntKind.bits]
theorem wrap_u64(n:Int):IntKind.u64.wrap n=n % 18446744073709551616:=by simp [IntKind.wrap,IntKind.signed,IntKind.bits]
theorem CQ(n:Int):IntKind.i64.wrap n=if n % 18446744073709551616>=9223372036854775808 then n % 18446744073709551616-18446744073709551616 else n % 18446744073709551616:=by
 simp [IntKind.wrap,IntKind.signed,IntKind.bits]
theorem wrap_i64{n:Int}(h1 : -9223372036854775808<=n)(h2:n<=9223372036854775807):IntKind.i64.wrap n=n:=by
 rw [CQ];split <;> omega
theorem AG{n:Int}(h1:0<=n)(h2:n<256):IntKind.u8.wrap n=n:=by rw [wrap_u8];omega
theorem Ry{n:Int}(h1:0<=n)(h2:n<4294967296):IntKind.u32.wrap n=n:=by rw [wrap_u32];omega
theorem Aj{n:Int}(h1:0<=n)(h2:n<18446744073709551616):IntKind.u64.wrap n=n:=by rw [wrap_u64];omega
theorem Bp(x:BitVec 32):IntKind.u32.wrap (x.toNat:Int)=(x.toNat:Int):=Ry Omg (by have:=x.isLt;omega)
theorem Bk{n:Nat}(x:BitVec n):AhZ n (x.toNat:Int)=x:=by
 rw [BitVec.ofInt_natCast,BitVec.ofNat_toNat,BitVec.setWidth_eq]
theorem Aaf{n:Nat}(z:Int):AhZ n (z % (2 ^ n:Nat))=AhZ n z:=by
 apply BitVec.eq_of_toInt_eq;simp only [BitVec.toInt_ofInt];exact Int.emod_bmod _ _
theorem Cn(z:Int):AhZ 32 (IntKind.u32.wrap z)=AhZ 32 z:=by
 rw [wrap_u32];exact Aaf (n:=32) z
theorem Aag{n:Nat}(z:Int):AhZ n (0-z) =-AhZ n z:=by
 rw [Int.zero_sub];exact BitVec.ofInt_neg
theorem I7{n:Nat}(x:BitVec n)(k:Nat):Int.fdiv (x.toNat:Int) (2 ^ k)=((x >>> k).toNat:Int):=by
 rw [Int.fdiv_eq_ediv_of_nonneg _ (by exact Int.pow_nonneg Ode)];rw [BitVec.toNat_ushiftRight,Nat.shiftRight_eq_div_pow]
 norm_cast
end Go.Dn
namespace Go.Dn
open _root_.Array renaming ext' -> Ah4
open _root_.Bool renaming and_eq_true -> Ah1
open _root_.Int renaming le_trans -> Ah2
open _root_.Nat renaming beq -> Ah0, eq_of_beq_eq_true -> Ah5
open _root_.Prod.mk renaming injEq -> Ah3
def SV(Q:Value->World->Prop):Ending->World->Prop:=λ e w=>∃ v,e=.returned v/\Q v w
theorem Aa{p:Prop}[Decidable p]{A B:Prop}(h1:p->A)(h2:¬ p->B):ZB (decide p) A B:=by
 by_cases h:p
 ·simp only [h,decide_true];exact h1 h
 ·simp only [h,decide_false];exact h2 h
theorem Aq{b:Bool}{A B:Prop}(h1:b=true->A)(h2:b=false->B):ZB b A B:=by
 cases b
 ·exact h2 rfl
 ·exact h1 rfl
theorem Ap{a b:Int}{A B:Prop}(h1:a=b->A)(h2:a≠b->B):ZB (a==b) A B :=
 Aq (λ h=>h1 (by simpa using h)) (λ h=>h2 (by simpa using h))
theorem Ai{a b:Int}{A B:Prop}(h1:a≠b->A)(h2:a=b->B):ZB (a != b) A B :=
 Aq (λ h=>h1 (by simpa using h)) (λ h=>h2 (by simpa using h))
theorem As{b:Bool}{A B:Prop}(h:ZB b B A):ZB (!b) A B:=by cases b <;> exact h
theorem CG{A B:Prop}(h:A):ZB true A B:=h
theorem AN{A B:Prop}(h:B):ZB false A B:=h
theorem Ae{k:Nat}(h:k<9223372036854775807):IntKind.i64.wrap ((k:Int)+1)=((k+1:Nat):Int):=by
 rw [wrap_i64 Omg Omg];omega
variable {H:Type}{enc:TypeId × Value->H}
theorem Hx{a:Assume}{C:Checked}{os:Os}{f:FuncId}{fn:Func}{s:ChangeSpec}{conds:List PathCond}{apart fresh handsOn again:Bool}{X:World->Array Value->Prop}
  (hX:∀(w w':World) (args:Array Value),w.heap=w'.heap->X w args->X w' args)
  (own:ownKnob C.prog.godebug=none) (started:os.Started) (oV:C.prog.inits.idxOf? f=none) (nW:C.prog.funcs[f]?=some fn)
  (witness:∃(w:World) (tape:Tape) (i:Input),w.os=os/\(w.forCall tape i).Shaped C.prog/\i.vars=[]/\Input.okWide C.prog (w.forCall tape i) .any w.heap.size f i /\
   ((s.pre enc C.prog fn conds apart (w.forCall tape i).memory i.args/\X (w.forCall tape i).memory i.args)/\sizedMet enc C.prog fn (OpenSpec.ofChange s) apart (w.forCall tape i).memory i.args)/\a.holds C.prog (lone (Frame.enter C.prog f i.args .normal) [] (w.forCall tape i)))
  (fP:∀(W:World) (base:Nat) (args:Array Value) (ds gs:List (DataW H)) (before:List MemPlace),
   (∀(j:Nat) t v,fn.params[j]?=some t->args[j]?=some v->Value.okWide C.prog W .any base t v) ->
   DataW.Whole enc C.prog fn.params.toList s.vars apart W args.toList ds gs before ->
   (DataW.weightsEach C.prog (fn.params.toList++s.plain.varTypes C.prog) (ds++gs)).all (·<=reachBytes)=true->X W args->W.ShapedOpen C.prog ->
   Calls C.prog f args W λ e W'=>∃ v,e=.returned v/\s.post enc C.prog fn apart fresh handsOn again W args v W') :
  ReturnsInHanded a C os f .any (λ w args=>(s.pre enc C.prog fn conds apart w args/\X w args)/\sizedMet enc C.prog fn (OpenSpec.ofChange s) apart w args) (s.post enc C.prog fn apart fresh handsOn again):=by
 refine returnsInHanded_of_calls own started oV witness ?_;intro w tape i _ lM _ aK cl _;obtain⟨_,_,_,fn',hfn',_,_,_,_,bS⟩:=aK;have e:fn'=fn:=Option.some.inj (hfn'.symm.trans nW);subst e;obtain⟨⟨⟨ds,gs,before,hw,hc⟩,hx⟩,hz⟩:=cl;have lP:=DataW.Whole.of_heap (w':=w.forCall tape i) (by rfl) hw;refine (fP (w.forCall tape i) w.heap.size i.args ds gs before bS lP (hz.weights hw) (hX _ _ _ (by rfl) hx) lM).mono λ e W' ⟨v,he,hp⟩=>?_;subst he;exact ChangeSpec.post_blind hp
theorem U4{P:Program}{ts:List TypeId}{ds:List (DataW H)}(hZ:(DataW.weightsEach P ts ds).all (·<=reachBytes)=true){j:Nat}{t e:TypeId}{d:DataW H}(ht:ts[j]?=some t)(hd:ds[j]?=some d)(hu:P.underlying t=some (.slice e))
  {W:World} {base fuel:Nat} {held:Bool} {a:Option Addr} {l c:Nat} {p:List MemPlace} (hf:DataW.trod enc P W base (λ _=>true) held fuel t (Value.slice a l c).cells.toList=some (d,p)):c*P.bytesOf e<=reachBytes:=by
 rcases DataW.trod_slice hu hf with ⟨hc,_⟩ | ⟨a',len,cap,elems,rest,n,_,hc,hx,_,hl,_,hlen,_,oJ,_⟩
 ·have:[Value.slice a l c]=[Value.slice none 0 0]:=hc;simp at this;rw [this.2.2];simp
 ·have dV:[Value.slice a l c]=[Value.slice (some a') len cap]:=hc;simp only [List.cons.injEq,Value.slice.injEq,and_true] at dV;obtain⟨_,rfl,rfl⟩:=dV;simp only [Ah3] at hx;rw [hx.1] at hd;have:=sized_slice hZ ht hd hu;rw [List.length_map,List.length_map,hlen,(oJ rfl).1] at this;have e:l+(c-l)=c:=Omg;rwa [e] at this
theorem Acj{P:Program}{f:FuncId}{fn:Func}{s:ChangeSpec}{c:OpenClaim}(h1:c.wf (OpenSpec.ofChange s)=true)(h2:laidOutB P=true)(h3:mapsRowed P=true)(h4:fn.params.all (P.readableRec ·)=true)(h5:namedTie P c.named s.vars=true)
  (h6:((c.stops==[]) && (P.stops==[]) && (c.knobs==[]) && (P.stopKnobs==[]))=true) (h7:(c.inPlace==P.inPlace f)=true) (h8:(c.unfollowed==P.unfollowed f)=true) (h9:(c.recurses==P.recurses f)=true) (mi:(c.named==P.varsNamed f)=true)
  (mj:((c.maps==(fn.params.toList++s.plain.varTypes P).any (P.mapsRec ·)) && (c.ifaces==(fn.params.toList++s.plain.varTypes P).any (P.ifacesRec ·)) && (c.mapsOut==P.mapsAmong fn.resultTypes.toList))=true)
  (fI:(c.loops==(fn.params.toList++s.plain.varTypes P).any (P.loopsFrom ·))=true) (kK:(c.wideKeys==(fn.params.toList++s.plain.varTypes P++fn.resultTypes.toList).any (P.wideKeysFrom ·))=true)
  (gh:(s.vars.all (P.varReadable ·) && fn.resultTypes.all (λ t=>P.readableRec t && decide (t<P.types.size)) && (c.ifacesOut==fn.resultTypes.toList.any (P.ifacesRec ·)) && (c.loopsOut==fn.resultTypes.toList.any (P.loopsFrom ·)))=true)
  (fJ:(c.plainKeys==P.plainKeys)=true) (gi:(c.shortTexts.isNone && P.stopsHeard && P.mayEnter && (c.lifted==P.liftsFinal) && (P.make==some c.make) && (c.pinned==c.pinnedBy))=true) (hk:c.domain.isEmpty=true) (ay:(c.kinds==[])=true)
  (fQ:(c.veiled==(fn.params.toList++s.plain.varTypes P++fn.resultTypes.toList).any (P.veiledRec ·))=true) (gj:c.veiledFits P fn.params.toList (fn.params.toList++s.plain.varTypes P++fn.resultTypes.toList)=true):joinedFacts P f fn s c=true:=by
 unfold joinedFacts;simp only [Ah1] at *;simp only [h1,h2,h3,h4,h5,h6,h7,h8,h9,mi,mj,fI,kK,gh,fJ,gi,fQ,gj,hk,ay,if_true,and_self]
theorem LF{z:Value}{f:Value->Prop}(h:Vc z f):∃ v,f v:=by
 unfold Vc at h;split at h
 all_goals first
  | (obtain⟨a,b,c,h⟩:=h;exact⟨_,h⟩)
  | (obtain⟨a,h⟩:=h;exact⟨_,h⟩)
theorem AbJ{z:Value}{f:Value->Prop}(h:Ac7 z f):∃ v,f v:=by
 unfold Ac7 at h;split at h
 ·rcases h with ⟨a,b,c,h⟩ | ⟨l,h⟩
  ·exact⟨_,h⟩
  ·exact⟨_,h⟩
 ·exact LF h
theorem PH:∀ {zs:List Value} {f:List Value->Prop},Fh zs f->∃ vs,vs.length=zs.length/\f vs
 | [],_,h=>⟨[],rfl,h⟩
 | _ :: _,_,h=>by
  obtain⟨v,h⟩:=LF h;obtain⟨vs,hl,h⟩:=PH h;exact⟨v :: vs,by simp [hl],h⟩
theorem Xx{z:Value}{f:Value->Prop}(h:AeY z f):∃ v,f v:=by
 unfold AeY at h;split at h
 ·obtain⟨vs,_,h⟩:=PH h;exact⟨_,h⟩
 ·exact LF h
theorem Ve:∀ {zs:List Value} {f:List Value->Prop},Ac6 zs f->∃ vs,f vs
 | [],_,h=>⟨[],h⟩
 | _ :: _,_,h=>by
  obtain⟨v,h⟩:=Xx h;obtain⟨vs,h⟩:=Ve h;exact⟨v :: vs,h⟩
theorem PI{z:Value}{f:Value->Prop}(h:Xw z f):∃ v,f v:=by
 unfold Xw at h;split at h
 ·obtain⟨vs,h⟩:=Ve h;exact⟨_,h⟩
 ·exact Xx h
theorem Vd{d:Bool}{z:Value}{f:Value->Prop}(h:AaO d z f):∃ v,f v:=by
 unfold AaO at h;split at h
 ·split at h
  ·rcases h with ⟨_,_,_,h⟩ | h <;> exact⟨_,h⟩
  ·exact PI h
 ·exact PI h
theorem Kw{a b:IntKind}(h:Er a b=true):a=b:=by
 cases a <;> cases b <;> first | rfl | (simp [Er] at h)
theorem YW{α:Type}{P:Program}(s:Sem α):∀ {v:α},HZ P s=some v->∀ w,s.run P w=.ok v w:=by
 induction s with
 | pure a=>intro v h w;simp [HZ] at h;subst h;rfl
 | program k ih=>intro v h w;simp only [HZ] at h;simp only [Sem.run];exact ih P h w
 | mark m k ih=>intro v h w;simp only [HZ] at h;simp only [Sem.run];exact ih h w
 | _=>intro v h;simp [HZ] at h
theorem BI{x:Option Value}{k:Value->Prop}(h:PB x k):∃ v,x=some v/\k v:=by
 cases x with
 | none=>exact h.elim
 | some v=>exact⟨v,rfl,h⟩
theorem NZ{p:Option Addr}{k:Addr->Prop}(h:Av p k):∃ a,p=some a/\k a:=by
 cases p with
 | none=>exact h.elim
 | some a=>exact⟨a,rfl,h⟩
theorem NY{x:Option Value}{k:Addr->Prop}(h:AbL x k):∃ a,x=some (.pointer (some a))/\k a:=by
 unfold AbL at h;split at h
 ·obtain⟨a,rfl,h⟩:=NZ h;exact⟨a,rfl,h⟩
 ·exact h.elim
theorem Aby{x:Option Value}{k:Bool->Prop}(h:Ac0 x k):∃ b,x=some (.bool b)/\k b:=by
 unfold Ac0 at h;split at h
 ·exact⟨_,rfl,h⟩
 ·exact h.elim
theorem NT{x:Option Value}{k:IntKind->Int->Prop}(h:AbH x k):∃ kd n,x=some (.int kd n)/\k kd n:=by
 unfold AbH at h;split at h
 ·exact⟨_,_,rfl,h⟩
 ·exact h.elim
theorem JO{P:Program}{t:TypeId}{d:TypeDesc}(h:P.underlying t=some d)(w:World):(underlying t).run P w=.ok d w:=by
 simp [underlying,h]
theorem YZ{P:Program}{t:TypeId}(h:P.cellsOf t≠0)(w:World):(sizeOf t).run P w=.ok (P.cellsOf t) w:=by
 unfold Program.cellsOf at h ⊢;cases hi:P.info? t with
 | none=>simp [hi] at h
 | some i=>simp [sizeOf,typeInfo,hi]
section
variable {P:Program}{e:Operand->Option Value}{ρ:Operand->Value}
theorem ZJ{op:BinOp}{k k':IntKind}{a b:Int}{K:Value->Prop}(t:TypeId)(h:Q9 op k k' a b K) :
  ∃ v,K v/\∀ w,(binOp op t (.int k a) (.int k' b)).run P w=.ok v w:=by
 unfold Q9 at h;split at h
 ·obtain⟨h0,h⟩:=h;exact⟨_,h,λ w=>by simp [binOp,Op.shift,Int.not_lt.2 h0]⟩
 ·obtain⟨h0,h⟩:=h;exact⟨_,h,λ w=>by simp [binOp,Op.shift,Int.not_lt.2 h0]⟩
 ·rename_i op fB iA;cases hk:Er k k' with
  | false=>simp [hk] at h
  | true =>
   simp only [hk,cond_true] at h;have:=Kw hk;subst this;split at h
   case h_4=>obtain⟨h0,h⟩:=h;exact⟨_,h,λ w=>by simp [binOp,Op.intDiv,h0]⟩
   case h_5=>obtain⟨h0,h⟩:=h;exact⟨_,h,λ w=>by simp [binOp,Op.intDiv,h0]⟩
   case h_16=>exact h.elim
   all_goals exact⟨_,h,λ w=>by simp [binOp,Op.intArith,Op.intBits,Op.intCmp]⟩
theorem WR{op:BinOp}{k k':IntKind}{a b:Int}{K:Value->Prop}(h:Z7 op k k' a b K):Q9 op k k' a b K:=by
 unfold Z7 at h;split at h
 ·by_cases hb:0<=b
  ·simp only [hb,decide_true,cond_true] at h;exact⟨hb,h⟩
  ·simp [hb] at h
 ·by_cases hb:0<=b
  ·simp only [hb,decide_true,cond_true] at h;exact⟨hb,h⟩
  ·simp [hb] at h
 ·by_cases hb:b=0
  ·simp [hb] at h
  ·simp only [hb,decide_false,cond_false] at h;unfold Q9;cases hk:Er k k' <;> simp only [hk,cond_true,cond_false] at h ⊢;exact⟨hb,h⟩
 ·by_cases hb:b=0
  ·simp [hb] at h
  ·simp only [hb,decide_false,cond_false] at h;unfold Q9;cases hk:Er k k' <;> simp only [hk,cond_true,cond_false] at h ⊢;exact⟨hb,h⟩
 ·exact h
theorem ZK{op:BinOp}{a b:ByteArray}{K:Value->Prop}(t:TypeId)(h:AeB op a b K) :
  ∃ v,K v/\∀ w,(binOp op t (.string a) (.string b)).run P w=.ok v w:=by
 unfold AeB at h;split at h
 case h_1 =>
  obtain⟨h0,h⟩:=h;refine⟨_,h,λ w=>?_⟩;have h1:¬ (((a.size+b.size:Nat):Int) > IntKind.i64.max):=by
   have:IntKind.i64.max=9223372036854775807:=Ode;rw [this];omega
  simp only [binOp,Op.stringOp,h1,if_false];rfl
 case h_8=>exact h.elim
 all_goals exact⟨_,h,λ w=>by simp [binOp,Op.stringOp,A1,Ex]⟩
theorem AdO{op:BinOp}{t:TypeId}{x y:Operand}{k k':IntKind}{a b:Int}(w:World):(eqGuard op t x y (.int k a) (.int k' b)).run P w=.ok () w:=by
 cases op <;> simp [eqGuard]
theorem AdP{op:BinOp}{t:TypeId}{x y:Operand}{a b:ByteArray}(w:World):(eqGuard op t x y (.string a) (.string b)).run P w=.ok () w:=by
 cases op <;> simp [eqGuard]
theorem VP{t:TypeId}{cs:Array Value}{off:Nat}{v:Value}(h:YF P t cs off=some v)(hc:P.info? t≠none)(w:World):(part t cs off).run P w=.ok v w:=by
 obtain⟨i,hi⟩:=Option.ne_none_iff_exists'.1 hc;unfold YF at h;unfold part isAgg;split at h
 ·rename_i hu;simp [Program.cellsOf,hi] at h;simp [underlying,hu,sizeOf,typeInfo,hi,h]
 ·rename_i hu;simp [underlying,hu,h]
 ·rename_i hu;simp [underlying,hu,h]
 ·rename_i hu;simp [underlying,hu,h]
 ·cases h
theorem XW{d:Nat}{xs ys:Array Value}(ih:∀ t x y b,eqV P d t x y=some b->∀ m w,d<=m->(Op.equalIn m t x y).run P w=.ok b w) :
  ∀(fs:List Field) (b:Bool),AdH P (eqV P d) xs ys fs=some b->∀ m w,d<=m->(Op.eqFields m xs ys fs).run P w=.ok b w
 | [],b,h,m,w,_=>by simp [AdH] at h;subst h;simp [Op.eqFields]
 | f :: fs,b,h,m,w,hm=>by
  unfold AdH at h;cases hn : f.name == "_" with
  | true=>simp [hn] at h
  | false =>
   simp only [hn,cond_false] at h;split at h
   ·rename_i x y hx hy;split at h
    ·rename_i b1 c1 hb hc;have aQ : f.name ≠ "_" := by simpa using hn
     have hu:P.info? f.type≠none:=by
      intro qz;have:P.underlying f.type=none:=by simp [Program.underlying,qz]
      simp [YF,this] at hx
     simp only [Op.eqFields,aQ,ne_eq,not_false_eq_true,if_true,Sem.run_bind,VP hx hu,VP hy hu,Result.andThen_ok,ih _ _ _ _ hb m w hm];have h2:=XW ih fs c1 hc m w hm;simp at h;subst h;cases b1
     ·simp
     ·simp [h2]
    ·cases h
   ·cases h
theorem AaZ:∀(d:Nat) (t:TypeId) (x y:Value) (b:Bool),eqV P d t x y=some b->∀ m w,d<=m->(Op.equalIn m t x y).run P w=.ok b w
 | 0,_,_,_,_,h,_,_,_=>by simp [eqV] at h
 | d+1,t,x,y,b,h,m,w,hm=>by
  obtain⟨m,rfl⟩:∃ k,m=k+1:=⟨m-1,Omg⟩;unfold eqV at h;split at h
  ·rename_i hu;split at h
   ·simp at h;simp [Op.equalIn,underlying,hu,h]
   ·cases h
  ·rename_i hu;split at h
   ·rename_i k a k' b';cases hk:Er k k' with
    | false=>simp [hk] at h
    | true =>
     have:=Kw hk;subst this;simp [hk] at h;simp [Op.equalIn,underlying,hu,h]
   ·cases h
  ·rename_i hu;split at h
   ·simp at h;simp [Op.equalIn,underlying,hu,h]
   ·cases h
  ·rename_i fs hu;split at h
   ·rename_i xs ys;cases hs:P.stoodInHeld t with
    | true=>simp [hs] at h
    | false =>
     simp only [hs,cond_false] at h;have hf:P.fieldsOf t=fs:=by simp [Program.fieldsOf,hu]
     rw [run_equalIn_struct w m t xs ys (by rw [hf];exact hu) hs,hf];exact XW (λ t x y b h m w hm=>AaZ d t x y b h m w hm) fs.toList b h m w Omg
   ·cases h
  ·cases h
theorem Afi{t:TypeId}(hu:P.underlying t=some .bool)(a b:Bool)(m:Nat)(w:World):(Op.equalIn (m+1) t (.bool a) (.bool b)).run P w=.ok (a==b) w:=by
 simp [Op.equalIn,underlying,hu]
theorem Agl{t el:TypeId}(hu:P.underlying t=some (.pointer el))(p:Option Addr)(m:Nat)(w:World):(Op.equalIn (m+1) t (.pointer p) (.pointer none)).run P w=.ok p.isNone w:=by
 cases p <;> simp [Op.equalIn,underlying,hu]
theorem AdS{t el:TypeId}(hu:P.underlying t=some (.slice el))(p:Option Addr)(l c l2 c2 m:Nat)(w:World):(Op.equalIn (m+1) t (.slice p l c) (.slice none l2 c2)).run P w=.ok p.isNone w:=by
 cases p <;> simp [Op.equalIn,underlying,hu]
theorem Agk{t k el:TypeId}(hu:P.underlying t=some (.map k el))(p:Option Nat)(m:Nat)(w:World):(Op.equalIn (m+1) t (.map p) (.map none)).run P w=.ok p.isNone w:=by
 cases p <;> simp [Op.equalIn,underlying,hu]
theorem Afj{t:TypeId}{ps rs:Array TypeId}{vr:Bool}(hu:P.underlying t=some (.func ps rs vr))(fn:Fn)(fi ca:Array Value)(m:Nat)(w:World):(Op.equalIn (m+1) t (.func fn fi ca) .nilFunc).run P w=.ok false w:=by
 simp [Op.equalIn,underlying,hu]
theorem Z4{t:TypeId}{ps rs:Array TypeId}{vr:Bool}(hu:P.underlying t=some (.func ps rs vr))(m:Nat)(w:World):(Op.equalIn (m+1) t .nilFunc .nilFunc).run P w=.ok true w:=by
 simp [Op.equalIn,underlying,hu]
theorem Ey{op:BinOp}{neg:Bool}(hn:isNeg op=some neg){t:TypeId}{x y:Value}{b:Bool}(hx:∀ w,(Op.equal t x y).run P w=.ok b w)
  (hp:∀ k n,x≠.int k n) (hf:∀ k n,x≠.float k n) (hc:∀ k n m,x≠.complex k n m) (hs:∀ s,x≠.string s) (w:World):(binOp op t x y).run P w=.ok (Kn neg b) w:=by
 cases op <;> simp [isNeg] at hn
 ·subst hn;cases x <;> first | exact absurd rfl (hp _ _) | exact absurd rfl (hf _ _) | exact absurd rfl (hc _ _ _) | exact absurd rfl (hs _) | (simp only [binOp,Sem.run_bind,hx,Result.andThen_ok];simp [Kn])
 ·subst hn;cases x <;> first | exact absurd rfl (hp _ _) | exact absurd rfl (hf _ _) | exact absurd rfl (hc _ _ _) | exact absurd rfl (hs _) | (simp only [binOp,Sem.run_bind,hx,Result.andThen_ok];simp [Kn])
theorem Ab3{op:BinOp}{t:TypeId}{u v:Value}{K:Value->Prop}(x y:Operand)(h:AdI P op t u v K) :
  ∃ r,K r/\∀ w,(do eqGuard op t x y u v;binOp op t u v:Sem Value).run P w=.ok r w:=by
 unfold AdI at h;split at h
 ·exact h.elim
 ·rename_i neg dn;split at h
  ·rename_i a b;have hu:P.underlying t=some .bool:=by
    cases hh:P.underlying t with
    | none=>simp [hh] at h
    | some d=>cases d <;> simp_all
   simp only [hu,cond_true] at h;refine⟨_,h,λ w=>?_⟩;have hg:(eqGuard op t x y (.bool a) (.bool b)).run P w=.ok () w:=by cases op <;> simp [eqGuard]
   simp only [Sem.run_bind,hg,Result.andThen_ok];exact Ey dn (λ w=>Afi hu a b 9999 w) Osi Osi Osi Osi w
  ·rename_i p;have hu:∃ el,P.underlying t=some (.pointer el):=by
    cases hh:P.underlying t with
    | none=>simp [hh] at h
    | some d=>cases d <;> simp_all
   obtain⟨el,hu⟩:=hu;simp only [hu,cond_true] at h;refine⟨_,h,λ w=>?_⟩;have hg:(eqGuard op t x y (.pointer p) (.pointer none)).run P w=.ok () w:=by cases op <;> simp [eqGuard]
   simp only [Sem.run_bind,hg,Result.andThen_ok];exact Ey dn (λ w=>Agl hu p 9999 w) Osi Osi Osi Osi w
  ·rename_i p l c l2 c2;have hu:∃ el,P.underlying t=some (.slice el):=by
    cases hh:P.underlying t with
    | none=>simp [hh] at h
    | some d=>cases d <;> simp_all
   obtain⟨el,hu⟩:=hu;simp only [hu,cond_true] at h;refine⟨_,h,λ w=>?_⟩;have hg:(eqGuard op t x y (.slice p l c) (.slice none l2 c2)).run P w=.ok () w:=by cases op <;> simp [eqGuard]
   simp only [Sem.run_bind,hg,Result.andThen_ok];exact Ey dn (λ w=>AdS hu p l c l2 c2 9999 w) Osi Osi Osi Osi w
  ·rename_i p;have hu:∃ a b,P.underlying t=some (.map a b):=by
    cases hh:P.underlying t with
    | none=>simp [hh] at h
    | some d=>cases d <;> simp_all
   obtain⟨a,b,hu⟩:=hu;simp only [hu,cond_true] at h;refine⟨_,h,λ w=>?_⟩;have hg:(eqGuard op t x y (.map p) (.map none)).run P w=.ok () w:=by cases op <;> simp [eqGuard]
   simp only [Sem.run_bind,hg,Result.andThen_ok];exact Ey dn (λ w=>Agk hu p 9999 w) Osi Osi Osi Osi w
  ·have hu:∃ a b c,P.underlying t=some (.func a b c):=by
    cases hh:P.underlying t with
    | none=>simp [hh] at h
    | some d=>cases d <;> simp_all
   obtain⟨a,b,c,hu⟩:=hu;simp only [hu,cond_true] at h;refine⟨_,h,λ w=>?_⟩;have hg:(eqGuard op t x y .nilFunc .nilFunc).run P w=.ok () w:=by cases op <;> simp [eqGuard]
   simp only [Sem.run_bind,hg,Result.andThen_ok];exact Ey dn (λ w=>Z4 hu 9999 w) Osi Osi Osi Osi w
  ·rename_i fn fi ca;have hu:∃ a b c,P.underlying t=some (.func a b c):=by
    cases hh:P.underlying t with
    | none=>simp [hh] at h
    | some d=>cases d <;> simp_all
   obtain⟨a,b,c,hu⟩:=hu;simp only [hu,cond_true] at h;refine⟨_,h,λ w=>?_⟩;have hg:(eqGuard op t x y (.func fn fi ca) .nilFunc).run P w=.ok () w:=by cases op <;> simp [eqGuard]
   simp only [Sem.run_bind,hg,Result.andThen_ok];exact Ey dn (λ w=>Afj hu fn fi ca 9999 w) Osi Osi Osi Osi w
  ·rename_i xs ys;cases nh:P.eqGuardType P.depth t with
   | true=>simp [nh] at h
   | false =>
    simp only [nh,cond_false] at h;split at h
    ·rename_i b hb;refine⟨_,h,λ w=>?_⟩;have hg:(eqGuard op t x y (.agg xs) (.agg ys)).run P w=.ok () w:=by cases op <;> simp [eqGuard,nh]
     simp only [Sem.run_bind,hg,Result.andThen_ok];exact Ey dn (λ w=>AaZ 5 t _ _ b hb 10000 w Omg) Osi Osi Osi Osi w
    ·exact h.elim
  ·exact h.elim
theorem Yh{t:TypeId}{ms:Array (String × TypeId)}(hu:P.underlying t=some (.interface ms)){u:Value}{b:Bool}(hub:(u=.nilIface/\b=true)\/((∃ a v,u=.iface a v)/\b=false))(m:Nat)(w:World) :
  (Op.equalIn (m+1) t u .nilIface).run P w=.ok b w:=by
 rcases hub with ⟨rfl,rfl⟩ | ⟨⟨a,v,rfl⟩,rfl⟩ <;> simp [Op.equalIn,underlying,hu]
theorem XX{op:BinOp}{t:TypeId}{u v:Value}{K:Value->Prop}(x y:Operand)(h:Afb P (EW y) op t u v K) :
  ∃ r,K r/\∀ w,(do eqGuard op t x y u v;binOp op t u v:Sem Value).run P w=.ok r w:=by
 unfold Afb at h;split at h
 ·unfold Af0 at h;split at h
  ·exact h.elim
  ·rename_i neg dn;have hu:∃ ms,P.underlying t=some (.interface ms):=by
    unfold TL at h;cases hh:P.underlying t with
    | none=>simp [hh] at h
    | some d=>cases d <;> simp_all
   obtain⟨ms,hu⟩:=hu;obtain⟨cv,rfl⟩:∃ cv,y=.const cv:=by
    cases y <;> first | exact⟨_,rfl⟩ | (simp [EW] at h)
   simp only [TL,hu,EW,Bool.true_and,cond_true] at h;unfold Ac5 at h;split at h
   ·refine⟨_,h,λ w=>?_⟩;have hg:(eqGuard op t x (.const cv) .nilIface .nilIface).run P w=.ok () w:=by cases op <;> simp [eqGuard]
    simp only [Sem.run_bind,hg,Result.andThen_ok];exact Ey dn (λ w=>Yh hu (.inl ⟨rfl,rfl⟩) 9999 w) Osi Osi Osi Osi w
   ·rename_i a v;refine⟨_,h,λ w=>?_⟩;have hg:(eqGuard op t x (.const cv) (.iface a v) .nilIface).run P w=.ok () w:=by cases op <;> simp [eqGuard]
    simp only [Sem.run_bind,hg,Result.andThen_ok];exact Ey dn (λ w=>Yh hu (.inr ⟨⟨a,v,rfl⟩,rfl⟩) 9999 w) Osi Osi Osi Osi w
   ·exact h.elim
 ·exact Ab3 x y h
end
section
variable {P:Program}{kp:XA}{e:Operand->Option Value}{ρ:Operand->Value}
theorem DL{x:Option Operand}{d:Nat}{k:Int->Prop}(he:∀ x v,e x=some v->ρ x=v)(h:Hc e x d k) :
  ∃ n:Int,k n/\(x=none/\n=d\/∃ o kd,x=some o/\ρ o=.int kd n):=by
 unfold Hc at h;split at h
 ·exact⟨_,h,.inl ⟨rfl,rfl⟩⟩
 ·rename_i o;split at h
  ·rename_i kd n hn;exact⟨n,h,.inr ⟨o,kd,rfl,he _ _ hn⟩⟩
  ·exact h.elim
theorem run_sliceBound{v:Value}{kd:IntKind}{n:Int}{y:Nat}{code:BoundsCode}(hv:v=.int kd n)(h0:0<=n)(h1:n<=y)(w:World) :
  (Instr.sliceBound v y code).run P w=.ok n.toNat w:=by
 subst hv;simp [Instr.sliceBound,asIntOf,h0,h1]
theorem Le{isS:Bool}{len cap:Nat}{lo hi:Option Operand}{l h:Int}(h0:0<=l)(h1:l<=h)(h2:h<=cap)
  (hl:lo=none/\l=(0:Nat)\/∃ o kd,lo=some o/\ρ o=.int kd l) (hh:hi=none/\h=len\/∃ o kd,hi=some o/\ρ o=.int kd h) (w:World) :
  (Instr.sliceBounds isS len cap (lo.map ρ) (hi.map ρ) none).run P w=.ok (l.toNat,h.toNat,cap) w:=by
 rcases hl with ⟨rfl,rfl⟩ | ⟨o,kd,rfl,ho⟩ <;> rcases hh with ⟨rfl,rfl⟩ | ⟨o',kd',rfl,jv⟩
 ·simp [Instr.sliceBounds]
 ·simp [Instr.sliceBounds,run_sliceBound jv (Ah2 h0 h1) h2]
 ·have h3:l<=(len:Int):=h1;simp [Instr.sliceBounds,run_sliceBound ho h0 h3]
 ·have h3:l<=(h.toNat:Int):=Omg;simp [Instr.sliceBounds,run_sliceBound jv (Ah2 h0 h1) h2,run_sliceBound ho h0 h3]
theorem YX{len cap:Nat}{lo hi:Option Operand}{l h m:Int}{mo:Operand}{km:IntKind}(h0:0<=l)(h1:l<=h)(h2:h<=m)(h3:m<=cap)
  (hl:lo=none/\l=(0:Nat)\/∃ o kd,lo=some o/\ρ o=.int kd l) (hh:∃ o kd,hi=some o/\ρ o=.int kd h) (hm:ρ mo=.int km m) (w:World) :
  (Instr.sliceBounds true len cap (lo.map ρ) (hi.map ρ) (some (ρ mo))).run P w=.ok (l.toNat,h.toNat,m.toNat) w:=by
 obtain⟨o',kd',rfl,jv⟩:=hh;have h4:h<=(m.toNat:Int):=Omg;rcases hl with ⟨rfl,rfl⟩ | ⟨o,kd,rfl,ho⟩
 ·simp [Instr.sliceBounds,run_sliceBound hm Omg h3,run_sliceBound jv (Ah2 h0 h1) h4]
 ·have h5:l<=(h.toNat:Int):=Omg;simp [Instr.sliceBounds,run_sliceBound hm Omg h3,run_sliceBound jv (Ah2 h0 h1) h4,run_sliceBound ho h0 h5]
theorem Dj{t:TypeId}(h:P.info? t≠none)(w:World):(sizeOf t).run P w=.ok (P.cellsOf t) w:=by
 obtain⟨i,hi⟩:=Option.ne_none_iff_exists'.1 h;simp [sizeOf,typeInfo,hi,Program.cellsOf]
theorem Kl{el:TypeId}{X:Prop}(h:bif UL P el then X else False):P.info? el≠none/\X:=by
 unfold UL at h;cases hi:P.info? el with
 | none=>simp [hi] at h
 | some i=>simp only [hi,Option.isSome_some,cond_true] at h;exact⟨Osi,h⟩
theorem Aat{t:TypeId}{x:Operand}{lo hi mx:Option Operand}{K:Value->Prop}(he:∀ x v,e x=some v->ρ x=v)(h:Aas P e t x lo hi mx K) :
  ∃ v,K v/\∀ w,(Instr.sliceAt t (ρ x) (lo.map ρ) (hi.map ρ) (mx.map ρ)).run P w=.ok v w:=by
 unfold Aas at h;split at h
 ·rename_i s hu hx;obtain⟨hv,h,hh⟩:=DL he h;obtain⟨lv,h,hl⟩:=DL he h;obtain⟨⟨h0,h1,h2⟩,h⟩:=h;refine⟨_,h,λ w=>?_⟩;have:=he _ _ hx;simp [Instr.sliceAt,Instr.slice,underlying,hu,this,Le h0 h1 h2 hl hh]
 ·rename_i el a len cap hu hx;obtain⟨hel,h⟩:=Kl h;obtain⟨hv,h,hh⟩:=DL he h;obtain⟨lv,h,hl⟩:=DL he h;obtain⟨⟨h0,h1,h2⟩,h⟩:=h;refine⟨_,h,λ w=>?_⟩;have:=he _ _ hx;have hs:=Dj hel w;simp [Instr.sliceAt,Instr.slice,underlying,hu,this,Le h0 h1 h2 hl hh,hs,Ch]
 ·rename_i el a len cap mo hu hx;obtain⟨hel,h⟩:=Kl h;split at h
  ·exact h.elim
  ·rename_i ho;obtain⟨mv,h,hm⟩:=DL he h;obtain⟨hv,h,hh⟩:=DL he h;obtain⟨lv,h,hl⟩:=DL he h;obtain⟨⟨h0,h1,h2,h3⟩,h⟩:=h;refine⟨_,h,λ w=>?_⟩;have:=he _ _ hx;have hs:=Dj hel w;rcases hm with ⟨hm,_⟩ | ⟨o,km,hm,hmo⟩
   ·cases hm
   rcases hh with ⟨hh,_⟩ | ⟨o2,kd,hh,hho⟩
   ·cases hh
   cases hm;have hb:=YX (P:=P) (len:=len) h0 h1 h2 h3 hl ⟨o2,kd,hh,hho⟩ hmo w;simp only [Instr.sliceAt,Instr.slice,Sem.run_bind,underlying,hu,run_program,Result.andThen_ok,this,Sem.run_pure,Option.map_some] at hb ⊢;simp [hb,hs,Ch]
 ·rename_i n el p hu hx;obtain⟨hel,h⟩:=Kl h;obtain⟨a,rfl,h⟩:=NZ h;simp only [Av] at h;obtain⟨hv,h,hh⟩:=DL he h;obtain⟨lv,h,hl⟩:=DL he h;obtain⟨⟨h0,h1,h2⟩,h⟩:=h;refine⟨_,h,λ w=>?_⟩;have:=he _ _ hx;have hs:=Dj hel w;simp [Instr.sliceAt,Instr.sureAddr,underlying,hu,this,Le h0 h1 h2 hl hh,hs,Ch];split <;> rfl
 ·exact h.elim
theorem UP{t:TypeId}{x i:Operand}{K:Value->Prop}(he:∀ x v,e x=some v->ρ x=v)(h:MW P e t x i K) :
  ∃ v,K v/\∀ w,(Instr.indexAt t (ρ x) (ρ i)).run P w=.ok v w:=by
 unfold MW at h;split at h
 ·rename_i el p len cap hu hx;obtain⟨hel,h⟩:=Kl h;obtain⟨kd,n,hi,h⟩:=NT h;obtain⟨⟨h0,h1⟩,h⟩:=h;obtain⟨a,rfl,h⟩:=NZ h;refine⟨_,h,λ w=>?_⟩;have e1:=he _ _ hx;have e2:=he _ _ hi;have hs:=Dj hel w;simp [Instr.indexAt,asIntOf,underlying,hu,e1,e2,h0,h1,hs]
 ·rename_i len el p hu hx;obtain⟨hel,h⟩:=Kl h;obtain⟨kd,n,hi,h⟩:=NT h;have h':(0<=n/\n<len)/\Av p λ a=>K (.pointer (some (a.add (n.toNat*P.cellsOf el)))):=by
   cases hc:EW i with
   | false=>simpa [hc] using h
   | true =>
    by_cases hb:0<=n/\n<len
    ·simp only [hc,cond_true,hb,and_self,decide_true] at h;exact⟨hb,h⟩
    ·simp [hc,hb] at h
  obtain⟨⟨h0,h1⟩,h⟩:=h';obtain⟨a,rfl,h⟩:=NZ h;refine⟨_,h,λ w=>?_⟩;have e1:=he _ _ hx;have e2:=he _ _ hi;have hs:=Dj hel w;simp [Instr.indexAt,asIntOf,underlying,hu,e1,e2,h0,h1,hs,Instr.sureAddr]
 ·exact h.elim
theorem VF{t:TypeId}{b:Bool}(h:Jh P t=b)(hs:(P.underlying t).isSome=true)(w:World):(isAgg t).run P w=.ok b w:=by
 unfold Jh at h;unfold isAgg;split at h
 ·rename_i hu;simp [underlying,hu,<- h]
 ·rename_i hu;simp [underlying,hu,<- h]
 ·rename_i h1 h2;cases hu:P.underlying t with
  | none=>simp [hu] at hs
  | some d =>
   rw [hu] at h1 h2;cases d <;> simp_all [underlying]
theorem Aeg{t:TypeId}{cs:Array Value}{off:Nat}{K:Value->Prop}(h:Aef P t cs.toList off K):P.info? t≠none/\∃ v,K v/\∀ w,(part t cs off).run P w=.ok v w:=by
 unfold Aef at h;split at h
 ·exact h.elim
 ·rename_i z hz;have hi:P.info? t≠none:=by
   intro hn;simp [zeroOf,hn] at hz
  refine⟨hi,?_⟩;cases hg:Jh P t with
  | true =>
   simp only [hg,cond_true] at h;obtain⟨vs,_,hv,hk⟩:=PH h;refine⟨_,hk,λ w=>?_⟩;have hs:=Dj hi w;have bj:(P.underlying t).isSome=true:=by
    unfold Jh at hg;split at hg
    ·rename_i hu;simp [hu]
    ·rename_i hu;simp [hu]
    ·cases hg
   have he:cs.extract off (off+P.cellsOf t)=⟨vs⟩:=by
    apply Ah4;rw [<- hv];simp
   simp [part,VF hg bj w,hs,he]
  | false =>
   simp only [hg,cond_false] at h;cases bj:(P.underlying t).isSome with
   | false=>rw [bj] at h;exact h.elim
   | true =>
    rw [bj] at h;simp only [cond_true] at h;obtain⟨v,hv,hk⟩:=LF h;refine⟨v,hk,λ w=>?_⟩;rw [Array.getElem?_toList] at hv;simp [part,VF hg bj w,hv]
theorem Acd{t:TypeId}{x i:Operand}{K:Value->Prop}(he:∀ x v,e x=some v->ρ x=v)(h:Z5 P e t x i K) :
  ∃ v,K v/\∀ w,(Instr.index t (ρ x) (ρ i)).run P w=.ok v w:=by
 unfold Z5 at h;split at h
 ·rename_i s hu hx;obtain⟨kd,n,hi,h⟩:=NT h;obtain⟨⟨h0,h1⟩,h⟩:=h;refine⟨_,h,λ w=>?_⟩;have e1:=he _ _ hx;have e2:=he _ _ hi;have aB:n.toNat<s.size:=Omg;have hg:s[n.toNat]?=some (Az s n.toNat):=by
   have h2:n.toNat<s.data.toList.length:=by simpa using aB
   rw [getElem?_pos s n.toNat aB];simp only [Az,List.getD_eq_getElem?_getD,List.getElem?_eq_getElem h2,Option.getD_some];rfl
  simp [Instr.index,asIntOf,underlying,hu,e1,e2,h0,hg]
 ·rename_i len el cs hu hx;obtain⟨kd,n,hi,h⟩:=NT h;obtain⟨⟨h0,h1⟩,h⟩:=h;obtain⟨hel,v,hk,hr⟩:=Aeg h;refine⟨v,hk,λ w=>?_⟩;have e1:=he _ _ hx;have e2:=he _ _ hi;have hs:=Dj hel w;simp [Instr.index,asIntOf,underlying,hu,e1,e2,h0,h1,hs,hr]
 ·exact h.elim
theorem UM{s:TypeId}{x:Operand}{f:Nat}{K:Value->Prop}(he:∀ x v,e x=some v->ρ x=v)(h:MT P e s x f K) :
  ∃ v,K v/\∀ w,(Instr.fieldAt s (ρ x) f).run P w=.ok v w:=by
 unfold MT at h;split at h
 ·rename_i fs hu;split at h
  ·rename_i fl hf;cases hz:Ah0 (P.cellsOf fl.type) 0 with
   | true=>simp [hz] at h
   | false =>
    simp only [hz,cond_false] at h;obtain⟨a,hx,h⟩:=NY h;have aQ:P.cellsOf fl.type≠0:=λ h0=>by rw [h0] at hz;simp at hz
    have e1:=he _ _ hx;refine⟨_,h,λ w=>?_⟩;simp [Instr.fieldAt,underlying,hu,hf,e1,Instr.sureAddr,fieldPlace,YZ aQ,aQ]
  ·exact h.elim
 ·exact h.elim
theorem KG{o:Oper}(he:∀ x v,e x=some v->ρ x=v)(h:known e o=true):∀ x∈o.op.operands,rho e x=ρ x:=by
 intro x hx;unfold known at h;have:=List.all_eq_true.1 h x (Array.mem_toList_iff.2 hx);obtain⟨v,hv⟩:=Option.isSome_iff_exists.1 this;simp [rho,hv,he _ _ hv]
theorem XU{o:Oper}{K:Value->Prop}(hs:∀ cs b,o.op≠.select cs b)(he:∀ x v,e x=some v->ρ x=v)(h:Tn P e o K) :
  ∃ v,K v/\∀ w,(execOp ρ o).run P w=.ok (.value v) w:=by
 unfold Tn at h;cases hk:known e o with
 | false=>simp [hk] at h
 | true =>
  simp only [hk,cond_true] at h;split at h
  ·rename_i v hv;refine⟨v,h,λ w=>?_⟩;rw [<- execOp_congr o hs (KG he hk)];exact YW _ hv w
  ·exact h.elim
theorem We{s:Sem Value}{v:Value}{w w':World}(h:s.run P w=.ok v w'):(do pure (Next.value (<- s)):Sem Next).run P w=.ok (.value v) w':=by
 simp [h]
theorem Vr{o:Oper}{K:Value->Prop}(hs:∀ cs b,o.op≠.select cs b)(he:∀ x v,e x=some v->ρ x=v)(h:AaX P e o K) :
  ∃ v,K v/\∀ w,(execOp ρ o).run P w=.ok (.value v) w:=by
 unfold AaX at h;split at h
 ·rename_i x ho;obtain⟨v,hx,h⟩:=BI h;exact⟨v,h,λ w=>by simp [execOp,ho,he _ _ hx]⟩
 ·rename_i x ho;obtain⟨v,hx,h⟩:=BI h;exact⟨v,h,λ w=>by simp [execOp,ho,he _ _ hx]⟩
 ·rename_i c a b ho;obtain⟨t,hc,h⟩:=Aby h;cases t with
  | true =>
   obtain⟨v,hx,h⟩:=BI h;exact⟨v,h,λ w=>by simp [execOp,ho,he _ _ hx,he _ _ hc,asBool]⟩
  | false =>
   obtain⟨v,hx,h⟩:=BI h;exact⟨v,h,λ w=>by simp [execOp,ho,he _ _ hx,he _ _ hc,asBool]⟩
 ·rename_i x ho;unfold Ahh at h;split at h
  ·rename_i p hx;obtain⟨a,rfl,h⟩:=NZ h;exact⟨_,h,λ w=>by simp [execOp,ho,he _ _ hx]⟩
  ·rename_i f u c hx;exact⟨_,h,λ w=>by simp [execOp,ho,he _ _ hx]⟩
  ·rename_i f u c hx;exact⟨_,h,λ w=>by simp [execOp,ho,he _ _ hx]⟩
  ·exact h.elim
 ·rename_i op t x y yt ho;unfold Ag1 at h;have key:∃ v,K v/\∀ w,(do eqGuard op t x y (ρ x) (ρ y);binOp op t (ρ x) (ρ y):Sem Value).run P w=.ok v w:=by
   split at h
   ·rename_i hy;obtain⟨u,hx,h⟩:=BI h;rw [he _ _ hx,he _ _ hy];exact XX x y h
   unfold AfX at h;split at h
   ·rename_i k a k' b hx hy;have h':Q9 op k k' a b K:=by
     cases hc:EW y with
     | false=>simpa [hc] using h
     | true=>exact WR (by simpa [hc] using h)
    obtain⟨v,hK,hr⟩:=ZJ (P:=P) t h';exact⟨v,hK,λ w=>by rw [he _ _ hx,he _ _ hy];simp only [Sem.run_bind,AdO,Result.andThen_ok,hr w]⟩
   ·rename_i a b hx hy;obtain⟨v,hK,hr⟩:=ZK (P:=P) t h;exact⟨v,hK,λ w=>by rw [he _ _ hx,he _ _ hy];simp only [Sem.run_bind,AdP,Result.andThen_ok,hr w]⟩
   ·rename_i u v _ _ hx hy;rw [he _ _ hx,he _ _ hy];exact XX x y h
   ·exact h.elim
  obtain⟨v,hK,hr⟩:=key;exact⟨v,hK,λ w=>by have:=We (hr w);simpa only [execOp,ho] using this⟩
 ·rename_i s x f ho;obtain⟨v,hK,hr⟩:=UM he h;exact⟨v,hK,λ w=>by have:=We (hr w);simpa only [execOp,ho] using this⟩
 ·rename_i t x i ho;obtain⟨v,hK,hr⟩:=UP he h;exact⟨v,hK,λ w=>by have:=We (hr w);simpa only [execOp,ho] using this⟩
 ·rename_i t x i ho;obtain⟨v,hK,hr⟩:=Acd he h;exact⟨v,hK,λ w=>by have:=We (hr w);simpa only [execOp,ho] using this⟩
 ·rename_i t x lo hi mx ho;obtain⟨v,hK,hr⟩:=Aat he h;exact⟨v,hK,λ w=>by have:=We (hr w);simpa only [execOp,ho] using this⟩
 ·exact XU hs he h
/-! ### Loads -/
theorem PJ:∀(zs:List Value) (a:Addr) (i:Nat) (k:List Value->Prop) (w:World),CR zs a i k w ->
  ∃ vs,vs.length=zs.length/\k vs/\∀ j v,vs[j]?=some v->w.cell? (a.add (i+j))=some v
 | [],_,_,_,_,h=>⟨[],rfl,h,Osi⟩
 | z :: zs,a,i,k,w,h=>by
  obtain⟨v,hv,h⟩:=AbJ h;obtain⟨vs,hl,hk,hc⟩:=PJ zs a (i+1) _ w h;refine⟨v :: vs,by simp [hl],hk,λ j u hu=>?_⟩;cases j with
  | zero=>simp at hu;subst hu;exact hv
  | succ j=>simp at hu;have:=hc j u hu;rwa [show i+1+j=i+(j+1) by omega] at this
theorem Z2(x:Addr × Value)(h:Gp)(w:World):holds (x :: h) w↔w.cell? x.1=some x.2/\holds h w:=by
 cases h <;> simp [holds]
theorem Ez(a:Addr)(w:World):∀(vs:List Value) (i:Nat),holds (Kt a vs i) w↔∀ j v,vs[j]?=some v->w.cell? (a.add (i+j))=some v
 | [],i=>by simp [Kt,holds]
 | v :: vs,i=>by
  rw [Kt,Z2,Ez a w vs (i+1)];constructor
  ·rintro⟨h1,h2⟩ j u hu;cases j with
   | zero=>simp at hu;subst hu;exact h1
   | succ j=>simp at hu;have:=h2 j u hu;rwa [show i+1+j=i+(j+1) by omega] at this
  ·intro h;refine⟨h 0 v rfl,λ j u hu=>?_⟩;have:=h (j+1) u (by simpa using hu);rwa [show i+1+j=i+(j+1) by omega]
theorem Qg{t:TypeId}{x:Option Value}{k:Value->Gp->Prop}{w:World}(h:Yt P t x k w) :
  ∃ a v hh,x=some (.pointer (some a))/\k v hh/\holds hh w/\∀ w',holds hh w'->(Instr.loadAt t (.pointer (some a))).run P w'=.ok v w':=by
 unfold Yt at h;split at h
 ·exact h.elim
 ·rename_i z hz;have hi:P.info? t≠none:=by
   intro hn;simp [zeroOf,hn] at hz
  cases hg:Jh P t with
  | true =>
   simp only [hg,cond_true] at h;cases hb:Ah0 (P.cellsOf t) z.cells.toList.length with
   | false=>rw [hb] at h;exact h.elim
   | true =>
    rw [hb] at h;simp only [cond_true] at h;obtain⟨a,rfl,h⟩:=NY h;obtain⟨vs,hl,hk,hc⟩:=PJ _ _ _ _ _ h;refine⟨a,_,_,rfl,hk,(Ez a w vs 0).2 hc,λ w' hh=>?_⟩;have dV:=(Ez a w' vs 0).1 hh;simp only [Nat.zero_add] at dV;have cU:(isAgg t).run P w'=.ok true w':=by
     unfold Jh at hg;unfold isAgg;split at hg
     ·rename_i hu;simp [underlying,hu]
     ·rename_i hu;simp [underlying,hu]
     ·cases hg
    have ao:=Dj hi w';have hn:P.cellsOf t=vs.length:=by rw [hl];exact Ah5 hb
    have bA:=run_loadCells_list (P:=P) w' a vs dV;simp [Instr.loadAt,Instr.sureAddr,loadVar,cU,ao,hn,bA]
  | false =>
   simp only [hg,cond_false] at h;cases bj:(P.underlying t).isSome with
   | false=>rw [bj] at h;exact h.elim
   | true =>
   rw [bj] at h;simp only [cond_true] at h;obtain⟨a,rfl,h⟩:=NY h;obtain⟨vs,hl,hk,hc⟩:=PJ _ _ _ _ _ h;obtain⟨v,rfl⟩:∃ v,vs=[v]:=by
    cases vs with
    | nil=>simp at hl
    | cons v r=>cases r with
     | nil=>exact⟨v,rfl⟩
     | cons=>simp at hl
   refine⟨a,_,_,rfl,hk,(Ez a w [v] 0).2 hc,λ w' hh=>?_⟩;have dV:=(Ez a w' [v] 0).1 hh 0 v rfl;simp only [Nat.zero_add] at dV;have h0:a.add 0=a:=by simp [Addr.add]
   rw [h0] at dV;have cU:(isAgg t).run P w'=.ok false w':=by
    unfold Jh at hg;unfold isAgg;cases hu:P.underlying t with
    | none =>
     simp [hu] at bj
    | some d=>cases d <;> simp_all [underlying]
   simp [Instr.loadAt,Instr.sureAddr,loadVar,cU,dV]
/-! ### Stores, and what else acts -/
theorem SX(a:Addr):∀(vs:List Value) (i:Nat) (k:World->Prop) (w:World),CL vs a i k w->∃ w',k w'/\(storeCells a vs i).run P w=.ok () w'
 | [],i,k,w,h=>⟨w,h,by simp [storeCells]⟩
 | v :: vs,i,k,w,h=>by
  unfold CL at h;cases hv:v.oneCell' with
  | false=>simp [hv] at h
  | true =>
   simp only [hv,cond_true] at h;obtain⟨h1,h2,h⟩:=h;obtain⟨u,hu⟩:=Option.isSome_iff_exists.1 h1;obtain⟨w',hk,hr⟩:=SX a vs (i+1) k _ h;refine⟨w',hk,?_⟩;simp [storeCells,run_store P w (a.add i) v .plain hv,hu,h2,hr]
def CN(P:Program)(kp:XA)(s:Sem Next)(k:Value->World->Prop)(w:World):Prop :=
 match s.run P w with
 | .ok (.value v) w'=>k v w'
 | .ok .skip w'=>k undef w'
 | .ok (.enter f args) w'=>Calls P f args w' λ e cQ=>(∃ v,e=.returned v/\k v cQ)\/∃ ch,e=.panicked ch/\Aai kp ch cQ
 | .ok (.round l f tmps assign body) w'=>RoundIn Fence.wide 0 P l f tmps assign body w' λ e cQ=>∃ v,e=.returned v/\k v cQ
 | .halt (.panic v) w'=>Aai kp [{ v,recovered:=false }] w'
 | _=>False
theorem CN.OJ{s:Sem Next}{k:Value->World->Prop}{w w':World}{v:Value}(h:s.run P w=.ok (.value v) w')(hk:k v w'):CN P kp s k w:=by
 simp [CN,h,hk]
theorem CN.Aah{s:Sem Value}{k:Value->World->Prop}{w w':World}{v:Value}(h:s.run P w=.ok v w')(hk:k v w'):CN P kp (do pure (.value (<- s))) k w :=
 CN.OJ (We h) hk
theorem CN.Ahi{s:Sem Unit}{k:Value->World->Prop}{w w':World}(h:s.run P w=.ok () w')(hk:k undef w'):CN P kp (do s;pure .skip) k w:=by
 simp [CN,h,hk]
theorem Dh{s:Sem Value}{z:Value}{k:Value->World->Prop}{w:World}(h:ZC P s z k w):CN P kp (do pure (.value (<- s))) k w:=by
 unfold ZC at h;split at h
 ·rename_i v w' hr;obtain⟨u,rfl,hk⟩:=PI h;exact CN.Aah hr hk
 ·exact h.elim
theorem Ade{s:Sem Value}{k:Value->World->Prop}{w:World}(h:OPN P s (λ w'=>k (.tuple #[.bool false]) w') (λ x y w'=>k (.tuple #[.bool true,x,y]) w') w):CN P kp (do pure (.value (<- s))) k w:=by
 unfold OPN at h;split at h
 ·rename_i v w' hr;rcases h with ⟨rfl,hk⟩ | ⟨x,y,rfl,hk⟩
  ·exact CN.Aah hr hk
  ·exact CN.Aah hr hk
 ·exact h.elim
theorem Xz{s:Sem Unit}{k:Value->World->Prop}{w:World}(h:ZD P s (λ w'=>k undef w') w):CN P kp (do s;pure .skip) k w:=by
 unfold ZD at h;split at h
 ·rename_i v w' hr;exact CN.Ahi hr h
 ·exact h.elim
theorem Vv:∀ {xs:List Operand} {vs:List Value},(∀ x v,e x=some v->ρ x=v)->XY e xs=some vs->xs.map ρ=vs
 | [],vs,_,h=>by simp [XY] at h;subst h;rfl
 | x :: xs,vs,he,h=>by
  unfold XY at h;split at h
  ·rename_i v us hx bU;simp at h;subst h;simp [he _ _ hx,Vv he bU]
  ·cases h
theorem Tp{f:FuncId}(h:enters P f=true)(args:Array Value)(w:World):(callFunc f args).run P w=.ok (.enter f args) w:=by
 unfold enters at h;split at h
 ·rename_i fn hf;simp only [Ah1,Bool.not_eq_true'] at h;have hb:fn.body≠none:=by intro hh;simp [hh] at h
  have hn : fn.name ≠ "runtime.NumGoroutine" := by simpa using h.2
  simp [callFunc,hf,hn,hb]
 ·cases h
theorem Ac4{x:Option Value}{k:FuncId->Array Value->Array Value->Prop}(h:Af6 x k):∃ g fi ca,x=some (.func (.func g) fi ca)/\k g fi ca:=by
 unfold Af6 at h;split at h
 ·exact⟨_,_,_,rfl,h⟩
 ·exact h.elim
theorem Ac1{x:Option Value}{k:FuncId->Array Value->Array Value->Prop}{y:Nat->Prop}(h:Af5 x k y):(∃ g fi ca,x=some (.func (.func g) fi ca)/\k g fi ca)\/(∃ l,x=some (.func (.yield l) #[] #[])/\y l):=by
 unfold Af5 at h;split at h
 ·exact .inl ⟨_,_,_,rfl,h⟩
 ·rename_i l fi ca;cases h1:fi.toList.isEmpty && ca.toList.isEmpty with
  | false=>rw [h1] at h;exact h.elim
  | true =>
   rw [h1] at h;simp only [Ah1,List.isEmpty_iff] at h1;have e1:fi=#[]:=by cases fi;simp_all
   have e2:ca=#[]:=by cases ca;simp_all
   subst e1 e2;exact .inr ⟨l,rfl,h⟩
 ·exact h.elim
theorem Tm{o:Oper}{k:Value->World->Prop}{w:World}(he:∀ x v,e x=some v->ρ x=v)(h:AaW P kp e o k w):CN P kp (execOp ρ o) k w:=by
 obtain⟨dst,op,type,pos,after,guard⟩:=o;unfold AaW at h;split at h
 ·rename_i t ho;cases ho;split at h
  ·rename_i z hz;have hr:(Instr.alloc t true (.tuple #[])).run P w=.ok (.pointer (some ⟨w.heap.size,0,none⟩)) (w.alloc (.cells z.cells t)):=by
    unfold zeroOf at hz;split at hz
    ·rename_i i hi;simp [Instr.alloc,zeroValue,typeInfo,hi,hz,newVar,newRow]
    ·cases hz
   exact CN.Aah hr h
  ·exact h.elim
 ·rename_i t x ho;cases ho;obtain⟨v,hx,h⟩:=BI h;have hr:(Instr.box t (ρ x)).run P w=.ok (.pointer (some ⟨w.heap.size,0,none⟩)) (w.alloc (.cells v.cells t)):=by
   simp [Instr.box,newVar,newRow,he _ _ hx]
  exact CN.Aah hr h
 ·rename_i t len parts ho;cases ho;cases hk:known e ⟨dst,.buildSlice t len parts,type,pos,after,guard⟩ with
  | false=>rw [hk] at h;exact h.elim
  | true =>
   rw [hk] at h;simp only [cond_true] at h;split at h
   ·rename_i el c hc;unfold JF at hc;split at hc
    ·rename_i yI hu;split at hc
     ·rename_i i hi;split at hc
      ·rename_i z hz;cases nv:Ah0 len 0 && parts.toList.isEmpty with
       | true =>
        rw [nv] at hc;simp only [cond_true,Option.some.injEq,Ah3] at hc;obtain⟨rfl,rfl⟩:=hc;simp only [Ah1,List.isEmpty_iff] at nv;have oT:len=0:=Ah5 nv.1;subst oT;have sX:parts=#[]:=by simpa using nv.2
        subst sX;have hr:(Instr.buildSlice t 0 ((#[]:Array (Nat × Operand)).map λ (j,x)=>(j,ρ x))).run P w=.ok (.slice (some ⟨w.heap.size,0,none⟩) 0 0) (w.alloc (.cells #[] yI)):=by
         simp only [Instr.buildSlice,Sem.run_bind,JO hu,Result.andThen_ok,sizeOf,typeInfo,run_program,hi,Sem.run_pure];simp [Instr.fill,newRow];congr 2;exact Array.eq_empty_of_size_eq_zero Osi
        exact CN.Aah hr h
       | false =>
       rw [nv] at hc;simp only [cond_false] at hc;cases hb:(Nat.blt (2 ^ 24) (len*i.size)) || (Ah0 (len*i.size) 0) with
       | true=>simp only [hb,cond_true] at hc;cases hc
       | false =>
        simp only [hb,cond_false] at hc;obtain⟨c',dV,heq⟩:=Option.map_eq_some_iff.1 hc;simp only [Ah3] at heq;obtain⟨rfl,rfl⟩:=heq;simp only [Bool.or_eq_false_iff] at hb;have cK:¬ len*i.size > 2 ^ 24:=by
         intro nh;have:Nat.blt (2 ^ 24) (len*i.size)=true:=by
          rw [Nat.blt,Nat.ble_eq];exact nh
         rw [this] at hb;exact absurd hb.1 Osi
        have cW:¬ len*i.size=0:=by
         intro h0;rw [h0] at hb;exact absurd hb.2 Ode
        have cU:=KG he hk;have oD:(parts.map λ (j,x)=>(j,ρ x)).toList=parts.toList.map λ p=>(p.1,rho e p.2):=by
         rw [Array.toList_map];refine List.map_congr_left λ p hp=>?_;obtain⟨j,x⟩:=p;have:=cU x (by simp only [Op.operands];exact List.mem_toArray.2 (List.mem_map.2 ⟨(j,x),hp,rfl⟩));simp [this]
        have hr:(Instr.buildSlice t len (parts.map λ (j,x)=>(j,ρ x))).run P w=.ok (.slice (some ⟨w.heap.size,0,none⟩) len len) (w.alloc (.cells c' yI)):=by
         simp only [Instr.buildSlice,Sem.run_bind,JO hu,Result.andThen_ok,sizeOf,typeInfo,run_program,hi,Sem.run_pure,cK,if_false,cW,zeroValue,hz,oD,dV,newRow,run_newObj];rfl
        exact CN.Aah hr h
      ·cases hc
     ·cases hc
    ·cases hc
   ·exact h.elim
 ·rename_i t a x ho;cases ho;obtain⟨v,hx,h⟩:=BI h;obtain⟨p,ha,h⟩:=NY h;cases hb:Ah0 v.cells.size (P.cellsOf t) && UL P t with
  | false=>rw [hb] at h;exact h.elim
  | true =>
   rw [hb] at h;simp only [cond_true] at h;obtain⟨w',hk,hr⟩:=SX (P:=P) p _ _ _ _ h;simp only [Ah1] at hb;have ao:v.cells.size=P.cellsOf t:=Ah5 hb.1;have hi:P.info? t≠none:=by
    intro hn;have:=hb.2;simp [UL,hn] at this
   have aA:(Instr.storeAt t (ρ a) (ρ x)).run P w=.ok () w':=by
    simp [Instr.storeAt,Instr.sureAddr,storeVar,he _ _ hx,he _ _ ha,Dj hi,ao,hr]
   exact CN.Ahi aA hk
 ·rename_i c ho;cases ho;split at h
  ·rename_i b fX;cases hk:known e ⟨dst,.call c,type,pos,after,guard⟩ with
   | false=>rw [hk] at h;exact h.elim
   | true =>
    rw [hk] at h;simp only [cond_true] at h;split at h
    ·rename_i z hz;have cU:=KG he hk;have fV:c.args.map (rho e)=c.args.map ρ:=Array.map_congr_left λ x hx=>cU x (by simp [Op.operands,Call.operands,hx]);rw [fV] at h;split at h
     ·have:=Dh (kp:=kp) h;simpa [CN,execOp,resolve,fX,invoke,builtin] using this
     ·have:=Dh (kp:=kp) h;simpa [CN,execOp,resolve,fX,invoke,builtin] using this
     ·have:=Dh (kp:=kp) h;simpa [CN,execOp,resolve,fX,invoke,builtin] using this
     ·have:=Dh (kp:=kp) h;simpa [CN,execOp,resolve,fX,invoke,builtin] using this
     ·have:=Dh (kp:=kp) h;simpa [CN,execOp,resolve,fX,invoke,builtin] using this
     ·exact h.elim
    ·exact h.elim
  ·rename_i f fX;split at h
   ·rename_i vs z rJ hz;have fV:c.args.map ρ=⟨vs⟩:=by
     rw [<- Vv he rJ];exact Ah4 Osi
    rcases Ac1 h with ⟨g,first,captured,hf,h⟩ | ⟨l,hf,h⟩
    ·cases nR:enters P g with
     | false=>rw [nR] at h;exact h.elim
     | true =>
      rw [nR] at h;simp only [cond_true] at h;have hr:(execOp ρ ⟨dst,.call c,type,pos,after,guard⟩).run P w=.ok (.enter g ⟨first.toList++vs++captured.toList⟩) w:=by
       have ha:first++(⟨vs⟩:Array Value)++captured=⟨first.toList++vs++captured.toList⟩:=Ah4 Osi;simp only [execOp,resolve,fX,fV,Sem.run_bind,Deferred.ofValue,he _ _ hf,Sem.run_pure,Result.andThen_ok,invoke,Tp nR,ha]
      unfold CN;rw [hr];cases kp with
      | none =>
       refine Calls.mono h ?_;intro en w' hh;obtain⟨v,hv,hk⟩:=Vd hh;exact .inl ⟨v,hv,hk⟩
      | some p =>
       refine Calls.mono h ?_;intro en w' hh;rcases hh with hh | hh
       ·obtain⟨v,hv,hk⟩:=Vd hh;exact .inl ⟨v,hv,hk⟩
       ·exact .inr hh
    ·obtain⟨fn,tmps,as,bo,hy,hround⟩:=h;have hr:(execOp ρ ⟨dst,.call c,type,pos,after,guard⟩).run P w=.ok (.round l fn tmps as bo) w:=by
      simp only [execOp,resolve,fX,fV,Sem.run_bind,Deferred.ofValue,he _ _ hf,Sem.run_pure,Result.andThen_ok,invoke];simpa using hy
     unfold CN;rw [hr];exact RoundIn.mono hround λ en w' ⟨t,hv,hk⟩=>⟨_,hv,hk⟩
   ·exact h.elim
  ·exact h.elim
 ·rename_i s d x ho;cases ho;obtain⟨v,hx,h⟩:=BI h;split at h
  ·have:=Dh (kp:=kp) h;simpa only [execOp,he _ _ hx] using this
  ·exact h.elim
 ·rename_i t l c ho;cases ho;obtain⟨u,hl,h⟩:=BI h;obtain⟨v,hc,h⟩:=BI h;split at h
  ·have:=Dh (kp:=kp) h;simpa only [execOp,he _ _ hl,he _ _ hc] using this
  ·exact h.elim
 ·rename_i t ho;cases ho;split at h
  ·have:=Dh (kp:=kp) h;simpa only [execOp,Option.map_none] using this
  ·exact h.elim
 ·rename_i t x i ok ho;cases ho;obtain⟨u,hl,h⟩:=BI h;obtain⟨v,hc,h⟩:=BI h;split at h
  ·have:=Dh (kp:=kp) h;simpa only [execOp,he _ _ hl,he _ _ hc] using this
  ·exact h.elim
 ·rename_i t m i x ho;cases ho;obtain⟨u,hl,h⟩:=BI h;obtain⟨v,hc,h⟩:=BI h;obtain⟨y,hy,h⟩:=BI h;have:=Xz (kp:=kp) h;simpa only [execOp,he _ _ hl,he _ _ hc,he _ _ hy] using this
 ·rename_i t x ho;cases ho;obtain⟨u,hl,h⟩:=BI h;have:=Dh (kp:=kp) h;simpa only [execOp,he _ _ hl] using this
 ·rename_i i s ho;cases ho;obtain⟨u,hl,h⟩:=BI h;have:=Ade (kp:=kp) h;simpa only [execOp,he _ _ hl] using this
 ·rename_i i ho;cases ho;obtain⟨u,hl,h⟩:=BI h;split at h
  ·have:=Dh (kp:=kp) h;simpa only [execOp,he _ _ hl] using this
  ·exact h.elim
 ·rename_i t m i ho;cases ho;obtain⟨u,hl,h⟩:=BI h;obtain⟨v,hc,h⟩:=BI h;have:=Dh (kp:=kp) h;simpa only [execOp,he _ _ hl,he _ _ hc] using this
 ·rename_i t m i x ho;cases ho;obtain⟨u,hl,h⟩:=BI h;obtain⟨v,hc,h⟩:=BI h;obtain⟨y,hy,h⟩:=BI h;have:=Xz (kp:=kp) h;simpa only [execOp,he _ _ hl,he _ _ hc,he _ _ hy] using this
 ·rename_i op t x y ty ho;cases ho;obtain⟨u,hl,h⟩:=BI h;obtain⟨v,hc,h⟩:=BI h;split at h
  ·rename_i p q _;have:=Dh (kp:=kp) h;have hg:(eqGuard op t x y (.pointer p) (.pointer q) >>= λ _=>binOp op t (.pointer p) (.pointer q))=binOp op t (.pointer p) (.pointer q):=by
    cases op <;> simp [eqGuard]
   simpa only [execOp,he _ _ hl,he _ _ hc,hg] using this
  ·exact h.elim
 ·rename_i x ho;cases ho;unfold AgQ at h;split at h
  ·exact h.elim
  ·rename_i p;split at h
   ·rename_i t v hv;have hr:(execOp ρ ⟨dst,.panic x,type,pos,after,guard⟩).run P w=.halt (.panic (.iface t v)) w:=by
     simp [execOp,he _ _ hv,Instr.panic,goPanic]
    unfold CN;rw [hr];exact h
   ·exact h.elim
 ·exact h.elim
end
end Go.Dn
namespace Go.Dn
open _root_.Array renaming getElem?_setIfInBounds_ne -> Ah7
open _root_.Nat renaming blt -> Ah6
set_option linter.unusedVariables false
set_option maxRecDepth 100000
/-! ## Frames -/
def BQ(fr:Fr)(a:Act):Prop:=∀ i v,look fr i=some v->a.tmps[i]?=some v
theorem IH(j:Nat)(v:Value)(fr:Fr)(i:Nat):look ((j,v) :: fr) i=if j=i then some v else look fr i:=by
 show (bif Nat.beq j i then some v else look fr i)=_;by_cases h:j=i
 ·subst h;simp
 ·have:Nat.beq j i=false:=by
   cases hb:Nat.beq j i with
   | false=>rfl
   | true=>exact absurd (Nat.eq_of_beq_eq_true hb) h
  rw [this];simp [h]
theorem BQ.eval{fr:Fr}{a:Act}(h:BQ fr a):∀ x v,JH fr x=some v->a.eval x=v
 | .tmp t,v,hx=>by have:=h t v hx;simp [Act.eval,this]
 | .const u,v,hx=>by simpa [JH,Act.eval] using hx
 | .global g,v,hx=>by simpa [JH,Act.eval] using hx
 | .func f,v,hx=>by simpa [JH,Act.eval] using hx
theorem BQ.put{fr:Fr}{a:Act}{n:Nat}(h:BQ fr a)(hn:a.tmps.size=n)(d:Option Nat)(v:Value):BQ (put n fr d v) (a.put d v):=by
 cases d with
 | none=>exact h
 | some d =>
  intro i u hu;unfold Dn.put at hu;simp only [Act.put];cases hb:Ah6 d n with
  | true =>
   have hd:d<n:=by rw [Ah6,Nat.ble_eq] at hb;exact hb
   simp only [hb,cond_true,IH] at hu;by_cases hi:d=i
   ·subst hi;simp only [if_true] at hu;cases hu;simp [hn,hd]
   ·simp only [hi,if_false] at hu;rw [Ah7 hi];exact h i u hu
  | false =>
   simp only [hb,cond_false] at hu;have hd:¬ d<n:=by
    intro hd;have:Ah6 d n=true:=by rw [Ah6,Nat.ble_eq];exact hd
    rw [this] at hb;cases hb
   have h1:=h i u hu;have hi:i<a.tmps.size:=(Array.getElem?_eq_some_iff.1 h1).1;rw [Ah7 Omg];exact h1
theorem BQ.again{fr:Fr}{a:Act}{i:Nat}{v:Value}(h:BQ fr a)(hl:look fr i=some v):BQ ((i,v) :: fr) a:=by
 intro j u hu;rw [IH] at hu;by_cases dQ:i=j
 ·subst dQ;simp at hu;subst hu;exact h _ _ hl
 ·simp only [dQ,if_false] at hu;exact h _ _ hu
structure St(n:Nat)(a0:Act)(W:Nat->Bool)(nr:Bool)(a:Act):Prop where
 size:a.tmps.size=n
 defers:nr=true->a.defers=a0.defers
 same:∀ i,W i=false->a.tmps[i]?=a0.tmps[i]?
theorem St.put{n:Nat}{a0 a:Act}{W:Nat->Bool}{nr:Bool}(h:St n a0 W nr a)(d:Option Nat)(v:Value)(hd:∀ i,d=some i->W i=true):St n a0 W nr (a.put d v):=by
 cases d with
 | none=>exact h
 | some d =>
  refine⟨by simp [Act.put,h.size],h.defers,λ i hi=>?_⟩;have aQ:d≠i:=by
   intro he;subst he;rw [hd d rfl] at hi;cases hi
  simp only [Act.put];rw [Ah7 aQ];exact h.same i hi
/-! ## One operation -/
section
variable {P:Program}{kp:XA}{n:Nat}{ops:Array Oper}{a0:Act}
theorem Jd{o:Oper}{fr:Fr}{A B:Fr->Prop}{a:Act}(hg:BQ fr a)(h:P8 ops o fr A B) :
  (Region.wanted o (yielded ops a.tmps)=true/\∃ ag,BQ ag a/\A ag)\/(Region.wanted o (yielded ops a.tmps)=false/\∃ ag,BQ ag a/\B ag):=by
 unfold P8 at h;split at h
 ·rename_i ho;exact .inl ⟨by simp [Region.wanted,ho],fr,hg,h⟩
 ·rename_i j want ho;split at h
  ·exact h.elim
  ·rename_i d hd;split at h
   ·rename_i b hb;have hy:yielded ops a.tmps j=some b:=by simp [yielded,hd,hg d _ hb]
    cases b with
    | true =>
     have cU:=hg.again hb;cases want with
     | true=>exact .inl ⟨by simp [Region.wanted,ho,hy],_,cU,h⟩
     | false=>exact .inr ⟨by simp [Region.wanted,ho,hy],_,cU,h⟩
    | false =>
     have cU:=hg.again hb;cases want with
     | true=>exact .inr ⟨by simp [Region.wanted,ho,hy],_,cU,h⟩
     | false=>exact .inl ⟨by simp [Region.wanted,ho,hy],_,cU,h⟩
   ·rename_i vs hb;have hy:yielded ops a.tmps j=none:=by simp [yielded,hd,hg d _ hb]
    exact .inr ⟨by simp [Region.wanted,ho,hy],fr,hg,h⟩
   ·exact h.elim
theorem KY{o:Oper}(h:MX P o=true):∀ cs b,o.op≠.select cs b:=by
 intro cs b ho;simp [MX,ho] at h
theorem CN.mono{s:Sem Next}{k k':Value->World->Prop}{w:World}(h:CN P kp s k w)(hk:∀ v w',k v w'->k' v w'):CN P kp s k' w:=by
 unfold CN at *;split at h
 ·exact hk _ _ h
 ·exact hk _ _ h
 ·exact Calls.mono h λ e cQ hh=>hh.imp (fun⟨v,he,hh⟩=>⟨v,he,hk _ _ hh⟩) id
 ·exact RoundIn.mono h λ e cQ ⟨v,he,hh⟩=>⟨v,he,hk _ _ hh⟩
 ·exact h
 ·exact h.elim
theorem Adz{fr:Fr}{a:Act}{o:Oper}{k:Value->Gp->World->Prop}{w:World}(hg:BQ fr a)(h:dOp P kp (JH fr) o k w) :
  CN P kp (execOp a.eval o) (λ v w'=>∃ hh,k v hh w') w:=by
 unfold dOp at h;split at h
 ·rename_i hc;have hp:MX P o=true:=by
   unfold cls at hc;cases hh:MX P o with
   | true=>rfl
   | false=>simp only [hh,cond_false] at hc;split at hc <;> cases hc
  obtain⟨v,hk,hr⟩:=Vr (KY hp) hg.eval h;exact CN.OJ (hr w) ⟨_,hk⟩
 ·split at h
  ·rename_i t x ho;obtain⟨ad,v,hh,hx,hk,hholds,hr⟩:=Qg h;have gV:=hr w hholds;have he:=hg.eval _ _ hx;have hv:(execOp a.eval o).run P w=.ok (.value v) w:=by
    simp only [execOp,ho,he,Sem.run_bind,gV,Result.andThen_ok,Sem.run_pure]
   exact CN.OJ hv ⟨_,hk⟩
  ·exact h.elim
 ·exact (Tm hg.eval h).mono λ v w' hk=>⟨_,hk⟩
theorem Ab1{fr:Fr}{a:Act}{o:Oper}{rest:List Oper}{k:Value->Gp->World->Prop}{w:World}(hg:BQ fr a)(h:Agj P kp (JH fr) o rest k w) :
  CN P kp (execOp a.eval o) (λ v w'=>∃ hh,k v hh w') w:=by
 unfold Agj at h;split at h
 ·rename_i i ho;obtain⟨u,hl,h⟩:=BI h;have he:=hg.eval _ _ hl;have:=Dh (kp:=kp) h;have h2:CN P kp (execOp a.eval o) (λ v w'=>k v [] w') w:=by
   obtain⟨dst,op,type,pos,after,guard⟩:=o;cases ho;simpa only [execOp,he] using this
  exact h2.mono λ v w' hk=>⟨_,hk⟩
 ·exact Adz hg h
def Ae3(P:Program)(kp:XA)(o:Oper)(a:Act)(w:World)(K:Act->World->Prop):Prop:=CN P kp (execOp a.eval o) (λ v w'=>K (a.put o.dst v) w') w
def H2(P:Program)(kp:XA)(ops:Array Oper)(i:Nat)(K:Act->World->Prop)(a:Act)(w:World):Prop :=
 match ops[i]? with
 | none=>K a w
 | some o=>if Region.wanted o (yielded ops a.tmps) then Ae3 P kp o a w K else K (a.put o.dst undef) w
def Ux(P:Program)(kp:XA)(ops:Array Oper)(Q:Act->World->Prop):List Nat->Act->World->Prop
 | [],a,w=>Q a w
 | i :: rest,a,w=>H2 P kp ops i (Ux P kp ops Q rest) a w
theorem Uw{i:Nat}{a:Act}{w:World}{K K':Act->World->Prop}(h:∀ a w,K a w->K' a w)(hh:H2 P kp ops i K a w):H2 P kp ops i K' a w:=by
 unfold H2 at *;split
 ·exact h _ _ (by simpa [*] using hh)
 ·rename_i o ho;simp only [ho] at hh;split
  ·rename_i hw;simp only [hw,if_true] at hh;exact CN.mono hh λ v w'=>h _ _
  ·rename_i hw;simp only [hw] at hh;exact h _ _ hh
def FF(r:Option Nat):Fence:={ fn:=λ _=>True,depth:=none,alive:=false,round:=r }
theorem AaL(r:Option Nat)(m:Nat):(FF r).room m:=λ d hd=>by cases hd
theorem ZU{c:Call}{l:Nat}{dst:Option Tmp}{type:TypeId}{pos:_}{after:_}{guard:_}{ρ:Operand->Value}{k:Value->World->Prop}{w:World}(h:CN P kp (execOp ρ ⟨dst,.defer c,type,pos,after,guard⟩) k w) :
  (do Instr.deferInRound l (<- resolve ρ c type);pure .skip:Sem Next).run P w=(execOp ρ ⟨dst,.defer c,type,pos,after,guard⟩).run P w:=by
 unfold CN at h;simp only [execOp,Sem.run_bind] at h ⊢;generalize (resolve ρ c type).run P w=r at h ⊢;cases r with
 | ok d w'=>simp [Result.andThen] at h
 | halt x w'=>rfl
theorem Pw{o:Oper}{a:Act}{w:World}{K:Act->World->Prop}{Q:Exit->Act->World->Prop}(r:Option Nat)(m:Nat)(h:Ae3 P kp o a w K)(hP:∀ ch w,Aai kp ch w->Q (.panic ch) a w):o.wpIn (FF r) m P a w K Q:=by
 refine⟨λ _ _=>trivial,?_⟩;have hs:(o.semAt (FF r).round a.eval).run P w=(execOp a.eval o).run P w:=by
  unfold Oper.semAt;split
  ·rename_i l c hr ho;obtain⟨dst,op,type,pos,after,guard⟩:=o;simp only at ho;subst ho;exact ZU h
  ·rfl
 rw [hs];unfold Ae3 CN at h;split at h
 ·rename_i v w' hr;rw [hr];exact h
 ·rename_i w' hr;rw [hr];exact h
 ·rename_i f args w' hr;rw [hr];refine⟨λ hd=>(by cases hd),?_⟩;refine CallsIn.mono (F:=FF r) (R:=λ e cQ=>(∃ v,e=.returned v/\K (a.put o.dst v) cQ)\/∃ ch,e=.panicked ch/\Aai kp ch cQ) (callsIn_wide.2 h) λ e cQ hh=>?_;rcases hh with ⟨v,he,hk⟩ | ⟨ch,he,hk⟩
  ·subst he;exact hk
  ·subst he;exact hP _ _ hk
 ·rename_i l f tmps assign body w' hr;rw [hr];refine⟨λ hd=>(by cases hd),?_⟩;have h2:RoundIn (FF r) (m-1) P l f tmps assign body w' λ e cQ=>∃ v,e=.returned v/\K (a.put o.dst v) cQ:=⟨trivial,λ c cs _=>h.2 c cs (AaL none _)⟩;exact RoundIn.mono h2 λ e cQ ⟨v,he,hk⟩=>by subst he;exact hk
 ·rename_i v w' hr;rw [hr];exact hP _ _ h
 ·exact h.elim
theorem GQ{o:Oper}{i:Nat}:∀ {l:List Oper},o∈l->o.dst=some i->CB i l=true
 | x :: l,hm,hd=>by
  unfold CB;rcases List.mem_cons.1 hm with rfl | hm
  ·simp [hd]
  ·simp [GQ hm hd]
theorem St.Abd{a:Act}(h:St n a0 (λ i=>CB i ops.toList) true a){i:Nat}{o:Oper}(ho:ops[i]?=some o)(v:Value):St n a0 (λ i=>CB i ops.toList) true (a.put o.dst v) :=
 h.put o.dst v λ _ hi=>GQ (Array.mem_toList_iff.2 (Array.mem_of_getElem? ho)) hi
theorem GZ{Q:Act->World->Prop}{Q':Exit->Act->World->Prop}(r:Option Nat)(m:Nat)(hQ:∀ a w,Q a w->Q' .normal a w)(hP:∀ a ch w,St n a0 (λ i=>CB i ops.toList) true a->Aai kp ch w->Q' (.panic ch) a w):∀(l:List Nat) (a:Act) (w:World),St n a0 (λ i=>CB i ops.toList) true a->Ux P kp ops Q l a w->wpOpsIn (FF r) m P ops Q' l a w
 | [],a,w,_,h=>hQ a w h
 | i :: rest,a,w,aA,h=>by
  unfold Ux H2 at h;rw [wpOpsIn_cons];unfold wpOpIn;split at h
  ·rename_i ho;simp only [ho];exact GZ r m hQ hP rest a w aA h
  ·rename_i o ho;simp only [ho];split at h
   ·rename_i hw;rw [if_pos hw];exact Pw r m (CN.mono h λ v w' hk=>GZ r m hQ hP rest _ w' (aA.Abd ho v) hk) λ ch w' hk=>hP _ _ _ aA hk
   ·rename_i hw;rw [if_neg hw];exact⟨λ _ _=>trivial,GZ r m hQ hP rest _ w (aA.Abd ho _) h⟩
/-! ## Operations in the order of the text -/
def marks(ms:List Nat):List Deferred:=ms.map λ d=>{ target:=.collected d,args:=#[] }
def Ada(n:Nat)(a0:Act)(W:Nat->Bool)(nr:Bool)(K:Exit->Fr->List Nat->World->Prop)(e:Exit)(a:Act)(w:World):Prop :=
 St n a0 W nr a/\∃ fr ms,BQ fr a/\a.defers=marks ms/\K e fr ms w
def Adb(n:Nat)(a0:Act)(W:Nat->Bool)(K:Fr->World->Prop)(a:Act)(w:World):Prop:=St n a0 W true a/\∃ fr,BQ fr a/\K fr w
theorem MS{K:Fr->World->Prop}:∀(l:List Oper) (j:Nat),ops.toList.drop j=l->∀(fr:Fr) (w:World) (a:Act),BQ fr a->St n a0 (λ i=>CB i ops.toList) true a ->
  Afa P kp n ops l fr K w->Ux P kp ops (Adb n a0 (λ i=>CB i ops.toList) K) (List.range' j l.length) a w
 | [],_,_,fr,w,a,hg,aA,h=>⟨aA,fr,hg,h⟩
 | o :: l,j,hl,fr,w,a,hg,aA,h=>by
  have aB:j<ops.toList.length:=by
   rcases Nat.lt_or_ge j ops.toList.length with h' | h'
   ·exact h'
   ·rw [List.drop_eq_nil_of_le h'] at hl;cases hl
  have lu:=List.drop_eq_getElem_cons aB;rw [hl] at lu;injection lu with h1 h2
  have vk:ops[j]?=some o:=by
   have hj:j<ops.size:=by simpa using aB
   rw [Array.getElem?_eq_getElem hj];rw [h1];simp
  have aV:o∈ops.toList:=by rw [h1];exact List.getElem_mem _
  have hw:∀ i,o.dst=some i->CB i ops.toList=true:=λ i hi=>GQ aV hi;simp only [List.length_cons,List.range'_succ,Ux,H2,vk];rcases Jd hg h with ⟨hwant,ag,bD,h'⟩ | ⟨hwant,ag,bD,h'⟩
  ·simp only [hwant,if_true];refine CN.mono (Ab1 bD h') ?_;rintro v w' ⟨hh,hk⟩;exact MS l (j+1) h2.symm _ w' _ (bD.put aA.size o.dst v) (aA.put o.dst v hw) hk
  ·simp only [hwant];exact MS l (j+1) h2.symm _ w _ (bD.put aA.size o.dst undef) (aA.put o.dst undef hw) h'
end
end Go.Dn
namespace Go.Dn
open _root_.List renaming mem_cons -> Aia, mem_filter -> Ah8, mem_map -> Ah9
set_option linter.unusedVariables false
set_option maxRecDepth 100000
section
variable {P:Program}{kp:XA}{n:Nat}{ops:Array Oper}{a0:Act}{Q:Act->World->Prop}
def NO(P:Program)(kp:XA)(ops:Array Oper)(Q:Act->World->Prop):Nat->List (Nat × (World->Prop))->Array Bool->Act->World->Prop
 | 0,_,listed,a,w=>Region.ready .any ops listed=[]/\Q a w
 | fuel+1,Ss,listed,a,w=>(Region.ready .any ops listed=[]->Q a w) /\
  ∀ j∈Region.ready .any ops listed,H2 P kp ops j (λ a' w'=>(∀ s∈Ss,(EE ops j).contains s.1=false->s.2 w') /\
   NO P kp ops Q fuel (Ss.filter λ s=>!(EE ops j).contains s.1) (listed.setIfInBounds j true) a' w') a w
theorem Px{S:World->Prop}{i:Nat}{o:Oper}{v:Value}{a:Act}(hi:ops[i]?=some o)(hy:YieldsIf P ops S o v a)
  {K:Act->World->Prop} {w:World} (hS:S w) (h:K (a.put o.dst v) w):H2 P kp ops i K a w:=by
 unfold H2;simp only [hi];rcases hy with ⟨hw,hv⟩ | ⟨hw,rfl⟩
 ·simp only [hw,if_true];exact CN.OJ (hv w hS) h
 ·simp only [hw,Bool.false_eq_true,if_false];exact h
theorem Zx{S:World->Prop}{j:Nat}{oi oj:Oper}{v:Value}(hj:ops[j]?=some oj)(hap:oi.apart ops oj=true)
  (hsi:∀ cs b,oi.op≠.select cs b) (hsj:∀ cs b,oj.op≠.select cs b) {K:Act->World->Prop} {a:Act} {w:World}
  (hy:YieldsIf P ops S oi v a) (h:H2 P kp ops j K (a.put oi.dst v) w) :
  H2 P kp ops j (λ a' w'=>YieldsIf P ops S oi v a'/\K (a'.put oi.dst v) w') a w:=by
 obtain⟨h1,h2,h3⟩:=Oper.apart_spec hap;have keep:∀(a:Act),YieldsIf P ops S oi v a->∀ u,YieldsIf P ops S oi v (a.put oj.dst u):=λ a hy u =>
  hy.of_same (execOp_put oi hsi a oj.dst u h3) (wanted_put oi a oj.dst u h3)
 unfold H2 at *;simp only [hj] at *;rw [wanted_put oj a oi.dst v h1] at h;split
 ·rename_i hw;simp only [hw,if_true] at h;unfold Ae3 at *;rw [execOp_put oj hsj a oi.dst v h1] at h;exact CN.mono h λ u w' hk=>⟨keep a hy u,by rw [<- Act.put_comm a v u h2];exact hk⟩
 ·rename_i hw;simp only [hw] at h;exact⟨keep a hy _,by rw [<- Act.put_comm a v undef h2];exact h⟩
theorem Uv:∀(fuel:Nat) (Ss Ts:List (Nat × (World->Prop))) (listed:Array Bool) (a:Act) (w:World),(∀ s∈Ts,s∈Ss)->NO P kp ops Q fuel Ss listed a w->NO P kp ops Q fuel Ts listed a w
 | 0,_,_,_,_,_,_,h=>h
 | fuel+1,Ss,Ts,listed,a,w,hs,h=>by
  refine⟨h.1,λ j hj=>Uw (λ a' w' hh=>⟨λ s hm hc=>hh.1 s (hs s hm) hc,?_⟩) (h.2 j hj)⟩;exact Uv fuel _ _ _ _ _ (λ s hm=>by
   obtain⟨h1,h2⟩:=Ah8.1 hm;exact Ah8.2 ⟨hs s h1,h2⟩) hh.2
theorem GX{Q':Exit->Act->World->Prop}(r:Option Nat)(m:Nat)(hQ:∀ a w,Q a w->Q' .normal a w)(hP:∀ a ch w,St n a0 (λ i=>CB i ops.toList) true a->Aai kp ch w->Q' (.panic ch) a w):∀(fuel:Nat) (Ss:List (Nat × (World->Prop))) (listed:Array Bool) (a:Act) (w:World),St n a0 (λ i=>CB i ops.toList) true a->NO P kp ops Q fuel Ss listed a w->wpAnyIn (FF r) m P .any ops Q' fuel listed a w
 | 0,_,_,_,_,_,h=>⟨h.1,hQ _ _ h.2⟩
 | fuel+1,_,listed,a,w,aA,h=>by
  refine⟨λ h0=>hQ _ _ (h.1 h0),λ j hj=>?_⟩;have h2:=h.2 j hj;unfold H2 at h2;unfold wpOpIn;split at h2
  ·rename_i ho;simp only [ho];exact GX r m hQ hP fuel _ _ a w aA h2.2
  ·rename_i o ho;simp only [ho];split at h2
   ·rename_i hw;rw [if_pos hw];exact Pw r m (CN.mono h2 λ v w' hk=>GX r m hQ hP fuel _ _ _ w' (aA.Abd ho v) hk.2) λ ch w' hk=>hP _ _ _ aA hk
   ·rename_i hw;rw [if_neg hw];exact⟨λ _ _=>trivial,GX r m hQ hP fuel _ _ _ w (aA.Abd ho _) h2.2⟩
def H4(ops:Array Oper)(listed:Array Bool):Prop :=
 ∀ j oj,ops[j]?=some oj->listed.getD j false=true->∀ e∈oj.after,Region.binds .any e=true->listed.getD e.on false=true
theorem H4.set{listed:Array Bool}(h:H4 ops listed){i:Nat}(hi:i∈Region.ready .any ops listed):H4 ops (listed.setIfInBounds i true):=by
 obtain⟨_,oi,hoi,aF⟩:=mem_ready.1 hi;intro j oj hj hl e he hb;by_cases dQ:i=j
 ·subst dQ;have:oj=oi:=Option.some.inj (hj.symm.trans hoi);subst this;exact getD_set_true (aF e he hb)
 ·rw [getD_set_ne false dQ] at hl;exact getD_set_true (h j oj hj hl e he hb)
theorem H4.start:H4 ops (Array.replicate ops.size false):=by
 intro j oj hj hl;have aB:=(Array.getElem?_eq_some_iff.1 hj).1;simp [aB] at hl
theorem KW{listed:Array Bool}{j:Nat}(h:∀ oj,ops[j]?=some oj->∀ e∈oj.after,Region.binds .any e=true->listed.getD e.on false=true):∀ m∈SC ops j,listed.getD m false=true:=by
 intro m hm;unfold SC at hm;split at hm
 ·rename_i o ho;obtain⟨e,he,rfl⟩:=Ah9.1 hm;obtain⟨h1,h2⟩:=Ah8.1 he;exact h o ho e (Array.mem_toList_iff.1 h1) h2
 ·cases hm
theorem FZ{listed:Array Bool}(hc:H4 ops listed):∀(k:Nat) (s:List Nat),(∀ m∈s,listed.getD m false=true)->∀ m∈IK ops k s,listed.getD m false=true
 | 0,_,h=>h
 | k+1,s,h=>by
  unfold IK;cases hk:s.contains k with
  | true =>
   simp only [cond_true];refine FZ hc k _ λ m hm=>?_;rcases List.mem_append.1 hm with hm | hm
   ·exact KW (λ oj oB e he hb=>hc k oj oB (h k (by simpa using hk)) e he hb) m hm
   ·exact h m hm
  | false=>simp only [cond_false];exact FZ hc k s h
theorem Acs{listed:Array Bool}(hc:H4 ops listed){i j:Nat}(hi:i∈Region.ready .any ops listed)(hj:j∈Region.ready .any ops listed):(EE ops j).contains i=false:=by
 obtain⟨mE,oi,hoi,_⟩:=mem_ready.1 hi;obtain⟨_,oj,oB,aF⟩:=mem_ready.1 hj;cases vS:(EE ops j).contains i with
 | false=>rfl
 | true =>
  have hm:i∈EE ops j:=by simpa using vS
  have:=FZ hc j _ (KW λ o ho e he hb=>by
   have:o=oj:=Option.some.inj (ho.symm.trans oB);subst this;exact aF e he hb) i hm
  rcases Nat.lt_or_ge i listed.size with h' | h'
  ·simp [h'] at mE this;rw [mE] at this;cases this
  ·simp [Array.getElem?_eq_none h'] at this
theorem GY{i:Nat}{oi:Oper}{v:Value}{S:World->Prop}(hi:ops[i]?=some oi)(bW:∀(j:Nat) (o:Oper) cs b,ops[j]?=some o->o.op≠.select cs b) :
  ∀(fuel:Nat) (Ss Ts:List (Nat × (World->Prop))) (listed:Array Bool) (a:Act) (w:World),
   (∀ j oj,ops[j]?=some oj->j≠i->listed.getD j true=false->(∀ e∈oj.after,Region.binds .any e=true->e.on≠i)->oi.apart ops oj=true) ->
   H4 ops listed->i∈Region.ready .any ops listed->YieldsIf P ops S oi v a->S w->(∀ s∈Ss,s∈Ts)->((∀ w,S w)\/(i,S)∈Ts)->(∀ s∈Ts,s.2 w) ->
   NO P kp ops Q fuel Ts (listed.setIfInBounds i true) (a.put oi.dst v) w->NO P kp ops Q (fuel+1) Ss listed a w:=by
 intro fuel
 induction fuel with
 | zero =>
  intro Ss Ts listed a w _ bQ hr hy hS dD hE aF H;refine⟨λ h=>(by rw [h] at hr;cases hr),λ j hj=>?_⟩;by_cases dX:j=i
  ·subst dX;exact Px hi hy hS ⟨λ s hs _=>aF s (dD s hs),H⟩
  ·have:=ready_mono hj dX;rw [H.1] at this;cases this
 | succ fuel ih =>
  intro Ss Ts listed a w dJ bQ hr hy hS dD hE aF H;refine⟨λ h=>(by rw [h] at hr;cases hr),λ j hj=>?_⟩;by_cases dX:j=i
  ·subst dX;refine Px hi hy hS ⟨λ s hs _=>aF s (dD s hs),?_⟩;exact Uv _ _ _ _ _ _ (λ s hs=>dD s (Ah8.1 hs).1) H
  ·have h1:=H.2 j (ready_mono hj dX);obtain⟨hjun,oj,oB,yZ⟩:=mem_ready.1 hj;have wX:∀ e∈oj.after,Region.binds .any e=true->e.on≠i:=λ e he hb heq=>by
    have h1:=yZ e he hb;have h0:=(mem_ready.1 hr).1;rw [heq] at h1;rcases Nat.lt_or_ge i listed.size with h' | h'
    ·simp [h'] at h0 h1;rw [h0] at h1;cases h1
    ·simp [Array.getElem?_eq_none h'] at h1
   have yq:=Acs bQ hr hj;have h2:=Zx oB (dJ j oj oB dX hjun wX) (λ cs b=>bW i oi cs b hi) (λ cs b=>bW j oj cs b oB) hy h1;have nY:∀ k ok,ops[k]?=some ok->k≠i->(listed.setIfInBounds j true).getD k true=false ->
     (∀ e∈ok.after,Region.binds .any e=true->e.on≠i)->oi.apart ops ok=true:=λ k ok hk wF mE aP=>by
    refine dJ k ok hk wF ?_ aP;by_cases vv:j=k
    ·subst vv;exact hjun
    ·rw [getD_set_ne true vv] at mE;exact mE
   refine Uw (λ a' w' h3=>?_) h2;obtain⟨hy',hreq,H'⟩:=h3;have hS':S w':=by
    rcases hE with hE | hE
    ·exact hE w'
    ·exact hreq (i,S) hE yq
   refine⟨λ s hs hc=>hreq s (dD s hs) hc,ih _ (Ts.filter λ s=>!(EE ops j).contains s.1) (listed.setIfInBounds j true) a' w' nY (bQ.set hj) (ready_mono hr (Ne.symm dX)) hy' hS' ?_ ?_ ?_ ?_⟩
   ·intro s hs;obtain⟨h1,h2⟩:=Ah8.1 hs;exact Ah8.2 ⟨dD s h1,h2⟩
   ·rcases hE with hE | hE
    ·exact .inl hE
    ·exact .inr (Ah8.2 ⟨hE,by simp only [yq];rfl⟩)
   ·intro s hs;obtain⟨h1,h2⟩:=Ah8.1 hs;exact hreq s h1 (by simpa using h2)
   ·rw [Array.setIfInBounds_comm _ _ dX];exact H'
theorem NH{ps:List Nat}{w:World}{X:Prop}:∀ {held:List (Nat × Gp)},stands ps held w X->(∀ s∈held,ps.contains s.1=false->holds s.2 w)/\X
 | [],h=>⟨Osi,h⟩
 | s :: r,h=>by
  unfold stands at h;cases hc:ps.contains s.1 with
  | true =>
   simp only [hc,cond_true] at h;obtain⟨h1,h2⟩:=NH h;refine⟨λ t ht rG=>?_,h2⟩;rcases Aia.1 ht with rfl | ht
   ·rw [hc] at rG;cases rG
   ·exact h1 t ht rG
  | false =>
   simp only [hc,cond_false] at h;obtain⟨h0,h⟩:=h;obtain⟨h1,h2⟩:=NH h;refine⟨λ t ht rG=>?_,h2⟩;rcases Aia.1 ht with rfl | ht
   ·exact h0
   ·exact h1 t ht rG
theorem XD{f:Nat->Prop}:∀ {l:List Nat},Agd l f->∀ i∈l,f i
 | [],_,_,hi=>by cases hi
 | [i],h,j,hj=>by simp at hj;subst hj;exact h
 | i :: k :: r,h,j,hj=>by
  obtain⟨h1,h2⟩:=h;rcases Aia.1 hj with rfl | hj
  ·exact h1
  ·exact XD h2 j hj
def asS(held:List (Nat × Gp)):List (Nat × (World->Prop)):=held.map λ s=>(s.1,holds s.2)
theorem XJ(ps:List Nat)(held:List (Nat × Gp)):(asS held).filter (λ s=>!ps.contains s.1)=asS (kept ps held):=by
 unfold asS kept;rw [List.filter_map];rfl
theorem Aci{c:Cls}{i:Nat}{o:Oper}(ho:ops[i]?=some o)(h:Aa5 P ops c i=true):cls P o=c:=by
 unfold Aa5 at h;simp only [ho] at h;cases h1:cls P o <;> cases c <;> simp_all [Ag3]
theorem Adr{o:Oper}(h:cls P o=.pure):MX P o=true:=by
 unfold cls at h;cases hh:MX P o with
 | true=>rfl
 | false=>simp only [hh,cond_false] at h;split at h <;> cases h
theorem XT(bW:Region.noSelect ops=true){K:Fr->World->Prop}:∀(fuel:Nat) (listed:Array Bool) (held:List (Nat × Gp)) (fr:Fr) (w:World) (a:Act),
  BQ fr a->St n a0 (λ i=>CB i ops.toList) true a->H4 ops listed->(∀ s∈held,holds s.2 w) ->
  Mp P kp n ops fuel listed held fr K w->NO P kp ops (Adb n a0 (λ i=>CB i ops.toList) K) fuel (asS held) listed a w:=by
 have hs:=Region.noSelect_spec bW;have pK:∀(j:Nat) (o:Oper),ops[j]?=some o->∀ i,o.dst=some i->CB i ops.toList=true:=λ j o ho i hi =>
  GQ (Array.mem_toList_iff.2 (Array.mem_of_getElem? ho)) hi
 intro fuel
 induction fuel with
 | zero =>
  intro listed held fr w a hg aA _ _ h;unfold Mp at h;cases hr:Region.ready .any ops listed with
  | nil=>rw [hr] at h;exact⟨hr,aA,fr,hg,h⟩
  | cons x r=>rw [hr] at h;exact h.elim
 | succ fuel ih =>
  intro listed held fr w a hg aA bQ cL h;unfold Mp at h;split at h
  ·rename_i hr;refine⟨λ _=>⟨aA,fr,hg,h⟩,λ j hj=>?_⟩;rw [hr] at hj;cases hj
  ·rename_i i0 rs hr;split at h
   ·rename_i i gw;have aV:i∈Region.ready .any ops listed:=by rw [hr];exact List.mem_of_find?_eq_some gw
    have vQ:=List.find?_some gw;split at h
    ·rename_i o ho;cases nX:Region.free .any ops listed i with
     | false=>rw [nX] at h;exact h.elim
     | true =>
      rw [nX] at h;simp only [cond_true] at h;have hp:=Adr (Aci ho vQ);have dJ:=Region.free_spec ho nX;rcases Jd hg h with ⟨hwant,ag,bD,h'⟩ | ⟨hwant,ag,bD,h'⟩
      ·obtain⟨v,hk,aG⟩:=Vr (KY hp) bD.eval h';refine GY (S:=λ _=>True) ho hs fuel _ (asS held) listed a w dJ bQ aV (.inl ⟨hwant,λ w _=>aG w⟩) trivial (λ _ h=>h) (.inl λ _=>trivial) ?_ ?_
       ·intro s d';obtain⟨t,ht,rfl⟩:=Ah9.1 d';exact cL t ht
       ·exact ih _ _ _ _ _ (bD.put aA.size o.dst v) (aA.put o.dst v (pK i o ho)) (bQ.set aV) cL hk
      ·refine GY (S:=λ _=>True) (v:=undef) ho hs fuel _ (asS held) listed a w dJ bQ aV (.inr ⟨hwant,rfl⟩) trivial (λ _ h=>h) (.inl λ _=>trivial) ?_ ?_
       ·intro s d';obtain⟨t,ht,rfl⟩:=Ah9.1 d';exact cL t ht
       ·exact ih _ _ _ _ _ (bD.put aA.size o.dst undef) (aA.put o.dst undef (pK i o ho)) (bQ.set aV) cL h'
    ·exact h.elim
   ·split at h
    ·rename_i i gw;have aV:i∈Region.ready .any ops listed:=by rw [hr];exact List.mem_of_find?_eq_some gw
     split at h
     ·rename_i o ho;cases nX:Region.free .any ops listed i with
      | false=>rw [nX] at h;exact h.elim
      | true =>
       rw [nX] at h;simp only [cond_true] at h;have dJ:=Region.free_spec ho nX;rcases Jd hg h with ⟨hwant,ag,bD,h'⟩ | ⟨hwant,ag,bD,h'⟩
       ·split at h'
        ·rename_i t x hop;obtain⟨ad,v,hh,hx,hk,hholds,aG⟩:=Qg h';have he:=bD.eval _ _ hx;have hv:∀ w',holds hh w'->(execOp a.eval o).run P w'=.ok (.value v) w':=λ w' lP=>by
          simp only [execOp,hop,he,Sem.run_bind,aG w' lP,Result.andThen_ok,Sem.run_pure]
         refine GY (S:=holds hh) ho hs fuel _ (asS ((i,hh) :: held)) listed a w dJ bQ aV (.inl ⟨hwant,hv⟩) hholds ?_ (.inr ?_) ?_ ?_
         ·intro s d';exact List.mem_cons_of_mem _ d'
         ·exact List.mem_cons_self
         ·intro s d';obtain⟨t,ht,rfl⟩:=Ah9.1 d';rcases Aia.1 ht with rfl | ht
          ·exact hholds
          ·exact cL t ht
         ·exact ih _ _ _ _ _ (bD.put aA.size o.dst v) (aA.put o.dst v (pK i o ho)) (bQ.set aV) (λ s d'=>by
           rcases Aia.1 d' with rfl | ht
           ·exact hholds
           ·exact cL s ht) hk
        ·exact h'.elim
       ·refine GY (S:=λ _=>True) (v:=undef) ho hs fuel _ (asS held) listed a w dJ bQ aV (.inr ⟨hwant,rfl⟩) trivial (λ _ h=>h) (.inl λ _=>trivial) ?_ ?_
        ·intro s d';obtain⟨t,ht,rfl⟩:=Ah9.1 d';exact cL t ht
        ·exact ih _ _ _ _ _ (bD.put aA.size o.dst undef) (aA.put o.dst undef (pK i o ho)) (bQ.set aV) cL h'
     ·exact h.elim
    ·refine⟨(λ h0=>by rw [hr] at h0;cases h0),λ j hj=>?_⟩;have qj:=XD h j (by rw [<- hr];exact hj);split at qj
     ·rename_i o ho;unfold H2;simp only [ho];rcases Jd hg qj with ⟨hwant,ag,bD,h'⟩ | ⟨hwant,ag,bD,h'⟩
      ·simp only [hwant,if_true];refine CN.mono (Tm bD.eval h') λ v w' hk=>?_;obtain⟨k6,hk⟩:=NH hk;refine⟨λ s d' hc=>?_,?_⟩
       ·obtain⟨t,ht,rfl⟩:=Ah9.1 d';exact k6 t ht hc
       ·rw [XJ];exact ih _ _ _ _ _ (bD.put aA.size o.dst v) (aA.put o.dst v (pK j o ho)) (bQ.set hj) (λ s d'=>by
         obtain⟨h1,h2⟩:=Ah8.1 d';exact k6 s h1 (by simpa using h2)) hk
      ·simp only [hwant];refine⟨λ s d' _=>?_,?_⟩
       ·obtain⟨t,ht,rfl⟩:=Ah9.1 d';exact cL t ht
       ·rw [XJ];exact ih _ _ _ _ _ (bD.put aA.size o.dst undef) (aA.put o.dst undef (pK j o ho)) (bQ.set hj) (λ s d'=>cL s (Ah8.1 d').1) h'
     ·exact qj.elim
end
end Go.Dn
