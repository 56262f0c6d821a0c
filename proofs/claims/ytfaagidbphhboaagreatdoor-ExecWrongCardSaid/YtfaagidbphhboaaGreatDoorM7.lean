/-
  Texts of this claim, laid one behind the other by a program of mine (install.py): X.Kd, X.Qu, X.Kd2, X.Node, X.Formed, X.Formed2, X.Idx, Dn.Sh3, X.VTake0, X.VLay2, X.TakeS, X.VTake, X.VTake2, X.VTake3, X.Sch7, X.Sch8, X.Unpack, X.Unpack2, X.Take, X.DecLaw, X.Sum2, X.Table, X.Dec, X.Ch0, X.Sch9, X.Seg1, X.Seg2.
-/
import Derived.Test.YtfaagidbphhboaaGreatDoorM6
import Derived.Test.YtfaagidbphhboaaGreatDoorM4
import Derived.Lib.ItoaLen
import Derived.Test.YtfaagidbphhboaaGreatDoorM3
namespace Go.Proofs.YtfaagidbphhboaaGreatDoor
open _root_.Bool renaming and_eq_true -> Ai8
set_option maxRecDepth 100000
open Go.Dn Go.Proofs
open Go.RowKit (Below)
set_option linter.unusedVariables false
/-! ### kinds -/
def DR(op:Int):Int:=if op=12\/op=13\/op=14 then 2 else if op=16 then 3 else if 3<=op/\op<=8 then 1 else 0
def FO(op:Int):Int:=if 9<=op/\op<=15 then 2 else 1
def F6(a b:Int):Bool:=decide (a=b) || decide (a=0) || decide (b=0)
def Hn(cs:List AA)(s:ByteArray):Option Nat:=cs.findIdx? λ c=>decide (c.1=s)
def Rj(cs:List AA)(s:ByteArray):Except Int Int :=
 match Hn cs s with
 | none=>.error 120
 | some i=>.ok (cs.getD i (E0,0,false)).2.1
def OW(cs:List AA)(op:Int)(nm:ByteArray)(v:AV)(l:List Int):Except Int Int :=
 if DR op≠0/\l.any (λ k=>!F6 k (DR op))=true then .error 121 else
 if op=1 then Rj cs nm else if op=2 then .ok v.1 else
 if (op=9\/op=10\/op=11)/\F6 (l.getD 0 0) (l.getD 1 0)=false then .error 121 else .ok (FO op)
mutual
def Ex.kind(cs:List AA):Ex->Except Int Int
 | .mk op nm v ks =>
  match Ex.kinds cs ks with
  | .error e=>.error e
  | .ok l=>OW cs op nm v l
def Ex.kinds(cs:List AA):List Ex->Except Int (List Int)
 | []=>.ok []
 | k :: ks =>
  match Ex.kind cs k with
  | .error e=>.error e
  | .ok i=>match Ex.kinds cs ks with
   | .error e=>.error e
   | .ok l=>.ok (i :: l)
end
def TR(r:Except Int Int):Value :=
 match r with
 | .ok k=>.tuple #[.int .i64 k,.int .i64 0]
 | .error e=>.tuple #[.int .i64 0,.int .i64 e]
def Fa(cs:List AA)(x:Ex):Except Int Int :=
 if Ai cs then (if x.formed then x.kind cs else .error 122) else .error 50
/-! ### names -/
mutual
def Ex.names:Ex->List ByteArray
 | .mk op nm _ ks=>(if op=1 then [nm] else [])++Ex.G6 ks
def Ex.G6:List Ex->List ByteArray
 | []=>[]
 | k :: ks=>k.names++Ex.G6 ks
end
theorem XI:∀(x:Ex) (d:Nat),x.T8 (41-d)=true->((x.nodes d).filter λ p=>decide (p.2.op=1)).map (λ p=>p.2.nm)=x.names:=by
 intro x
 induction x using Ex.ind with
 | h op nm v ks ih =>
  intro d h;have hd:d<=40:=by
   apply Classical.byContradiction;intro hn;rw [show 41-d=0 by omega] at h;simp [Ex.T8] at h
  rw [show 41-d=(41-(d+1))+1 by omega] at h;simp only [Ex.T8,Ai8] at h;have hL:∀(l:List Ex),(∀ k∈l,k∈ks)->Ex.okL l (41-(d+1))=true->((Ex.A5 l (d+1)).filter λ p=>decide (p.2.op=1)).map (λ p=>p.2.nm)=Ex.G6 l:=by
   intro l
   induction l with
   | nil=>intro _ _;simp [Ex.A5,Ex.G6]
   | cons k l ihl =>
    intro hl aZ;simp only [Ex.okL,Ai8] at aZ;simp only [Ex.A5,Ex.G6,List.filter_append,List.map_append,ih k (hl k (by simp)) (d+1) aZ.1,ihl (λ y hy=>hl y (by simp [hy])) aZ.2]
  simp only [Ex.nodes,Ex.names,if_pos hd];by_cases h1:op=1
  ·rw [List.filter_cons_of_pos (by simp [Ex.op,h1]),List.map_cons,hL ks (λ _ h=>h) h.2,if_pos h1];rfl
  ·rw [List.filter_cons_of_neg (by simp [Ex.op,h1]),hL ks (λ _ h=>h) h.2,if_neg h1];rfl
/-! ### alike -/
mutual
def Ex.same:Ex->Ex->Bool
 | .mk op nm v ks,.mk op' nm' v' ks'=>decide (op=op'/\nm=nm'/\v=v') && Ex.Gt ks ks'
def Ex.Gt:List Ex->List Ex->Bool
 | [],[]=>true
 | x :: xs,y :: ys=>x.same y && Ex.Gt xs ys
 | _,_=>false
end
theorem Nd:∀(x y:Ex),x.same y=true↔x=y:=by
 intro x
 induction x using Ex.ind with
 | h op nm v ks ih =>
  rintro⟨op',nm',v',ks'⟩;have hL:∀(l l':List Ex),(∀ k∈l,k∈ks)->(Ex.Gt l l'=true↔l=l'):=by
   intro l
   induction l with
   | nil=>intro l' _;cases l' <;> simp [Ex.Gt]
   | cons k l ihl =>
    intro l' hl;cases l' with
    | nil=>simp [Ex.Gt]
    | cons k' l' =>
     simp only [Ex.Gt,Ai8,ih k (hl k (by simp)),ihl l' (λ y hy=>hl y (by simp [hy])),List.cons.injEq]
  simp only [Ex.same,Ai8,decide_eq_true_eq,hL ks ks' (λ _ h=>h),Ex.mk.injEq];constructor
  ·rintro⟨⟨h1,h2,h3⟩,h4⟩;exact⟨h1,h2,h3,h4⟩
  ·rintro⟨h1,h2,h3,h4⟩;exact⟨⟨h1,h2,h3⟩,h4⟩
theorem Ov:∀(l l':List Ex),Ex.Gt l l'=true↔l=l'
 | [],l'=>by cases l' <;> simp [Ex.Gt]
 | x :: l,[]=>by simp [Ex.Gt]
 | x :: l,y :: l'=>by simp only [Ex.Gt,Ai8,Nd,Ov l l',List.cons.injEq]
theorem Ex.X6:∀ {xs ys:List Ex},xs.length≠ys.length->Ex.Gt xs ys=false
 | [],[],h=>absurd rfl h
 | [],_ :: _,_=>rfl
 | _ :: _,[],_=>rfl
 | x :: xs,y :: ys,h=>by
  simp only [Ex.Gt,Ex.X6 (xs:=xs) (ys:=ys) (by simpa using h),Bool.and_false]
/-! ### texts -/
def lit(l:List UInt8):ByteArray:=⟨l.toArray⟩
def Ox(op:Int):ByteArray :=
 if op=13 then ⟨#[111,114]⟩ else if op=12 then ⟨#[97,110,100]⟩ else if op=9 then ⟨#[61]⟩ else if op=10 then ⟨#[60]⟩ else if op=11 then ⟨#[60,61]⟩ else
 if op=3 then ⟨#[43]⟩ else if op=4 then ⟨#[45]⟩ else if op=5 then ⟨#[42]⟩ else if op=6 then ⟨#[47]⟩ else ⟨#[37]⟩
def rowOf(op:Int):Int :=
 if op=13 then 1 else if op=12 then 2 else if op=14 then 3 else if op=15 then 4 else if op=9\/op=10\/op=11 then 5 else if op=3\/op=4 then 6 else if op=5\/op=6\/op=7 then 7 else
 if op=8 then 8 else 9
def ML(op:Int)(v:AV):Int:=if op=2/\v.2.1<0 then 8 else rowOf op
def Ex.lvl(x:Ex):Int:=ML x.op x.v
def AhX(s:ByteArray):ByteArray:=⟨#[40]⟩++s++⟨#[41]⟩
def Uv(l need:Int)(s:ByteArray):ByteArray:=if l<need then AhX s else s
def isNum(op:Int)(v:AV):Bool:=decide (op=2/\v.1=1)
def Ee(op:Int):Int:=if rowOf op=5 then 6 else rowOf op
def Vv(ts:List (Int × Bool × ByteArray))(i:Nat)(need:Int):ByteArray:=Uv (ts.getD i (9,false,E0)).1 need (ts.getD i (9,false,E0)).2.2
def Gf(op:Int)(nm:ByteArray)(v:AV)(ts:List (Int × Bool × ByteArray)):ByteArray :=
 if op=1 then nm else if op=2 then Dz (JN v) else
 if op=16 then ⟨#[108,101,110,40]⟩++Vv ts 0 1++⟨#[41]⟩ else
 if op=14 then ⟨#[110,111,116,32]⟩++Vv ts 0 3 else
 if op=15 then Vv ts 0 5++⟨#[32,105,115,32,110,117,108,108]⟩ else
 if op=8 then (if (ts.getD 0 (9,false,E0)).2.1=true then ⟨#[45,40]⟩++Vv ts 0 1++⟨#[41]⟩ else ⟨#[45]⟩++Vv ts 0 8) else
 Vv ts 0 (Ee op)++⟨#[32]⟩++Ox op++⟨#[32]⟩++Vv ts 1 (rowOf op+1)
mutual
def Ex.text:Ex->ByteArray
 | .mk op nm v ks=>Gf op nm v (Ex.texts ks)
def Ex.texts:List Ex->List (Int × Bool × ByteArray)
 | []=>[]
 | k :: ks=>(k.lvl,isNum k.op k.v,k.text) :: Ex.texts ks
end
def Ex.at(x:Ex)(need:Int):ByteArray:=Uv x.lvl need x.text
theorem Ahd(op:Int)(v:AV):1<=ML op v:=by
 unfold ML rowOf
 repeat' split
 all_goals omega
theorem at_one(x:Ex):x.at 1=x.text:=by
 unfold Ex.at Uv;rw [if_neg];have:=Ahd x.op x.v;unfold Ex.lvl;omega
theorem AcC{v:AV}(h:AG v=true)(hv:F5 v):(JN v).length<=2050:=by
 unfold JN;have hk:=DL h;split
 ·decide
 ·split
  ·have:=Lib.itoa_length_le v.2.1 hv.lo hv.hi;omega
  ·split
   ·unfold Lib.formatBool;split <;> decide
   ·have hq:=RQ (bl v.2.2);have hb:=Bs v.2.2;simp only [List.length_append,List.length_cons,List.length_nil];omega
end Go.Proofs.YtfaagidbphhboaaGreatDoor
namespace Go.Proofs.YtfaagidbphhboaaGreatDoor
open _root_.Bool renaming and_eq_true -> Ai8
open _root_.ByteArray renaming mk -> AjR, size_append -> Ako
open _root_.Int renaming toNat_natCast -> AjB
open _root_.List.Perm renaming cons -> Akr
open _root_.List renaming append_assoc -> Ajw, getElem_mem -> Akj, mem_append -> Akn, mem_singleton -> Akq, take_of_length_le -> Akp, take_succ_eq_append_getElem -> Akm
open _root_.Nat renaming add_mul -> Ajk
set_option maxRecDepth 100000
open Go.Dn Go.Proofs
open Go.RowKit (Below)
set_option linter.unusedVariables false
abbrev F4:=ByteArray × Int × Ex
structure Qu where
 it:List F4
 wh:List Ex
 gr:List Ex
 od:List (Int × Bool)
 lim:Int
/-! ### cells -/
def L3(F:Nat->Prop)(w:World)(i:F4)(cs:List Value):Prop:=∃ c,cs=.string i.1 :: .int .i64 i.2.1 :: c/\DT F w i.2.2 c/\i.1.size<=maxLen/\i64 i.2.1
def Ax{α:Type}(C:α->List Value->Prop):List α->List Value->Prop
 | [],cs=>cs=[]
 | x :: xs,cs=>∃ c r,cs=c++r/\C x c/\Ax C xs r
structure SlC{α:Type}(F:Nat->Prop)(w:World)(C:α->List Value->Prop)(l:List α)(v:Value):Prop where
 ex:∃ a cap rs,v=.slice a l.length cap/\Rd w a rs/\(∀ p,a=some p->rs≠[]->¬ F p.block)/\l.length<=cap/\cap<=maxLen/\(a=none->cap=0)/\Ax C l rs
def Lj(k:Int × Bool)(cs:List Value):Prop:=cs=[.int .i64 k.1,.bool k.2]/\i64 k.1
structure QuC(F:Nat->Prop)(w:World)(q:Qu)(vs:List Value):Prop where
 ex:∃ vi vw vg vo,vs=[vi,vw,vg,vo,.int .i64 q.lim]/\SlC F w (L3 F w) q.it vi/\SlC F w (DT F w) q.wh vw/\SlC F w (DT F w) q.gr vg/\SlC F w Lj q.od vo/\i64 q.lim
section
variable {α:Type}{C D:α->List Value->Prop}{F G:Nat->Prop}{w w':World}
theorem Ax.mono(h:∀ x c,C x c->D x c):∀ {l:List α} {cs:List Value},Ax C l cs->Ax D l cs
 | [],cs,hr=>hr
 | x :: l,cs,⟨c,r,e,h1,h2⟩=>⟨c,r,e,h x c h1,Ax.mono h h2⟩
theorem Ax.len{n:Nat}(hn:∀ x c,C x c->c.length=n):∀ {l:List α} {cs:List Value},Ax C l cs->cs.length=l.length*n
 | [],cs,h=>by unfold Ax at h;subst h;simp
 | x :: xs,cs,⟨c,r,e,h1,h2⟩=>by
  subst e;have:=hn x c h1;have:=Ax.len hn h2;simp only [List.length_append,List.length_cons,Ajk,Nat.one_mul];omega
theorem Ax.get{n:Nat}(hn:∀ x c,C x c->c.length=n):∀ {l:List α} {cs:List Value},Ax C l cs->∀(i:Nat) (hi:i<l.length),C l[i] ((cs.drop (i*n)).take n)
 | [],cs,h,i,hi=>by simp at hi
 | x :: xs,cs,⟨c,r,e,h1,h2⟩,i,hi=>by
  subst e;have hl:=hn x c h1;cases i with
  | zero =>
   have:((c++r).drop (0*n)).take n=c:=by rw [Nat.zero_mul,List.drop_zero,List.take_append_of_le_length (by omega),Akp (by omega)]
   rw [this];exact h1
  | succ i =>
   have:((c++r).drop ((i+1)*n)).take n=(r.drop (i*n)).take n:=by
    rw [List.drop_append,List.drop_eq_nil_of_le (by rw [Ajk];omega),List.nil_append,hl,Ajk];congr 2;omega
   rw [this];exact Ax.get hn h2 i (by simpa using hi)
theorem Ax.of{n:Nat}:∀ {l:List α} {cs:List Value},cs.length=l.length*n->(∀(i:Nat) (hi:i<l.length),C l[i] ((cs.drop (i*n)).take n))->Ax C l cs
 | [],cs,hl,h=>by unfold Ax;simpa using hl
 | x :: xs,cs,hl,h=>by
  simp only [List.length_cons,Ajk,Nat.one_mul] at hl;refine⟨cs.take n,cs.drop n,(List.take_append_drop n cs).symm,by have:=h 0 (by simp);rw [List.getElem_cons_zero,Nat.zero_mul,List.drop_zero] at this;exact this,Ax.of (n:=n) (by simp;omega) λ i hi=>?_⟩;have:=h (i+1) (by simpa using hi);simp only [List.getElem_cons_succ] at this;rw [List.drop_drop];rwa [show n+i*n=(i+1)*n by rw [Ajk];omega]
theorem Ax.append:∀ {l m:List α} {cs ds:List Value},Ax C l cs->Ax C m ds->Ax C (l++m) (cs++ds)
 | [],m,cs,ds,h,h'=>by unfold Ax at h;subst h;exact h'
 | x :: xs,m,cs,ds,⟨c,r,e,h1,h2⟩,h'=>by
  subst e;rw [Ajw];exact⟨c,r++ds,rfl,h1,Ax.append h2 h'⟩
theorem F2:∀ {l:List Ex} {cs:List Value},Ax (DT F w) l cs↔IX F w l cs
 | [],cs=>by unfold Ax IX;exact Iff.rfl
 | x :: l,cs=>by
  unfold IX;constructor
  ·rintro⟨c,r,e,h1,h2⟩;exact⟨c,r,e,h1,F2.1 h2⟩
  ·rintro⟨c,r,e,h1,h2⟩;exact⟨c,r,e,h1,F2.2 h2⟩
theorem L3.len{i:F4}{cs:List Value}(h:L3 F w i cs):cs.length=8:=by
 obtain⟨c,rfl,h,_⟩:=h;have:=h.len;simp [this]
theorem Xn{k:Int × Bool}{cs:List Value}(h:Lj k cs):cs.length=2:=by rw [h.1];rfl
theorem L3.grown(hk:Below w.heap.size w w'){i:F4}{cs:List Value}(h:L3 F w i cs):L3 F w' i cs:=by
 obtain⟨c,e,h1,h2⟩:=h;exact⟨c,e,h1.grown hk,h2⟩
end
/-! ### which queries may be -/
def CA:List ByteArray :=
 [⟨#[115,101,108,101,99,116]⟩,⟨#[119,104,101,114,101]⟩,⟨#[103,114,111,117,112]⟩,⟨#[98,121]⟩,⟨#[111,114,100,101,114]⟩,⟨#[108,105,109,105,116]⟩,⟨#[97,115]⟩,⟨#[97,110,100]⟩,⟨#[111,114]⟩,⟨#[110,111,116]⟩,
 ⟨#[105,115]⟩,⟨#[110,117,108,108]⟩,⟨#[116,114,117,101]⟩,⟨#[102,97,108,115,101]⟩,⟨#[108,101,110]⟩,⟨#[100,101,115,99]⟩,⟨#[99,111,117,110,116]⟩,⟨#[115,117,109]⟩,⟨#[109,105,110]⟩,⟨#[109,97,120]⟩]
def Re(s:ByteArray):Bool:=CA.any λ k=>decide (k=s)
def Ic(s:ByteArray):Bool:=Cp s && !Re s
def BG(x:Ex):Bool:=x.formed && x.names.all Ic
def OK(x:Ex):Bool:=decide (x.op=0) && decide (x.nm=E0) && decide (x.v=V0) && decide (x.ks.length=0)
def BF(i:F4):Bool:=Ic i.1 && decide (0<=i.2.1/\i.2.1<=5) && (if i.2.1=1 then OK i.2.2 else BG i.2.2)
def placeOf(l:List F4)(s:ByteArray):Option Nat:=l.findIdx? λ x=>decide (x.1=s)
def Eh(l:List F4)(k:Int):Bool:=decide (0<=k/\k<l.length) && decide (placeOf l (l.getD k.toNat (E0,0,.mk 0 E0 V0 [])).1=some k.toNat)
def Fq(q:Qu):Bool :=
 decide (1<=q.it.length/\q.it.length<=16/\q.wh.length<=1/\q.gr.length<=4/\q.od.length<=4 /\ -1<=q.lim/\q.lim<=4096) && q.it.all BF && q.wh.all BG && q.gr.all BG && q.od.all λ k=>Eh q.it k.1
def Mb(a:Int):ByteArray:=if a=2 then ⟨#[99,111,117,110,116]⟩ else if a=3 then ⟨#[115,117,109]⟩ else if a=4 then ⟨#[109,105,110]⟩ else ⟨#[109,97,120]⟩
def Kx(i:F4):ByteArray :=
 (if i.2.1=0 then i.2.2.text else if i.2.1=1 then ⟨#[99,111,117,110,116,40,42,41]⟩ else Mb i.2.1++⟨#[40]⟩++i.2.2.text++⟨#[41]⟩)++⟨#[32,97,115,32]⟩++i.1
def Jb:List ByteArray->ByteArray
 | []=>E0
 | [x]=>x
 | x :: y :: l=>x++⟨#[44,32]⟩++Jb (y :: l)
def Gg(head:ByteArray)(l:List ByteArray):ByteArray:=if l.length=0 then E0 else head++Jb l
def Xp(l:List F4)(k:Int × Bool):ByteArray:=(l.getD k.1.toNat (E0,0,.mk 0 E0 V0 [])).1++if k.2 then ⟨#[32,100,101,115,99]⟩ else E0
def Ahb(n:Int):ByteArray:=if 0<=n then ⟨#[32,108,105,109,105,116,32]⟩++Dz (Lib.itoa n) else E0
def quT(q:Qu):ByteArray :=
 Gg ⟨#[115,101,108,101,99,116,32]⟩ (q.it.map Kx)++Gg ⟨#[32,119,104,101,114,101,32]⟩ (q.wh.map Ex.text)++Gg ⟨#[32,103,114,111,117,112,32,98,121,32]⟩ (q.gr.map Ex.text) ++
 Gg ⟨#[32,111,114,100,101,114,32,98,121,32]⟩ (q.od.map (Xp q.it))++Ahb q.lim
def EE(q:Qu):Bool:=Fq q && decide ((quT q).size<=4096)
/-! ### plans -/
def Am(q:Qu):Bool:=(q.it.any λ i=>decide (i.2.1≠0)) || decide (0<q.gr.length)
def I4(x:Ex)(l:List Ex):Bool:=l.any λ g=>x.formed && g.formed && x.same g
def Iy(k:Int):Int:=if k=0 then 1 else k
def Hr(q:Qu)(i:Nat)(x:F4)(k:Int):Except Int AA :=
 if x.2.1=3/\Iy k≠1 then .error 121 else
 if (Am q=true/\x.2.1=0/\I4 x.2.2 q.gr=false)\/((q.it.take i).any λ y=>decide (y.1=x.1))=true then .error 122 else
 .ok (x.1,if x.2.1=1\/x.2.1=2 then 1 else Iy k,true)
def Kw(cs:List AA)(q:Qu)(i:Nat)(x:F4):Except Int AA :=
 if x.2.1=1 then Hr q i x 1 else
 match Fa cs x.2.2 with
 | .error e=>.error e
 | .ok k=>Hr q i x k
def Jo(cs:List AA)(q:Qu):Nat->List F4->Except Int (List AA)
 | _,[]=>.ok []
 | i,x :: l =>
  match Kw cs q i x with
  | .error e=>.error e
  | .ok c=>match Jo cs q (i+1) l with
   | .error e=>.error e
   | .ok r=>.ok (c :: r)
def LN(cs:List AA):List Ex->Option Int
 | []=>none
 | x :: l =>
  match Fa cs x with
  | .error e=>some e
  | .ok k=>if k≠2/\k≠0 then some 121 else LN cs l
def La(cs:List AA):List Ex->Option Int
 | []=>none
 | x :: l =>
  match Fa cs x with
  | .error e=>some e
  | .ok _=>La cs l
def DZ(cs:List AA)(q:Qu):Except Int (List AA) :=
 if Ai cs=false then .error 50 else if EE q=false then .error 110 else
 match LN cs q.wh with
 | some e=>.error e
 | none=>match La cs q.gr with
  | some e=>.error e
  | none=>Jo cs q 0 q.it
def RG(q:Qu):List Ex:=q.wh++q.gr++q.it.map (·.2.2)
mutual
def Ex.fit:Ex->Prop
 | .mk op nm v ks=>(i64 op/\i64 v.1/\i64 v.2.1/\nm.size<=maxLen/\v.2.2.size<=maxLen)/\Ex.Mt ks
def Ex.Mt:List Ex->Prop
 | []=>True
 | k :: ks=>k.fit/\Ex.Mt ks
end
theorem Mv:∀ {l:List Ex},Ex.Mt l↔∀ k∈l,k.fit
 | []=>by simp [Ex.Mt]
 | k :: l=>by simp [Ex.Mt,Mv (l:=l)]
theorem DT.fit{F:Nat->Prop}{w:World}{x:Ex}{cs:List Value}(h:DT F w x cs):x.fit:=by
 revert cs
 induction x using Ex.ind with
 | h op nm v ks ih =>
  intro cs h;obtain⟨a,cap,rs,rfl,h1,h2,h3,h4,h5,⟨g1,g2,g3,g4,g5⟩,h7⟩:=h.open;refine⟨⟨g1,g3,g4,g2,g5⟩,Mv.2 λ k hk=>?_⟩;obtain⟨i,hi,rfl⟩:=List.mem_iff_getElem.1 hk;exact ih _ hk (h7.get i hi)
def Ex.fair(x:Ex)(d:Nat):Prop:=x.T8 d=true/\(∀ s∈x.names,s.size<=24)/\x.fit
theorem GO{s:ByteArray}(h:Ic s=true):s.size<=24:=by
 simp only [Ic,Cp,Ai8,decide_eq_true_eq] at h;exact h.1.2
theorem GQ{x:Ex}(h:BG x=true)(hf:x.fit):x.fair 40:=by
 simp only [BG,Ex.formed,Ai8,List.all_eq_true,decide_eq_true_eq] at h;exact⟨h.1.1,λ s hs=>GO (h.2 s hs),hf⟩
theorem Rx:∀ {l:List Ex} {k:Ex},k∈l->∀ s∈k.names,s∈Ex.G6 l
 | x :: l,k,hk,s,hs=>by
  simp only [Ex.G6,Akn];rcases List.mem_cons.1 hk with rfl | hk
  ·exact .inl hs
  ·exact .inr (Rx hk s hs)
theorem Ex.fair.kid{op:Int}{nm:ByteArray}{v:AV}{ks:List Ex}{d:Nat}(h:(Ex.mk op nm v ks).fair (d+1)):Sy (.mk op nm v ks)=true/\∀ k∈ks,k.fair d:=by
 obtain⟨h1,h2⟩:=Q1 h.1;refine⟨h1,λ k hk=>⟨h2 k hk,λ s hs=>h.2.1 s ?_,?_⟩⟩
 ·simp only [Ex.names,Akn];exact .inr (Rx hk s hs)
 ·have:=h.2.2;unfold Ex.fit at this;exact Mv.1 this.2 k hk
theorem MP{x:Ex}:Sy x=true↔(x.ks.length:Int)=G5 x.op/\(x.op=1\/x.nm=E0)/\(x.op=2\/x.v=V0)/\AG x.v=true:=by
 simp only [Sy,Ai8,Bool.or_eq_true,decide_eq_true_eq,and_assoc]
theorem ZJ{x:Ex}(h:Sy x=true):1<=x.op/\x.op<=16:=by
 obtain⟨h1,_⟩:=MP.1 h;unfold G5 at h1
 repeat' split at h1
 all_goals omega
theorem RC{op:Int}{nm:ByteArray}{v:AV}{ks:List Ex}(h:Sy (.mk op nm v ks)=true) :
  ((op=1\/op=2)/\ks=[])\/((op=8\/op=14\/op=15\/op=16)/\∃ k,ks=[k])\/((3<=op/\op<=13/\op≠8)/\∃ k k',ks=[k,k']):=by
 obtain⟨h1,_⟩:=MP.1 h;simp only [Ex.ks,Ex.op] at h1;unfold G5 at h1;split at h1
 ·exact .inl ⟨by assumption,by cases ks with | nil=>rfl | cons a l=>simp at h1;omega⟩
 ·split at h1
  ·refine .inr (.inl ⟨by assumption,?_⟩)
   match ks,h1 with
   | [k],_=>exact⟨k,rfl⟩
   | [],h=>simp at h
   | _ :: _ :: _,h=>simp at h;omega
  ·split at h1
   ·refine .inr (.inr ⟨⟨by omega,by omega,by omega⟩,?_⟩)
    match ks,h1 with
    | [k,k'],_=>exact⟨k,k',rfl⟩
    | [],h=>simp at h
    | [_],h=>simp at h
    | _ :: _ :: _ :: _,h=>simp at h;omega
   ·omega
theorem Agr(k:Ex)(l:List Ex)(need:Int):Vv (Ex.texts (k :: l)) 0 need=k.at need:=rfl
theorem Ah6(k k':Ex)(l:List Ex)(need:Int):Vv (Ex.texts (k :: k' :: l)) 1 need=k'.at need:=rfl
theorem HL(x:Ex)(need:Int):(x.at need).size<=x.text.size+2:=by
 unfold Ex.at Uv;split
 ·simp only [AhX,Ako];have e1:(AjR #[40]).size=1:=rfl;have e2:(AjR #[41]).size=1:=rfl;omega
 ·omega
theorem Up(op:Int):(Ox op).size<=3:=by
 unfold Ox
 repeat' split
 all_goals decide
theorem Uq:∀(x:Ex) (d:Nat),x.fair d->x.text.size<=2100*x.size:=by
 intro x
 induction x using Ex.ind with
 | h op nm v ks ih =>
  intro d h;cases d with
  | zero=>have:=h.1;simp [Ex.T8] at this
  | succ d =>
   obtain⟨ho,hk⟩:=h.kid;have hv:F5 v:=by have:=h.2.2;unfold Ex.fit at this;exact⟨this.1.2.2.1.1,this.1.2.2.1.2⟩
   unfold Ex.text Gf;rcases RC ho with ⟨cr,rfl⟩ | ⟨cr,k,rfl⟩ | ⟨cr,k,k',rfl⟩
   ·simp only [Ex.size,Ex.KG];rcases cr with rfl | rfl
    ·rw [if_pos rfl];have:=h.2.1 nm (by simp [Ex.names]);omega
    ·rw [if_neg (by decide),if_pos rfl,BL];have:=AcC (MP.1 ho).2.2.2 hv;simp only [Ex.v] at this;omega
   ·have ht:=ih k (by simp) d (hk k (by simp));have hs:(Ex.mk op nm v [k]).size=k.size+1:=by simp [Ex.size,Ex.KG]
    have h1:=HL k 1;have h3:=HL k 3;have h5:=HL k 5;have h8:=HL k 8;rw [hs];simp only [Agr];have e1:(AjR #[108,101,110,40]).size=4:=rfl;have e2:(AjR #[41]).size=1:=rfl;have e3:(AjR #[110,111,116,32]).size=4:=rfl;have e4:(AjR #[32,105,115,32,110,117,108,108]).size=8:=rfl;have e5:(AjR #[45,40]).size=2:=rfl;have e6:(AjR #[45]).size=1:=rfl;rcases cr with rfl | rfl | rfl | rfl
    ·rw [if_neg (by decide),if_neg (by decide),if_neg (by decide),if_neg (by decide),if_neg (by decide),if_pos rfl];split
     ·simp only [Ako];omega
     ·simp only [Ako];omega
    ·rw [if_neg (by decide),if_neg (by decide),if_neg (by decide),if_pos rfl];simp only [Ako];omega
    ·rw [if_neg (by decide),if_neg (by decide),if_neg (by decide),if_neg (by decide),if_pos rfl];simp only [Ako];omega
    ·rw [if_neg (by decide),if_neg (by decide),if_pos rfl];simp only [Ako];omega
   ·have ht:=ih k (by simp) d (hk k (by simp));have jQ:=ih k' (by simp) d (hk k' (by simp));have hs:(Ex.mk op nm v [k,k']).size=k.size+k'.size+1:=by simp [Ex.size,Ex.KG]
    have h1:=HL k (Ee op);have h2:=HL k' (rowOf op+1);have h3:=Up op;have e2:(AjR #[32]).size=1:=rfl;rw [hs,if_neg (by omega),if_neg (by omega),if_neg (by omega),if_neg (by omega),if_neg (by omega),if_neg (by omega)];simp only [Agr,Ah6,Ako];omega
theorem D0{x:Ex}(h:BG x=true)(hf:x.fit):x.text.size<=840000:=by
 have h1:=Uq x 40 (GQ h hf);simp only [BG,Ex.formed,Ai8,decide_eq_true_eq] at h;have:=h.1.2;omega
abbrev XC(w:World)(x:Ex)(cs:List Value):Prop:=DT (λ _=>False) w x cs
theorem QV{F:Nat->Prop}{w0 w:World}{a:Option Addr}{rs:List Value}{ks:List Ex}(hr:Rd w a rs)(hk:IX F w0 ks rs){i:Nat}(hi:i<ks.length) :
  ∃ p a' aX,a=some p/\DT F w0 ks[i] (An ks[i] a' aX)/\w.cell? (p.add (i*6))=some (.int .i64 ks[i].op)/\w.cell? ((p.add (i*6)).add 1)=some (.string ks[i].nm)/\w.cell? ((p.add (i*6)).add 2)=some (.int .i64 ks[i].v.1) /\
   w.cell? ((p.add (i*6)).add 3)=some (.int .i64 ks[i].v.2.1)/\w.cell? ((p.add (i*6)).add 4)=some (.string ks[i].v.2.2)/\w.cell? ((p.add (i*6)).add 5)=some (.slice a' ks[i].ks.length aX):=by
 have h:=hk.get i hi;obtain⟨a',aX,_,he,_⟩:=h.open;rw [he] at h;have hl:=hk.len;have get:∀ j v,(An ks[i] a' aX)[j]?=some v->rs[i*6+j]?=some v:=by
  intro j v hj;rw [<- he,List.getElem?_take] at hj;split at hj
  ·rw [List.getElem?_drop] at hj;exact hj
  ·cases hj
 obtain⟨p,rfl,h0⟩:=hr (i*6+0) _ (get 0 _ rfl);have cell:∀ j v,(An ks[i] a' aX)[j]?=some v->w.cell? ((p.add (i*6)).add j)=some v:=by
  intro j v hj;obtain⟨q,hq,hc⟩:=hr (i*6+j) v (get j v hj);cases hq;rwa [Bp]
 exact⟨p,a',aX,rfl,h,by simpa using h0,cell 1 _ rfl,cell 2 _ rfl,cell 3 _ rfl,cell 4 _ rfl,cell 5 _ rfl⟩
def Yld{α:Type}(w0:World)(L:Nat)(ix:List α)(C:α->List Value->Prop)(I:List α->List It->Prop)(J:List It->Prop):Prop :=
 ∀ done x rest vs HN B w,ix=done++x :: rest->I done B->ST w0 w (HN++B)->C x vs->J4 Tryz.prog L ⟨vs⟩ (λ y w'=>∃ B',ST w0 w' (HN++B')/\((y=true/\I (done++[x]) B')\/(y=false/\J B'))) w
def Aid(w0:World)(p:Nat × Ex)(vs:List Value):Prop:=∃ cs,vs=[.int .i64 (p.1:Int),.agg ⟨cs⟩]/\XC w0 p.2 cs
def Y6(b d:Nat):It:=It.cells b #[.int .i64 (d:Int)] ty.int
def V7(b:Nat)(cs:List Value):It:=It.cells b ⟨cs⟩ ty.CW
theorem G0{w:World}{x:Ex}{a:Option Addr}{cap:Nat}(d:Nat):Calls Tryz.prog f.Zn #[.agg ⟨An x a cap⟩,.int .i64 (d:Int)] w (AD λ v w'=>∃ bd bx,v=.func (.func f.Ku) #[] #[.pointer (some ⟨bd,0,none⟩),.pointer (some ⟨bx,0,none⟩)] /\
  ST w w' [Y6 bd d,V7 bx (An x a cap)]):=by
 apply R.NZ
 delta R.I R.J R.N R.P R.S R.T;try dsimp only [R.Ps]
 exact (ST.start w).Ak λ b1 w1 _ _ S1=>S1.Ak λ b2 w2 _ _ S2=>⟨b2,b1,rfl,S2⟩
def Oc(L:Nat):Array Value:=#[.func (.yield L) #[] #[]]
theorem O5{w0:World}:∀(x:Ex) (d:Nat),d<=41->∀(L:Nat) (ix:List (Nat × Ex)) (I:List (Nat × Ex)->List It->Prop) (J:List It->Prop),Yld w0 L ix (Aid w0) I J->∀(a:Option Addr) (cap:Nat),XC w0 x (An x a cap) ->
  ∀(done rest:List (Nat × Ex)) (HN B:List It) (w:World) (bd bx:Nat),ix=done++(x.nodes d++rest)->I done B->ST w0 w (Y6 bd d :: V7 bx (An x a cap) :: (HN++B)) ->
  Calls Tryz.prog f.Ku #[.func (.yield L) #[] #[],.pointer (some ⟨bd,0,none⟩),.pointer (some ⟨bx,0,none⟩)] w (AD λ _ w'=>∃ B',ST w0 w' (HN++B')/\(I (done++x.nodes d) B'\/J B')):=by
 intro x
 induction x using Ex.ind with
 | h op nm v ks ih =>
  intro d hd L ix I J hy a cap hx done rest HN B w bd bx bA hI S;obtain⟨a2,cap2,rs,he,aP,_,av,hmx,_,_,hkids⟩:=hx.open;have iO:a2=a/\cap2=cap:=by
   simp only [An,List.cons.injEq,Value.slice.injEq,and_true,true_and] at he;exact⟨he.1.symm,he.2.symm⟩
  obtain⟨rfl,rfl⟩:=iO;change IX _ _ ks rs at hkids;have re:ks.length<=9223372036854775807:=Nat.le_trans av (Nat.le_trans hmx (by decide));apply R.J8
  delta R.A R.Ab R.Cf R.E R.F R.G R.H R.I R.Lf R.Li R.Ls R.Lt R.N R.O R.S R.Ae R.T R.W R.X R.Z;try dsimp only [R.Ps]
  have fK:(Ex.mk op nm v ks).nodes d=(d,.mk op nm v ks) :: if d<=40 then Ex.A5 ks (d+1) else []:=by simp only [Ex.nodes]
  refine S.Ak λ b3 w1 _ _ S1=>⟨λ _ w4=>∃ B',ST w0 w4 (It.cells b3 (Oc L) 412 :: Y6 bd d :: V7 bx (An (.mk op nm v ks) a2 cap2) :: (HN++B'))/\I (done++[(d,.mk op nm v ks)]) B'/\d<=40,.inr ⟨L,S1.cell 0 rfl rfl,_,S1.cell 1 rfl rfl,_,S1.cell 2 rfl rfl,_,S1.cell 2 rfl rfl,_,S1.cell 2 rfl rfl,_,S1.cell 2 rfl rfl,_,S1.cell 2 rfl rfl,_,_,_,S1.cell 2 rfl rfl,?_⟩,?_⟩
  ·refine (hy done (d,.mk op nm v ks) ((if d<=40 then Ex.A5 ks (d+1) else [])++rest) _ (It.cells b3 (Oc L) 412 :: Y6 bd d :: V7 bx (An (.mk op nm v ks) a2 cap2) :: HN) B w1 (by rw [bA,fK];rfl) hI S1 ⟨_,rfl,hx⟩).mono ?_;rintro y w3 ⟨B',S3,⟨rfl,jD⟩ | ⟨rfl,hJ⟩⟩
   ·refine Ap (A0 ⟨_,S3.cell 1 rfl rfl,Aa (λ jk=>?_) (λ jk=>⟨B',S3,jD,by omega⟩)⟩);refine⟨B',S3.drop 3,.inl ?_⟩;rw [fK,if_neg (by omega)];exact jD
   ·exact Ap (AN ⟨B',S3.drop 3,.inr hJ⟩)
  rintro w4 ⟨B1,S4,rN,rh⟩;rw [if_pos rh] at fK;refine⟨_,_,_,S4.cell 2 rfl rfl,λ st ms w5=>∃ i:Nat,st=[.int .i64 (i:Int)]/\i<=ks.length/\∃ B',ST w0 w5 (It.cells b3 (Oc L) 412 :: Y6 bd d :: V7 bx (An (.mk op nm v ks) a2 cap2) :: (msI ms++(HN++B')))/\I (done++(d,.mk op nm v ks) :: Ex.A5 (ks.take i) (d+1)) B',
   λ st _=>match st with | [.int _ t]=>ks.length-t.toNat | _=>0,⟨0,rfl,by omega,B1,S4,rN⟩,?_⟩
  rintro t ms w5 ⟨i,aA,hi,B2,S5,mQ⟩;cases aA;have dQ:(Ex.mk op nm v ks).ks=ks:=rfl;refine Aa (λ aB=>⟨⟨by omega,aB⟩,?_⟩) (λ aL=>?_)
  ·have aD:i<ks.length:=by rw [dQ] at aB;omega
   obtain⟨p,a3,aN,rfl,bF,c0,c1,c2,c3,c4,c5⟩:=QV (aP.grown S5.Ah) hkids aD;have pT:Ex.A5 (ks.take (i+1)) (d+1)=Ex.A5 (ks.take i) (d+1)++ks[i].nodes (d+1):=by
    rw [Akm aD];have:∀(l:List Ex) (y:Ex),Ex.A5 (l++[y]) (d+1)=Ex.A5 l (d+1)++y.nodes (d+1):=by
     intro l y
     induction l with
     | nil=>simp [Ex.A5]
     | cons z l ih=>simp only [List.cons_append,Ex.A5,ih,Ajw]
    exact this _ _
   have pS:Ex.A5 ks (d+1)=Ex.A5 (ks.take i) (d+1)++(ks[i].nodes (d+1)++Ex.A5 (ks.drop (i+1)) (d+1)):=by
    have:∀(l m:List Ex),Ex.A5 (l++m) (d+1)=Ex.A5 l (d+1)++Ex.A5 m (d+1):=by
     intro l m
     induction l with
     | nil=>simp [Ex.A5]
     | cons z l ih=>simp only [List.cons_append,Ex.A5,ih,Ajw]
    rw [<- Ajw,<- pT,<- this,List.take_append_drop]
   refine⟨_,by rw [AjB];exact c0,_,by rw [AjB];exact c1,_,by rw [AjB];exact c2,_,by rw [AjB];exact c3,_,by rw [AjB];exact c4,_,_,_,by rw [AjB];exact c5,S5.PG λ qd bR _ aQ=>?_⟩;refine⟨_,aQ.cell 0 rfl rfl,_,aQ.cell 0 rfl rfl,_,aQ.cell 0 rfl rfl,_,aQ.cell 0 rfl rfl,_,aQ.cell 0 rfl rfl,_,_,_,aQ.cell 0 rfl rfl,_,aQ.cell 2 rfl rfl,?_⟩;rw [Ag (by omega)];refine (G0 (x:=ks[i]) (a:=a3) (cap:=aN) (d+1)).mono ?_;rintro _ bG ⟨_,rfl,b2,b1,rfl,qF⟩;have cC:=(aQ.drop 1).join qF;refine⟨_,_,_,rfl,by kernel_rfl,λ rr aA bU lX=>?_⟩;have au:=cC.range rr;obtain⟨L2,hL2⟩:∃ L2,L2=bG.heap.size+1:=⟨_,rfl⟩;obtain⟨m,hm⟩:∃ m,m=bG.heap.size:=⟨_,rfl⟩;rw [<- hL2] at au lX ⊢;rw [<- hm] at au ⊢;have cP:ST w0 ((bG.alloc (.deferred (some []))).alloc (.loop rr)) (Y6 b2 (d+1) :: V7 b1 (An ks[i] a3 aN) :: ((It.obj m (.deferred (some [])) :: Y6 bd d :: V7 bx (An (.mk op nm v ks) (some p) cap2) :: (msI ms++HN))++(It.obj L2 (.loop rr) :: It.cells b3 (Oc L) 412 :: B2))):=by
    have T1:=au.pull 4 rfl;have T2:=T1.pull 1 rfl;have T3:=T2.pull 6 rfl;have T4:=T3.pull 6 rfl;have T5:=T4.pull 4 rfl;have T6:=T5.pull 6 rfl;have T7:=T6.pull 6 rfl;refine T7.perm ?_;refine Akr _ (Akr _ (Akr _ (Akr _ (Akr _ ?_))));have:=List.perm_append_comm_assoc [It.obj L2 (.loop rr),It.cells b3 (Oc L) 412] (msI ms++HN) B2;simpa [Ajw] using this
   refine (ih ks[i] (Akj aD) (d+1) (by omega) L2 (ks[i].nodes (d+1)) (λ fC B'=>∃ B'',B'=It.obj L2 (.loop rr) :: It.cells b3 (Oc L) 412 :: B''/\I (done++(d,.mk op nm v ks) :: Ex.A5 (ks.take i) (d+1)++fC) B'')
    (λ B'=>∃ B'',B'=It.obj L2 (.loop { rr with state:=.done,pending:=some .ret }) :: It.cells b3 (Oc L) 412 :: B''/\J B'') ?_ a3 aN bF [] [] _ _ _ b2 b1 (by simp) ⟨B2,rfl,by simpa using mQ⟩ cP).mono ?_
   ·rintro fC ⟨yd,yx⟩ kj vs HN2 _ cB kL ⟨B3,rfl,mM⟩ bn ⟨gA,rfl,dV⟩;obtain⟨a4,cap4,_,rfl,_⟩:=DT.open dV;have bN:=ST.mid [It.obj L2 (.loop rr),It.cells b3 (Oc L) 412] bn;refine lX _ _ _ _ _ _ _ _ _ _ cB (bN.get 0 rfl) ?_;refine bN.PG λ qh iy _ gW=>gW.YN 1 rfl λ jY cf=>.inr ⟨L,cf.cell 2 rfl rfl,_,cf.cell 0 rfl rfl,_,cf.cell 0 rfl rfl,_,cf.cell 0 rfl rfl,_,cf.cell 0 rfl rfl,_,cf.cell 0 rfl rfl,_,_,_,cf.cell 0 rfl rfl,?_⟩;refine (hy (done++(d,.mk op nm v ks) :: Ex.A5 (ks.take i) (d+1)++fC) (yd,yx) (kj++(Ex.A5 (ks.drop (i+1)) (d+1)++rest)) _ (V7 qh (An yx a4 cap4) :: It.obj L2 (.loop { rr with state:=.busy }) :: It.cells b3 (Oc L) 412 :: HN2) B3 jY ?_ mM cf ⟨_,rfl,dV⟩).mono ?_
    ·rw [bA,fK,pS,kL];simp [Ajw]
    rintro y oE ⟨B4,jc,⟨rfl,mN⟩ | ⟨rfl,hJ⟩⟩
    ·refine Ap (A0 (jc.Ml 1 aA bU rfl λ w' cV=>⟨_,ST.Nu [It.obj L2 (.loop rr),It.cells b3 (Oc L) 412] (cV.drop 1),.inl ⟨rfl,B4,rfl,?_⟩⟩));rw [<- Ajw];exact mN
    ·exact Ap (AN (jc.AaN 1 rfl λ w' cV=>⟨_,ST.Nu [It.obj L2 (.loop { rr with state:=.done,pending:=some .ret }),It.cells b3 (Oc L) 412] (cV.drop 1),.inr ⟨rfl,B4,rfl,hJ⟩⟩))
   ·rintro _ lZ ⟨_,rfl,B5,cV,⟨B6,rfl,mP⟩ | ⟨B6,rfl,hJ⟩⟩
    ·refine⟨⟨_,rfl⟩,?_⟩;have dX:=ST.mid [It.obj L2 (.loop rr),It.cells b3 (Oc L) 412] cV;refine dX.Kr 0 aA bU rfl λ fu l9=>.inl ⟨rfl,⟨i+1,by rw [Ag (by omega)],by omega,B6,?_,?_⟩,?_⟩
     ·have T1:=(l9.drop 1);have T2:=T1.pull 1 rfl;have T3:=T2.pull 3 rfl;have T4:=T3.pull 3 rfl;have T5:=T4.pull 3 rfl;have e:msI (m :: ms)++(HN++B6)=It.obj m (.deferred (some [])) :: ((msI ms++HN)++B6):=by rw [Ajw];rfl
      rw [e];exact T5
     ·rw [pT];simpa [Ajw] using mP
     ·show ks.length-(IntKind.i64.wrap ((i:Int)+1)).toNat<ks.length-((i:Nat):Int).toNat;rw [Ag (by omega)];simp only [AjB];omega
    ·refine⟨⟨_,rfl⟩,?_⟩;have dX:=ST.mid [It.obj L2 (.loop { rr with state:=.done,pending:=some .ret }),It.cells b3 (Oc L) 412] cV;refine dX.AaM 0 rfl λ fu l9=>.inr ⟨rfl,l9.get 2 rfl,?_⟩;have qL:=(l9.put 2 rfl (.deferred none)).drop 5;refine ST.shut (H:=HN++B6) ?_ λ w' lh=>⟨B6,lh,.inr hJ⟩;simpa [Ajw] using qL
  ·refine ST.shut (H:=HN++B2) (S5.drop 3) λ w' S6=>⟨B2,S6,.inl ?_⟩;have:i=ks.length:=by rw [dQ] at aL;omega
   rw [this,List.take_length] at mQ;rw [fK];exact mQ
theorem Yf:∀ n:Nat,1<=n->n<17->EF[n*3]?=some (.int .i64 (G5 n))
 | 0,h,_=>by omega
 | 1,_,_=>rfl
 | 2,_,_=>rfl
 | 3,_,_=>rfl
 | 4,_,_=>rfl
 | 5,_,_=>rfl
 | 6,_,_=>rfl
 | 7,_,_=>rfl
 | 8,_,_=>rfl
 | 9,_,_=>rfl
 | 10,_,_=>rfl
 | 11,_,_=>rfl
 | 12,_,_=>rfl
 | 13,_,_=>rfl
 | 14,_,_=>rfl
 | 15,_,_=>rfl
 | 16,_,_=>rfl
 | n+17,_,h=>by omega
theorem Zq{x:Ex}{done rest:List (Nat × Ex)}{d:Nat}{y:Ex}(ht:x.nodes 1=done++(d,y) :: rest)(h:(d<=40/\Sy y=true)->400<done.length+1):x.formed=false:=by
 rw [Bool.eq_false_iff,Ne,H0];rintro⟨h1,h2⟩;have:=h (h1 (d,y) (by rw [ht];simp));rw [ht] at h2;simp at h2;omega
theorem Ea{w:World}(E:Env w){x:Ex}{a:Option Addr}{cap:Nat}(hx:XC w x (An x a cap)):Calls Tryz.prog f.W3 #[.agg ⟨An x a cap⟩] w (AD λ r w'=>r=.bool x.formed/\Below w.heap.size w w'):=by
 apply R.Ms
 delta R.A R.Ab R.Cb R.Cf R.D R.E R.F R.G R.I R.Lb R.Li R.Ls R.Lt R.N R.O R.S R.Ae R.T R.W R.X;try dsimp only [R.Ps]
 simp only [Aw];refine (ST.start w).Ak λ b7 w1 _ _ S1=>S1.Ak λ b8 w2 _ _ S2=>S2.Ak λ b9 w3 _ _ S3=>S3.BA 0 rfl (aE:=#[.int .i64 0]) (by simp) rfl λ w4 S4=>⟨_,S4.cell 2 rfl rfl,_,S4.cell 2 rfl rfl,_,S4.cell 2 rfl rfl,_,S4.cell 2 rfl rfl,_,S4.cell 2 rfl rfl,_,_,_,S4.cell 2 rfl rfl,(G0 (x:=x) (a:=a) (cap:=cap) 1).mono ?_⟩;rintro _ w5 ⟨_,rfl,bd,bx,rfl,P5⟩;have S5:=S4.join P5;refine⟨_,_,_,rfl,by kernel_rfl,λ rr aA bU hy=>?_⟩;have S6:=S5.range rr;obtain⟨L,hL⟩:∃ L,L=w5.heap.size+1:=⟨_,rfl⟩;obtain⟨m,hm⟩:∃ m,m=w5.heap.size:=⟨_,rfl⟩;rw [<- hL] at S6 hy ⊢;rw [<- hm] at S6 ⊢;have S7:=(((S6.pull 6 rfl).pull 2 rfl).pull 4 rfl).pull 4 rfl;refine (O5 x 1 (by omega) L (x.nodes 1) (λ done B=>B=[It.obj L (.loop rr),It.cells b9 #[.int .i64 (done.length:Int)] ty.int,It.cells b8 #[.bool false] ty.bool]/\(∀ p∈done,p.1<=40/\Sy p.2=true)/\done.length<=400)
  (λ B=>∃ n,B=[It.obj L (.loop { rr with state:=.done,pending:=some .ret }),It.cells b9 n ty.int,It.cells b8 #[.bool false] ty.bool]/\x.formed=false) ?_ a cap hx [] [] [It.obj m (.deferred (some [])),It.cells b7 ⟨An x a cap⟩ ty.CW] _ _ bd bx (by simp) ⟨rfl,by simp,by simp⟩ S7).mono ?_
 ·rintro done ⟨yd,yx⟩ rest vs HN _ w6 bA ⟨rfl,aC,hlen⟩ S ⟨gA,rfl,dV⟩;change XC w yx gA at dV;obtain⟨a4,cap4,_,rfl,_⟩:=DT.open dV;have S:=ST.mid (B:=[]) [It.obj L (.loop rr),It.cells b9 #[.int .i64 (done.length:Int)] ty.int,It.cells b8 #[.bool false] ty.bool] S;refine hy _ _ _ _ _ _ _ _ _ _ w6 (S.get 0 rfl) ?_;refine S.PG λ fB bR _ S=>S.YN 1 rfl λ bG S=>⟨_,S.cell 2 rfl rfl,S.BA 2 rfl (aE:=#[.int .i64 ((done.length+1:Nat):Int)]) (by simp) (by rw [Ag (by omega)];rfl) λ cB S=>S.draw λ cd _ S=>?_⟩;have bad:∀ w',ST w w' (V7 fB (An yx a4 cap4) :: It.obj L (.loop { rr with state:=.busy }) :: It.cells b9 #[.int .i64 ((done.length+1:Nat):Int)] ty.int :: It.cells b8 #[.bool false] ty.bool :: (HN++[]))->((yd<=40/\Sy yx=true)->400<done.length+1) ->
    CI ⟨b8,0,none⟩ (.bool false) (λ cO=>Bk rr L (λ y w'=>∃ B',ST w w' (HN++B')/\((y=true/\B'=[It.obj L (.loop rr),It.cells b9 #[.int .i64 ((done++[(yd,yx)]).length:Int)] ty.int,It.cells b8 #[.bool false] ty.bool]/\(∀ p∈done++[(yd,yx)],p.1<=40/\Sy p.2=true)/\(done++[(yd,yx)]).length<=400) \/
     (y=false/\∃ n,B'=[It.obj L (.loop { rr with state:=.done,pending:=some .ret }),It.cells b9 n ty.int,It.cells b8 #[.bool false] ty.bool]/\x.formed=false))) (some .ret) cO) w':=λ w' S hb =>
   S.BA 3 rfl (aE:=#[.bool false]) (by simp) rfl λ cO S=>S.AaN 1 rfl λ cT S=>⟨_,ST.Nu (B:=[]) [It.obj L (.loop { rr with state:=.done,pending:=some .ret }),It.cells b9 #[.int .i64 ((done.length+1:Nat):Int)] ty.int,It.cells b8 #[.bool false] ty.bool] (S.drop 1),.inr ⟨rfl,_,rfl,Zq bA hb⟩⟩
  refine Aa (λ h=>bad _ S λ hh=>by have:=hh.1;omega) (λ h1=>⟨_,S.cell 2 rfl rfl,Aa (λ h=>bad _ S λ hh=>by omega) (λ h2=>⟨_,S.cell 0 rfl rfl,Aa (λ h=>bad _ S λ hh=>by have:=ZJ hh.2;omega) (λ h3=>⟨_,S.cell 0 rfl rfl,Aa (λ h=>bad _ S λ hh=>by have:=ZJ hh.2;omega) (λ h4=>⟨_,_,_,S.cell 0 rfl rfl,_,S.cell 0 rfl rfl,⟨by omega,by omega⟩,G5 yx.op,?_,?_⟩)⟩)⟩)⟩)
  ·obtain⟨n,hn⟩:∃ n:Nat,yx.op=n:=⟨yx.op.toNat,by omega⟩;have:=(E.grown S.Ah).iB (n*3) _ (Yf n (by omega) (by omega));obtain⟨p,hp,hc⟩:=this;cases hp;rw [hn,AjB];exact hc
  have Jk:∀ w',ST w w' (V7 fB (An yx a4 cap4) :: It.obj L (.loop { rr with state:=.busy }) :: It.cells b9 #[.int .i64 ((done.length+1:Nat):Int)] ty.int :: It.cells b8 #[.bool false] ty.bool :: (HN++[]))->Sy yx=true ->
    Bk rr L (λ y w'=>∃ B',ST w w' (HN++B')/\((y=true/\B'=[It.obj L (.loop rr),It.cells b9 #[.int .i64 ((done++[(yd,yx)]).length:Int)] ty.int,It.cells b8 #[.bool false] ty.bool]/\(∀ p∈done++[(yd,yx)],p.1<=40/\Sy p.2=true)/\(done++[(yd,yx)]).length<=400) \/
     (y=false/\∃ n,B'=[It.obj L (.loop { rr with state:=.done,pending:=some .ret }),It.cells b9 n ty.int,It.cells b8 #[.bool false] ty.bool]/\x.formed=false))) none w':=λ w' S hb =>
   S.Ml 1 aA bU rfl λ cT S=>⟨_,ST.Nu (B:=[]) [It.obj L (.loop rr),It.cells b9 #[.int .i64 ((done.length+1:Nat):Int)] ty.int,It.cells b8 #[.bool false] ty.bool] (S.drop 1),.inl ⟨rfl,by simp,by
    intro p hp;rcases Akn.1 hp with hp | hp
    ·exact aC p hp
    ·rw [Akq.1 hp];exact⟨by omega,hb⟩,by simp;omega⟩⟩
  have last:∀ w',ST w w' (V7 fB (An yx a4 cap4) :: It.obj L (.loop { rr with state:=.busy }) :: It.cells b9 #[.int .i64 ((done.length+1:Nat):Int)] ty.int :: It.cells b8 #[.bool false] ty.bool :: (HN++[]))->(Sy yx=AG yx.v)->∃ kr,w'.cell? ⟨fB,2,none⟩=some (.int .i64 kr)/\∃ ku,w'.cell? ⟨fB,3,none⟩=some (.int .i64 ku)/\∃ kv,w'.cell? ⟨fB,4,none⟩=some (.string kv) /\
    Calls Tryz.prog f.Pf #[.agg #[.int .i64 kr,.int .i64 ku,.string kv]] w' (λ e iC=>∃ t61:Bool,e=.returned (.bool t61)/\Tq (!t61) (CI ⟨b8,0,none⟩ (.bool false) (λ cO=>Bk rr L (λ y w'=>∃ B',ST w w' (HN++B')/\((y=true/\B'=[It.obj L (.loop rr),It.cells b9 #[.int .i64 ((done++[(yd,yx)]).length:Int)] ty.int,It.cells b8 #[.bool false] ty.bool]/\(∀ p∈done++[(yd,yx)],p.1<=40/\Sy p.2=true)/\(done++[(yd,yx)]).length<=400) \/
     (y=false/\∃ n,B'=[It.obj L (.loop { rr with state:=.done,pending:=some .ret }),It.cells b9 n ty.int,It.cells b8 #[.bool false] ty.bool]/\x.formed=false))) (some .ret) cO) iC) (Bk rr L (λ y w'=>∃ B',ST w w' (HN++B')/\((y=true/\B'=[It.obj L (.loop rr),It.cells b9 #[.int .i64 ((done++[(yd,yx)]).length:Int)] ty.int,It.cells b8 #[.bool false] ty.bool]/\(∀ p∈done++[(yd,yx)],p.1<=40/\Sy p.2=true)/\(done++[(yd,yx)]).length<=400) \/
     (y=false/\∃ n,B'=[It.obj L (.loop { rr with state:=.done,pending:=some .ret }),It.cells b9 n ty.int,It.cells b8 #[.bool false] ty.bool]/\x.formed=false))) none iC)):=by
   intro w' S ho;refine⟨_,S.cell 0 rfl rfl,_,S.cell 0 rfl rfl,_,S.cell 0 rfl rfl,(BB w' yx.v).mono ?_⟩;rintro _ iC ⟨_,rfl,rfl,q8⟩;have S:=S.grown q8;refine⟨_,rfl,Ap (Ao (λ hr=>Jk _ S (by rw [ho];exact hr)) (λ hr=>bad _ S λ hh=>by rw [ho,hr] at hh;cases hh.2))⟩
  refine As (λ h=>bad _ S λ hh=>by have:=(MP.1 hh.2).1;omega) (λ h5=>⟨_,S.cell 0 rfl rfl,?_⟩);have gz:∀ {b:Bool},((yx.v.1==0) && ((yx.v.2.1==0) && ((yx.v.2.2==⟨#[]⟩) && true)))=b->(b=true↔yx.v=V0):=by
   rintro b rfl;obtain⟨k,n,s⟩:=yx.v;simp only [JV,Bool.and_true,Ai8,beq_iff_eq,decide_eq_true_eq,Prod.mk.injEq]
  have aZ:Sy yx=((decide (yx.op=1) || decide (yx.nm=E0)) && (decide (yx.op=2) || decide (yx.v=V0)) && AG yx.v):=by
   simp only [Sy,h5,decide_true,Bool.true_and]
  refine As (λ jK=>⟨_,S.cell 0 rfl rfl,Ap (Aa (λ e1=>⟨_,S.cell 0 rfl rfl,As (λ gv=>⟨_,S.cell 0 rfl rfl,_,S.cell 0 rfl rfl,_,S.cell 0 rfl rfl,Ap (Ao (λ e2=>last _ S ?_) (λ e2=>bad _ S λ hh=>?_))⟩) (λ fE=>last _ S ?_)⟩) (λ e1=>bad _ S λ hh=>?_))⟩) (λ rj=>⟨_,S.cell 0 rfl rfl,As (λ gv=>⟨_,S.cell 0 rfl rfl,_,S.cell 0 rfl rfl,_,S.cell 0 rfl rfl,Ap (Ao (λ e2=>last _ S ?_) (λ e2=>bad _ S λ hh=>?_))⟩) (λ fE=>last _ S ?_)⟩)
  ·have:=(gz rfl).1 e2;simp [aZ,e1,this]
  ·have:=hh.2;rw [aZ] at this;have h9:=mt (gz rfl).2 (by rw [e2];decide);simp [gv,h9] at this
  ·simp [aZ,e1,fE]
  ·have:=hh.2;rw [aZ] at this;simp [jK,e1] at this
  ·have:=(gz rfl).1 e2;simp [aZ,rj,this]
  ·have:=hh.2;rw [aZ] at this;have h9:=mt (gz rfl).2 (by rw [e2];decide);simp [gv,h9] at this
  ·omega
 ·rintro _ lZ ⟨_,rfl,B5,cV,⟨rfl,aC,hlen⟩ | ⟨n,rfl,hf⟩⟩
  ·refine⟨⟨_,rfl⟩,?_⟩;have dX:=ST.mid (B:=[]) [It.obj L (.loop rr),It.cells b9 _ ty.int,It.cells b8 #[.bool false] ty.bool] cV;refine dX.Kr 0 aA bU rfl λ fu S=>.inl ⟨rfl,S.BA 2 rfl (aE:=#[.bool true]) (by simp) rfl λ oF S=>⟨S.get 3 rfl,?_⟩⟩;have S:=S.put 3 rfl (.deferred none);refine⟨_,S.cell 2 rfl rfl,?_,S.Ah⟩;rw [(H0 x).2 ⟨by simpa using aC,by simpa using hlen⟩]
  ·refine⟨⟨_,rfl⟩,?_⟩;have dX:=ST.mid (B:=[]) [It.obj L (.loop { rr with state:=.done,pending:=some .ret }),It.cells b9 n ty.int,It.cells b8 #[.bool false] ty.bool] cV;refine dX.AaM 0 rfl λ fu S=>.inr ⟨rfl,S.get 3 rfl,?_⟩;have S:=S.put 3 rfl (.deferred none);refine⟨_,S.cell 2 rfl rfl,?_,S.Ah⟩;rw [hf]
def PE(o:Option Nat):Int:=match o with | none => -1 | some i=>i
theorem Ei{α:Type}{C:α->List Value->Prop}{n:Nat}(hn:∀ x c,C x c->c.length=n)(h0:0<n){w:World}{a:Option Addr}{rs:List Value}{l:List α}(hr:Rd w a rs)(hC:Ax C l rs){i:Nat}(hi:i<l.length) :
  ∃ p c,a=some p/\C l[i] c/\∀ j v,c[j]?=some v->w.cell? ((p.add (i*n)).add j)=some v:=by
 have h:=hC.get hn i hi;have hl:=hn _ _ h;obtain⟨v0,gz⟩:∃ v,((rs.drop (i*n)).take n)[0]?=some v:=⟨_,List.getElem?_eq_getElem (by omega)⟩;have get:∀ j v,((rs.drop (i*n)).take n)[j]?=some v->rs[i*n+j]?=some v:=by
  intro j v hj;rw [List.getElem?_take] at hj;split at hj
  ·rw [List.getElem?_drop] at hj;exact hj
  ·cases hj
 obtain⟨p,rfl,_⟩:=hr (i*n+0) _ (get 0 _ gz);refine⟨p,_,rfl,h,λ j v hj=>?_⟩;obtain⟨q,hq,hc⟩:=hr (i*n+j) v (get j v hj);cases hq;rwa [Bp]
theorem Ey{α:Type}{p:α->Bool}{l:List α}{i:Nat}(hi:i<l.length)(h:∀ x∈l.take i,p x=false)(hp:p l[i]=true):l.findIdx? p=some i:=by
 rw [List.findIdx?_eq_some_iff_getElem];exact⟨hi,hp,λ j hj=>by rw [h l[j] (List.mem_take_iff_getElem.2 ⟨j,by omega,rfl⟩)];decide⟩
theorem Dh{α:Type}{p:α->Bool}{l:List α}(h:∀ x∈l,p x=false):l.findIdx? p=none:=List.findIdx?_eq_none_iff.2 h
theorem EW{α:Type}(p:α->Bool)(l:List α):l.any p=decide (PE (l.findIdx? p)>=0):=by
 cases h:l.findIdx? p with
 | none =>
  have:=List.findIdx?_eq_none_iff.1 h;rw [Bool.eq_iff_iff,List.any_eq_true,decide_eq_true_eq];show _↔(-1:Int)>=0;constructor
  ·rintro⟨x,hx,hp⟩;rw [this x hx] at hp;cases hp
  ·intro h;omega
 | some i =>
  obtain⟨hi,hp,_⟩:=List.findIdx?_eq_some_iff_getElem.1 h;rw [Bool.eq_iff_iff,List.any_eq_true,decide_eq_true_eq];show _↔((i:Nat):Int)>=0;exact⟨λ _=>by omega,λ _=>⟨_,Akj hi,hp⟩⟩
theorem MF{w:World}{a:Option Addr}{c0:Nat}{rs:List Value}{l:List AA}(hl:Rd w a rs)(hC:Ax (λ x c=>c=Hi x) l rs)(hn:l.length<=9223372036854775807){fn:FuncId}{fi ca:Array Value}(aY:enters Tryz.prog fn=true)(p:AA->Bool)(hf:∀ w' x c,Below w.heap.size w w'->x∈l->(λ x c=>c=Hi x) x c->Calls Tryz.prog fn ⟨fi.toList++[.agg ⟨c⟩]++ca.toList⟩ w' (AD λ r aR=>r=.bool (p x)/\Below w'.heap.size w' aR)) :
  Calls Tryz.prog f.C8 #[.slice a l.length c0,.func (.func fn) fi ca] w (AD λ r w'=>r=.int .i64 (PE (l.findIdx? p))/\Below w.heap.size w w'):=by
 apply R.Cc
 delta R.E R.F R.G R.I R.Lb R.Li R.Lt R.Qi R.T R.W R.X;try dsimp only [R.Ps]
 refine⟨λ st w1=>∃ i:Nat,st=[.int .i64 (i:Int)]/\i<=l.length/\(∀ x∈l.take i,p x=false)/\Below w.heap.size w w1,λ st _=>match st with | [.int _ t]=>l.length-t.toNat | _=>0,⟨0,rfl,by omega,by simp,.refl _ _⟩,?_⟩;rintro t w1 ⟨i,aA,hi,aC,B1⟩;cases aA;refine Aa (λ aB=>⟨⟨by omega,aB⟩,?_⟩) (λ aL=>⟨?_,B1⟩)
 ·have aD:i<l.length:=by omega
  obtain⟨q,c,rfl,hc,cell⟩:=Ei (n:=3) (λ x c h=>by rw [h];rfl) (by decide) (hl.grown B1) hC aD;have cE:=hc;have fY:c=Hi l[i]:=hc;subst fY;refine⟨_,by rw [AjB];exact cell 0 _ rfl,_,by rw [AjB];exact cell 1 _ rfl,_,by rw [AjB];exact cell 2 _ rfl,?_⟩;rw [aY];refine (hf w1 _ _ B1 (Akj aD) cE).mono ?_;rintro _ w2 ⟨_,rfl,rfl,B2⟩;refine⟨_,rfl,Ao (λ h=>⟨by rw [Ey aD aC h];rfl,Ac B1 B2⟩) (λ h=>?_)⟩;rw [Ag (by omega)];refine⟨⟨i+1,rfl,by omega,λ x hx=>?_,Ac B1 B2⟩,?_⟩
  ·rw [Akm aD] at hx;rcases Akn.1 hx with hx | hx
   ·exact aC x hx
   ·rw [Akq.1 hx];exact h
  ·show l.length-((i+1:Nat):Int).toNat<l.length-((i:Nat):Int).toNat;simp only [AjB];omega
 ·rw [Akp (by omega)] at aC;rw [Dh aC];rfl
theorem Iv{w0:World}{w:World}{a:Option Addr}{c0:Nat}{rs:List Value}{l:List F4}(hl:Rd w a rs)(hC:Ax (L3 (λ _=>False) w0) l rs)(hn:l.length<=9223372036854775807){fn:FuncId}{fi ca:Array Value}(aY:enters Tryz.prog fn=true)(p:F4->Bool)(hf:∀ w' x c,Below w.heap.size w w'->x∈l->(L3 (λ _=>False) w0) x c->Calls Tryz.prog fn ⟨fi.toList++[.agg ⟨c⟩]++ca.toList⟩ w' (AD λ r aR=>r=.bool (p x)/\Below w'.heap.size w' aR)) :
  Calls Tryz.prog f.DO #[.slice a l.length c0,.func (.func fn) fi ca] w (AD λ r w'=>r=.int .i64 (PE (l.findIdx? p))/\Below w.heap.size w w'):=by
 apply R.CQ
 delta R.E R.F R.G R.I R.Li R.Ls R.Lt R.Qi R.S R.T R.W R.X;try dsimp only [R.Ps]
 refine⟨λ st w1=>∃ i:Nat,st=[.int .i64 (i:Int)]/\i<=l.length/\(∀ x∈l.take i,p x=false)/\Below w.heap.size w w1,λ st _=>match st with | [.int _ t]=>l.length-t.toNat | _=>0,⟨0,rfl,by omega,by simp,.refl _ _⟩,?_⟩;rintro t w1 ⟨i,aA,hi,aC,B1⟩;cases aA;refine Aa (λ aB=>⟨⟨by omega,aB⟩,?_⟩) (λ aL=>⟨?_,B1⟩)
 ·have aD:i<l.length:=by omega
  obtain⟨q,c,rfl,hc,cell⟩:=Ei (n:=8) (λ x c h=>L3.len h) (by decide) (hl.grown B1) hC aD;have cE:=hc;obtain⟨ce,rfl,hx,hy⟩:=id hc;obtain⟨a9,cap9,_,rfl,_⟩:=DT.open hx;refine⟨_,by rw [AjB];exact cell 0 _ rfl,_,by rw [AjB];exact cell 1 _ rfl,_,by rw [AjB];exact cell 2 _ rfl,_,by rw [AjB];exact cell 3 _ rfl,_,by rw [AjB];exact cell 4 _ rfl,_,by rw [AjB];exact cell 5 _ rfl,_,by rw [AjB];exact cell 6 _ rfl,_,_,_,by rw [AjB];exact cell 7 _ rfl,?_⟩;rw [aY];refine (hf w1 _ _ B1 (Akj aD) cE).mono ?_;rintro _ w2 ⟨_,rfl,rfl,B2⟩;refine⟨_,rfl,Ao (λ h=>⟨by rw [Ey aD aC h];rfl,Ac B1 B2⟩) (λ h=>?_)⟩;rw [Ag (by omega)];refine⟨⟨i+1,rfl,by omega,λ x hx=>?_,Ac B1 B2⟩,?_⟩
  ·rw [Akm aD] at hx;rcases Akn.1 hx with hx | hx
   ·exact aC x hx
   ·rw [Akq.1 hx];exact h
  ·show l.length-((i+1:Nat):Int).toNat<l.length-((i:Nat):Int).toNat;simp only [AjB];omega
 ·rw [Akp (by omega)] at aC;rw [Dh aC];rfl
theorem Iq{w0:World}{w:World}{a:Option Addr}{c0:Nat}{rs:List Value}{l:List F4}(hl:Rd w a rs)(hC:Ax (L3 (λ _=>False) w0) l rs)(hn:l.length<=9223372036854775807){fn:FuncId}{fi ca:Array Value}(aY:enters Tryz.prog fn=true)(p:F4->Bool)(hf:∀ w' x c,Below w.heap.size w w'->x∈l->(L3 (λ _=>False) w0) x c->Calls Tryz.prog fn ⟨fi.toList++[.agg ⟨c⟩]++ca.toList⟩ w' (AD λ r aR=>r=.bool (p x)/\Below w'.heap.size w' aR)) :
  Calls Tryz.prog f.Dp #[.slice a l.length c0,.func (.func fn) fi ca] w (AD λ r w'=>r=.bool (l.any p)/\Below w.heap.size w w'):=by
 apply R.Cg
 delta R.Ci R.G R.S;try dsimp only [R.Ps]
 refine (Iv hl hC hn aY p hf).mono ?_;rintro _ w1 ⟨_,rfl,rfl,B1⟩;exact⟨_,rfl,by rw [EW],B1⟩
theorem PF{w0:World}{w:World}{a:Option Addr}{c0:Nat}{rs:List Value}{l:List Ex}(hl:Rd w a rs)(hC:Ax (XC w0) l rs)(hn:l.length<=9223372036854775807){fn:FuncId}{fi ca:Array Value}(aY:enters Tryz.prog fn=true)(p:Ex->Bool)(hf:∀ w' x c,Below w.heap.size w w'->x∈l->(XC w0) x c->Calls Tryz.prog fn ⟨fi.toList++[.agg ⟨c⟩]++ca.toList⟩ w' (AD λ r aR=>r=.bool (p x)/\Below w'.heap.size w' aR)) :
  Calls Tryz.prog f.DN #[.slice a l.length c0,.func (.func fn) fi ca] w (AD λ r w'=>r=.int .i64 (PE (l.findIdx? p))/\Below w.heap.size w w'):=by
 apply R.CO
 delta R.E R.F R.G R.I R.Li R.Ls R.Lt R.Qi R.S R.T R.W R.X;try dsimp only [R.Ps]
 refine⟨λ st w1=>∃ i:Nat,st=[.int .i64 (i:Int)]/\i<=l.length/\(∀ x∈l.take i,p x=false)/\Below w.heap.size w w1,λ st _=>match st with | [.int _ t]=>l.length-t.toNat | _=>0,⟨0,rfl,by omega,by simp,.refl _ _⟩,?_⟩;rintro t w1 ⟨i,aA,hi,aC,B1⟩;cases aA;refine Aa (λ aB=>⟨⟨by omega,aB⟩,?_⟩) (λ aL=>⟨?_,B1⟩)
 ·have aD:i<l.length:=by omega
  obtain⟨q,c,rfl,hc,cell⟩:=Ei (n:=6) (λ x c h=>DT.len h) (by decide) (hl.grown B1) hC aD;have cE:=hc;obtain⟨a9,cap9,_,rfl,_⟩:=DT.open hc;refine⟨_,by rw [AjB];exact cell 0 _ rfl,_,by rw [AjB];exact cell 1 _ rfl,_,by rw [AjB];exact cell 2 _ rfl,_,by rw [AjB];exact cell 3 _ rfl,_,by rw [AjB];exact cell 4 _ rfl,_,_,_,by rw [AjB];exact cell 5 _ rfl,?_⟩;rw [aY];refine (hf w1 _ _ B1 (Akj aD) cE).mono ?_;rintro _ w2 ⟨_,rfl,rfl,B2⟩;refine⟨_,rfl,Ao (λ h=>⟨by rw [Ey aD aC h];rfl,Ac B1 B2⟩) (λ h=>?_)⟩;rw [Ag (by omega)];refine⟨⟨i+1,rfl,by omega,λ x hx=>?_,Ac B1 B2⟩,?_⟩
  ·rw [Akm aD] at hx;rcases Akn.1 hx with hx | hx
   ·exact aC x hx
   ·rw [Akq.1 hx];exact h
  ·show l.length-((i+1:Nat):Int).toNat<l.length-((i:Nat):Int).toNat;simp only [AjB];omega
 ·rw [Akp (by omega)] at aC;rw [Dh aC];rfl
theorem Pm{w0:World}{w:World}{a:Option Addr}{c0:Nat}{rs:List Value}{l:List Ex}(hl:Rd w a rs)(hC:Ax (XC w0) l rs)(hn:l.length<=9223372036854775807){fn:FuncId}{fi ca:Array Value}(aY:enters Tryz.prog fn=true)(p:Ex->Bool)(hf:∀ w' x c,Below w.heap.size w w'->x∈l->(XC w0) x c->Calls Tryz.prog fn ⟨fi.toList++[.agg ⟨c⟩]++ca.toList⟩ w' (AD λ r aR=>r=.bool (p x)/\Below w'.heap.size w' aR)) :
  Calls Tryz.prog f.Dm #[.slice a l.length c0,.func (.func fn) fi ca] w (AD λ r w'=>r=.bool (l.any p)/\Below w.heap.size w w'):=by
 apply R.Ce
 delta R.Ci R.G R.S;try dsimp only [R.Ps]
 refine (PF hl hC hn aY p hf).mono ?_;rintro _ w1 ⟨_,rfl,rfl,B1⟩;exact⟨_,rfl,by rw [EW],B1⟩
theorem Q7{w:World}{a:Option Addr}{c0:Nat}{rs:List Value}{l:List (Int × Bool)}(hl:Rd w a rs)(hC:Ax (Lj) l rs)(hn:l.length<=9223372036854775807){fn:FuncId}{fi ca:Array Value}(aY:enters Tryz.prog fn=true)(p:(Int × Bool)->Bool)(hf:∀ w' x c,Below w.heap.size w w'->x∈l->(Lj) x c->Calls Tryz.prog fn ⟨fi.toList++[.agg ⟨c⟩]++ca.toList⟩ w' (AD λ r aR=>r=.bool (p x)/\Below w'.heap.size w' aR)) :
  Calls Tryz.prog f.El #[.slice a l.length c0,.func (.func fn) fi ca] w (AD λ r w'=>r=.int .i64 (PE (l.findIdx? p))/\Below w.heap.size w w'):=by
 apply R.Db
 delta R.E R.F R.G R.I R.Lb R.Li R.Qi R.W R.X;try dsimp only [R.Ps]
 refine⟨λ st w1=>∃ i:Nat,st=[.int .i64 (i:Int)]/\i<=l.length/\(∀ x∈l.take i,p x=false)/\Below w.heap.size w w1,λ st _=>match st with | [.int _ t]=>l.length-t.toNat | _=>0,⟨0,rfl,by omega,by simp,.refl _ _⟩,?_⟩;rintro t w1 ⟨i,aA,hi,aC,B1⟩;cases aA;refine Aa (λ aB=>⟨⟨by omega,aB⟩,?_⟩) (λ aL=>⟨?_,B1⟩)
 ·have aD:i<l.length:=by omega
  obtain⟨q,c,rfl,hc,cell⟩:=Ei (n:=2) (λ x c h=>Xn h) (by decide) (hl.grown B1) hC aD;have cE:=hc;obtain rfl:=hc.1;refine⟨_,by rw [AjB];exact cell 0 _ rfl,_,by rw [AjB];exact cell 1 _ rfl,?_⟩;rw [aY];refine (hf w1 _ _ B1 (Akj aD) cE).mono ?_;rintro _ w2 ⟨_,rfl,rfl,B2⟩;refine⟨_,rfl,Ao (λ h=>⟨by rw [Ey aD aC h];rfl,Ac B1 B2⟩) (λ h=>?_)⟩;rw [Ag (by omega)];refine⟨⟨i+1,rfl,by omega,λ x hx=>?_,Ac B1 B2⟩,?_⟩
  ·rw [Akm aD] at hx;rcases Akn.1 hx with hx | hx
   ·exact aC x hx
   ·rw [Akq.1 hx];exact h
  ·show l.length-((i+1:Nat):Int).toNat<l.length-((i:Nat):Int).toNat;simp only [AjB];omega
 ·rw [Akp (by omega)] at aC;rw [Dh aC];rfl
theorem I5{w:World}{a:Option Addr}{c0:Nat}{rs:List Value}{l:List (Int × Bool)}(hl:Rd w a rs)(hC:Ax (Lj) l rs)(hn:l.length<=9223372036854775807){fn:FuncId}{fi ca:Array Value}(aY:enters Tryz.prog fn=true)(p:(Int × Bool)->Bool)(hf:∀ w' x c,Below w.heap.size w w'->x∈l->(Lj) x c->Calls Tryz.prog fn ⟨fi.toList++[.agg ⟨c⟩]++ca.toList⟩ w' (AD λ r aR=>r=.bool (p x)/\Below w'.heap.size w' aR)) :
  Calls Tryz.prog f.DC #[.slice a l.length c0,.func (.func fn) fi ca] w (AD λ r w'=>r=.bool (l.any p)/\Below w.heap.size w w'):=by
 apply R.CE
 delta R.Ci R.G R.S;try dsimp only [R.Ps]
 refine (Q7 hl hC hn aY p hf).mono ?_;rintro _ w1 ⟨_,rfl,rfl,B1⟩;exact⟨_,rfl,by rw [EW],B1⟩
theorem SO{w:World}{a:Option Addr}{c0:Nat}{rs:List Value}{l:List ByteArray}(hl:Rd w a rs)(hC:Ax (λ x c=>c=[.string x]) l rs)(hn:l.length<=9223372036854775807){fn:FuncId}{fi ca:Array Value}(aY:enters Tryz.prog fn=true)(p:ByteArray->Bool)(hf:∀ w' x c,Below w.heap.size w w'->x∈l->(λ x c=>c=[.string x]) x c->Calls Tryz.prog fn ⟨fi.toList++[c.headD undef]++ca.toList⟩ w' (AD λ r aR=>r=.bool (p x)/\Below w'.heap.size w' aR)) :
  Calls Tryz.prog f.EJ #[.slice a l.length c0,.func (.func fn) fi ca] w (AD λ r w'=>r=.int .i64 (PE (l.findIdx? p))/\Below w.heap.size w w'):=by
 apply R.Dy
 delta R.Ad R.F R.G R.I R.Lt R.Qi R.T R.W R.X;try dsimp only [R.Ps]
 refine⟨λ st w1=>∃ i:Nat,st=[.int .i64 (i:Int)]/\i<=l.length/\(∀ x∈l.take i,p x=false)/\Below w.heap.size w w1,λ st _=>match st with | [.int _ t]=>l.length-t.toNat | _=>0,⟨0,rfl,by omega,by simp,.refl _ _⟩,?_⟩;rintro t w1 ⟨i,aA,hi,aC,B1⟩;cases aA;refine Aa (λ aB=>⟨⟨by omega,aB⟩,?_⟩) (λ aL=>⟨?_,B1⟩)
 ·have aD:i<l.length:=by omega
  obtain⟨q,c,rfl,hc,cell⟩:=Ei (n:=1) (λ x c h=>by rw [h];rfl) (by decide) (hl.grown B1) hC aD;have cE:=hc;have fY:c=[.string l[i]]:=hc;subst fY;refine⟨_,by rw [AjB];exact cell 0 _ rfl,?_⟩;rw [aY];refine (hf w1 _ _ B1 (Akj aD) cE).mono ?_;rintro _ w2 ⟨_,rfl,rfl,B2⟩;refine⟨_,rfl,Ao (λ h=>⟨by rw [Ey aD aC h];rfl,Ac B1 B2⟩) (λ h=>?_)⟩;rw [Ag (by omega)];refine⟨⟨i+1,rfl,by omega,λ x hx=>?_,Ac B1 B2⟩,?_⟩
  ·rw [Akm aD] at hx;rcases Akn.1 hx with hx | hx
   ·exact aC x hx
   ·rw [Akq.1 hx];exact h
  ·show l.length-((i+1:Nat):Int).toNat<l.length-((i:Nat):Int).toNat;simp only [AjB];omega
 ·rw [Akp (by omega)] at aC;rw [Dh aC];rfl
theorem SA{w:World}{a:Option Addr}{c0:Nat}{rs:List Value}{l:List ByteArray}(hl:Rd w a rs)(hC:Ax (λ x c=>c=[.string x]) l rs)(hn:l.length<=9223372036854775807){fn:FuncId}{fi ca:Array Value}(aY:enters Tryz.prog fn=true)(p:ByteArray->Bool)(hf:∀ w' x c,Below w.heap.size w w'->x∈l->(λ x c=>c=[.string x]) x c->Calls Tryz.prog fn ⟨fi.toList++[c.headD undef]++ca.toList⟩ w' (AD λ r aR=>r=.bool (p x)/\Below w'.heap.size w' aR)) :
  Calls Tryz.prog f.D3 #[.slice a l.length c0,.func (.func fn) fi ca] w (AD λ r w'=>r=.bool (l.any p)/\Below w.heap.size w w'):=by
 apply R.CT
 delta R.Ci R.G R.S;try dsimp only [R.Ps]
 refine (SO hl hC hn aY p hf).mono ?_;rintro _ w1 ⟨_,rfl,rfl,B1⟩;exact⟨_,rfl,by rw [EW],B1⟩
end Go.Proofs.YtfaagidbphhboaaGreatDoor
namespace Go.Dn
set_option linter.unusedVariables false
set_option maxRecDepth 100000
theorem SH.v3{F:Nat->Prop}{w0 w:World}{H:List Ent}(S:SH F w0 w H)(n:Nat){b:Nat}{x y:Int}{s:ByteArray}{t:TypeId}(hn:H[n]?=some (b,#[.int .i64 x,.int .i64 y,.string s],t)){Q:Int->Int->ByteArray->Prop}(h:Q x y s) :
  ∃ a:Int,w.cell? ⟨b,0,none⟩=some (.int .i64 a)/\∃ c:Int,w.cell? ⟨b,1,none⟩=some (.int .i64 c)/\∃ d:ByteArray,w.cell? ⟨b,2,none⟩=some (.string d)/\Q a c d :=
 ⟨x,S.cell n hn rfl,y,S.cell n hn rfl,s,S.cell n hn rfl,h⟩
end Go.Dn
namespace Go.Proofs.YtfaagidbphhboaaGreatDoor
set_option maxRecDepth 100000
open Go.Dn Go.Proofs
open Go.RowKit (Below)
set_option linter.unusedVariables false
/-! ### orders -/
/-! ### the laws -/
end Go.Proofs.YtfaagidbphhboaaGreatDoor
namespace Go.Proofs.YtfaagidbphhboaaGreatDoor
open _root_.BitVec renaming ofInt -> Ai4, ofInt_natCast -> AjG, toNat_ofNat -> AjH
open _root_.Nat renaming mod_eq_of_lt -> AjD
set_option maxRecDepth 100000
open Go.Dn Go.Proofs
open Go.RowKit (Below)
set_option linter.unusedVariables false
section
variable {w:World}{a:Option Addr}{c:Nat}
end
def Pe(n:Nat):Int:=if n % 2=1 then -((n / 2:Nat):Int)-1 else ((n / 2:Nat):Int)
theorem Ae2(n:Nat)(h:n<18446744073709551616):(Ai4 64 (n:Int) &&& Ai4 64 1).toNat=n % 2:=by
 rw [BitVec.toNat_and,AjG,AjH,AjD (by omega)];exact Nat.and_two_pow_sub_one_eq_mod n 1
theorem Aal{n:Nat}(h:n<18446744073709551616) :
  IntKind.i64.wrap (((Ai4 64 (IntKind.i64.wrap (Int.fdiv (n:Int) (2 ^ (min 1 64)))) ^^^ Ai4 64 (IntKind.i64.wrap (0-IntKind.i64.wrap (IntKind.u64.wrap (((Ai4 64 (n:Int) &&& Ai4 64 1).toNat:Int)))))).toNat:Int))=Pe n:=by
 have e1:IntKind.i64.wrap (Int.fdiv (n:Int) (2 ^ (min 1 64)))=((n / 2:Nat):Int):=by
  rw [Int.fdiv_eq_ediv_of_nonneg _ (by decide),show (2:Int) ^ (min 1 64)=2 from rfl,wrap_i64 (by omega) (by omega)];omega
 rw [e1,Ae2 n h,A8 (by omega) (by omega),wrap_i64 (n:=((n % 2:Nat):Int)) (by omega) (by omega)];unfold Pe;by_cases ho:n % 2=1
 ·rw [ho,if_pos rfl,show IntKind.i64.wrap (0-((1:Nat):Int)) = -1 by decide,show Ai4 64 (-1)=BitVec.allOnes 64 by decide,BitVec.xor_allOnes,BitVec.toNat_not,AjG,AjH,AjD (by omega),FZ];split <;> omega
 ·have:n % 2=0:=by omega
  rw [this,if_neg (by omega),show IntKind.i64.wrap (0-((0:Nat):Int))=0 by decide,show Ai4 64 0=0#64 by decide,BitVec.xor_zero,AjG,AjH,AjD (by omega),wrap_i64 (by omega) (by omega)]
def Ai0(o:Option (Nat × Nat)):Value :=
 match o with
 | some x=>.tuple #[.int .i64 (Pe x.1),.int .i64 (x.2:Int),.int .i64 0]
 | none=>.tuple #[.int .i64 0,.int .i64 0,.int .i64 20]
section
variable {w:World}{a:Option Addr}{c:Nat}{l:List UInt8}
theorem LO(hl:Rd w a (l.map Af))(hc:l.length<=c)(hs:l.length<=9223372036854775807)(at_:Int):Calls Tryz.prog f.P0 #[.slice a l.length c,.int .i64 at_] w (AD λ v w'=>v=Ai0 (takeN l at_)/\w'=w):=by
 apply R.IW
 delta R.F3 R.H R.I R.S R.W R.Wu;try dsimp only [R.Ps]
 refine (AK hl hc hs at_).mono ?_;rintro _ w ⟨_,rfl,rfl,rfl⟩;cases ho:takeN l at_ with
 | none=>exact⟨_,_,_,rfl,rfl,rfl⟩
 | some x =>
  obtain⟨n,k⟩:=x;refine⟨_,_,_,rfl,?_,rfl⟩;rw [Aal (Cr ho).1];rfl
/-! ### Take -/
end
section
variable {w:World}{a:Option Addr}{c:Nat}{l:List UInt8}
/-! ### Take -/
def CG(l:List UInt8)(at_:Int):Option (AV × Nat) :=
 if at_<0\/(l.length:Int)<=at_ then none else
 let k:=(l.getD at_.toNat 0).toNat
 if k=0 then some ((0,0,E0),at_.toNat+1)
 else if k=1 then (takeN l (at_+1)).map λ x=>((1,Pe x.1,E0),x.2)
 else if k=2 then (if at_+1<l.length/\(l.getD (at_.toNat+1) 0).toNat<=1 then some ((2,((l.getD (at_.toNat+1) 0).toNat:Int),E0),at_.toNat+2) else none)
 else if k=3 then (E9 l (at_+1) 1024).map λ x=>((3,0,Dz x.1),x.2)
 else none
def Aag(o:Option (AV × Nat)):Value :=
 match o with
 | some x=>.tuple #[.agg #[.int .i64 x.1.1,.int .i64 x.1.2.1,.string x.1.2.2],.int .i64 (x.2:Int),.int .i64 0]
 | none=>.tuple #[.agg #[.int .i64 0,.int .i64 0,.string E0],.int .i64 0,.int .i64 20]
theorem NQ{l:List UInt8}{at_:Nat}:(∃ n k,takeN l (at_:Int)=some (n,k)/\(n=0\/n=1))↔(at_<l.length/\(l.getD at_ 0).toNat<=1):=by
 have ht:takeN l (at_:Int)=(CB 0 0 (l.drop at_)).map λ x=>(x.1,at_+x.2):=by unfold takeN;rw [if_neg (by omega)];rfl
 by_cases h:at_<l.length
 ·have hd:l.drop at_=l[at_] :: l.drop (at_+1):=List.drop_eq_getElem_cons h;have hg:l.getD at_ 0=l[at_]:=by simp [List.getD,h]
  rw [hg];generalize l[at_]=c at hd;have e:CB 0 0 (c :: l.drop (at_+1))=if c.toNat<128 then some (c.toNat,1) else CB 1 (c.toNat % 128) (l.drop (at_+1)):=by
   conv=>lhs;unfold CB
   rw [if_neg (by omega)];by_cases hc:c.toNat<128
   ·rw [if_pos hc,if_pos hc,if_neg (by omega)];simp
   ·rw [if_neg hc,if_neg hc];simp
  rw [ht,hd,e];by_cases hc:c.toNat<128
  ·rw [if_pos hc];simp only [Option.map_some,Option.some.injEq,Prod.mk.injEq];constructor
   ·rintro⟨n,k,⟨rfl,_⟩,hn⟩;exact⟨h,by omega⟩
   ·rintro⟨_,hn⟩;exact⟨_,_,⟨rfl,rfl⟩,by omega⟩
  ·rw [if_neg hc];constructor
   ·rintro⟨n,k,hs,hn⟩;obtain⟨⟨x1,x2⟩,hx,he⟩:=Option.map_eq_some_iff.1 hs;simp only [Prod.mk.injEq] at he;obtain⟨_,_,_,_,hb⟩:=Ih _ 1 _ _ _ (by omega) hx;have:=hb (by omega);omega
   ·rintro⟨_,hn⟩;omega
 ·have hd:l.drop at_=[]:=List.drop_eq_nil_of_le (by omega);rw [ht,hd];constructor
  ·rintro⟨n,k,hs,_⟩;simp [CB] at hs
  ·rintro⟨hh,_⟩;omega
theorem Abw{l:List UInt8}{at_ n k:Nat}(h:takeN l (at_:Int)=some (n,k))(hn:n=0\/n=1):n=(l.getD at_ 0).toNat/\k=at_+1:=by
 have hb:=NQ.1 ⟨n,k,h,hn⟩;have ht:takeN l (at_:Int)=(CB 0 0 (l.drop at_)).map λ x=>(x.1,at_+x.2):=by unfold takeN;rw [if_neg (by omega)];rfl
 have hd:l.drop at_=l[at_] :: l.drop (at_+1):=List.drop_eq_getElem_cons hb.1;have hg:l.getD at_ 0=l[at_]:=by simp [List.getD,hb.1]
 rw [hg] at hb ⊢;rw [ht,hd] at h;unfold CB at h;rw [if_neg (by omega),if_pos (by omega),if_neg (by omega)] at h;simp at h;omega
end
end Go.Proofs.YtfaagidbphhboaaGreatDoor
namespace Go.Dn
theorem SH.Aen{F:Nat->Prop}{w0 w:World}{H:List Ent}(S:SH F w0 w H)(n:Nat){b:Nat}{x0 x1 x2:Value}{t:TypeId}(hn:H[n]?=some (b,#[x0,x1,x2],t)){v0 v1:Int}{v2:ByteArray}{Q:Int->Int->ByteArray->World->Prop}
  (hk:∀ w',SH F w0 w' (H.set n (b,#[.int .i64 v0,.int .i64 v1,.string v2],t))->Q v0 v1 v2 w') :
  CI ⟨b,0,none⟩ (.int .i64 v0) (λ w=>CI ⟨b,1,none⟩ (.int .i64 v1) (λ w=>CI ⟨b,2,none⟩ (.string v2) (λ w=>∃ r0:Int,w.cell? ⟨b,0,none⟩=some (.int .i64 r0)/\∃ r1:Int,w.cell? ⟨b,1,none⟩=some (.int .i64 r1)/\∃ r2:ByteArray,w.cell? ⟨b,2,none⟩=some (.string r2)/\Q r0 r1 r2 w) w) w) w:=by
 have aB:=(List.getElem?_eq_some_iff.1 hn).1;exact S.Agz n hn λ w' _ S'=>S'.v3 n (List.getElem?_set_self aB) (hk w' S')
end Go.Dn
namespace Go.Proofs.YtfaagidbphhboaaGreatDoor
open Go.Dn Go.Proofs
open Go.RowKit (Below)
set_option linter.unusedVariables false
set_option maxRecDepth 20000
section
variable {w:World}{a:Option Addr}{c:Nat}{l:List UInt8}
theorem Abz{i:Nat}(hi:i<l.length):l.getD i 0=l[i]:=by simp [List.getD,hi]
end
end Go.Proofs.YtfaagidbphhboaaGreatDoor
namespace Go.Proofs.YtfaagidbphhboaaGreatDoor
open _root_.Bool renaming and_eq_true -> Ai8
open _root_.Int renaming toNat_natCast -> AjB
open _root_.List renaming all_eq_true -> AjY, getD -> Akt, getElem_mem -> Akj, length_append -> Ajm, length_cons -> AjM, length_nil -> Aks, length_take -> Ajt, mem_iff_getElem -> Aku, mem_singleton -> Akq, take_of_length_le -> Akp
open _root_.Nat renaming mul_one -> AjE, sub_zero -> Akv
open _root_.Option.some renaming injEq -> Aj0
open _root_.Prod.mk renaming injEq -> AjK
open _root_.UInt8 renaming ofNat -> AjC
set_option maxRecDepth 100000
open Go.Dn Go.Proofs
open Go.RowKit (Below)
set_option linter.unusedVariables false
section
variable {w:World}{a:Option Addr}{c:Nat}{l:List UInt8}
theorem KM(hl:Rd w a (l.map Af))(hc:l.length<=c)(hs:l.length<=140737488355328)(at_:Int) :
  Calls Tryz.prog f.Aan #[.slice a l.length c,.int .i64 at_] w (AD λ v w'=>v=Aag (CG l at_)/\Below w.heap.size w w'):=by
 apply R.OB
 delta R.A R.Ab R.Ad R.Agh R.Aar R.F3 R.Cb R.E R.F R.H R.I R.Li R.Lt R.Ly R.N R.S R.Ae R.T R.W R.X R.Zii;try dsimp only [R.Ps]
 refine (SH.start (λ _=>False) w).Ak λ b3 w1 mf B1 S1=>?_;refine Aa (λ h=>S1.Aen 0 rfl λ w4 S4=>⟨by simp [CG,h,Aag],S4.below⟩) (λ h0=>Aa (λ h=>S1.Aen 0 rfl λ w4 S4=>⟨?_,S4.below⟩) (λ h1=>?_))
 ·unfold CG;rw [if_pos (.inr h)];rfl
 obtain⟨at_,rfl⟩:∃ k:Nat,at_=k:=⟨at_.toNat,by omega⟩;have gd:at_<l.length:=by omega
 refine⟨⟨by omega,by omega⟩,?_⟩;obtain⟨p,hp,hcell⟩:=byte_at (hl.grown B1) gd;subst hp;have hg:=Abz gd;have cE:=l[at_].toNat_lt;refine⟨_,by rw [AjB];exact hcell,S1.N6 λ cJ bm m' dC aW=>?_⟩;have iY:Rd bm (some p) (l.map Af):=hl.grown aW.below;rw [wrap_i64 (n:=(l[at_].toNat:Int)) (by omega) (by omega)] at aW;rw [wrap_i64 (n:=(at_:Int)+1) (by omega) (by omega)];have ht:CG l (at_:Int)=(if l[at_].toNat=0 then some ((0,0,E0),at_+1)
   else if l[at_].toNat=1 then (takeN l ((at_:Int)+1)).map λ x=>((1,Pe x.1,E0),x.2)
   else if l[at_].toNat=2 then (if (at_:Int)+1<l.length/\(l.getD (at_+1) 0).toNat<=1 then some ((2,((l.getD (at_+1) 0).toNat:Int),E0),at_+2) else none)
   else if l[at_].toNat=3 then (E9 l ((at_:Int)+1) 1024).map λ x=>((3,0,Dz x.1),x.2)
   else none):=by
  unfold CG;rw [if_neg (by omega),AjB,hg]
 generalize gp:l[at_].toNat=kk at ht aW cE;refine⟨λ s cT=>∃(nx e:Int) (v:AV),s=[.int .i64 nx,.int .i64 e]/\SH (λ _=>False) w cT [(cJ,#[.int .i64 v.1,.int .i64 v.2.1,.string v.2.2],ty.AY),(b3,#[.int .i64 0,.int .i64 0,.string E0],ty.AY)] /\
   (e≠0->CG l (at_:Int)=none)/\(e=0->AG v=false->CG l (at_:Int)=none)/\(e=0->AG v=true->∃ k:Nat,nx=k/\CG l (at_:Int)=some (v,k)),?_,?_⟩
 ·refine⟨_,aW.cell 0 rfl rfl,Aj (λ h=>?_) (λ n0=>Aj (λ h=>?_) (λ n1=>Aj (λ h=>?_) (λ n2=>Aj (λ h=>?_) (λ n3=>?_))))⟩
  ·have:kk=0:=by omega
   subst this;exact⟨_,_,(0,0,E0),rfl,aW,λ h=>absurd rfl h,λ _ h=>absurd h (by decide),λ _ _=>⟨at_+1,by omega,by rw [ht];simp⟩⟩
  ·have:kk=1:=by omega
   subst this;refine (LO iY hc (by omega) ((at_:Int)+1)).mono ?_;rintro _ bm ⟨_,rfl,rfl,rfl⟩;cases ho:takeN l ((at_:Int)+1) with
   | none =>
    exact⟨_,_,_,rfl,aW.BA 0 rfl (show 1<3 by decide) λ bR aQ=>⟨_,_,(1,0,E0),rfl,aQ,λ _=>by rw [ht,ho];simp,λ h=>absurd h (by decide),λ h=>absurd h (by decide)⟩⟩
   | some x =>
    obtain⟨n,k⟩:=x;exact⟨_,_,_,rfl,aW.BA 0 rfl (show 1<3 by decide) λ bR aQ=>⟨_,_,(1,Pe n,E0),rfl,aQ,λ h=>absurd rfl h,λ _ h=>absurd h (by simp [AG]),λ _ _=>⟨k,rfl,by rw [ht,ho];simp⟩⟩⟩
  ·have:kk=2:=by omega
   subst this;refine (AK iY hc (by omega) ((at_:Int)+1)).mono ?_;rintro _ bm ⟨_,rfl,rfl,rfl⟩;have dv:((at_:Int)+1)=((at_+1:Nat):Int):=by omega
   have jF:=NQ (l:=l) (at_:=at_+1);cases ho:takeN l ((at_:Int)+1) with
   | none =>
    refine⟨_,_,_,rfl,aW.BA 0 rfl (show 1<3 by decide) λ bR aQ=>⟨_,_,(2,IntKind.i64.wrap 0,E0),rfl,aQ,λ _=>?_,λ h=>absurd h (by decide),λ h=>absurd h (by decide)⟩⟩;rw [ht];simp only [if_neg (show ¬ (2:Nat)=0 by decide),if_neg (show ¬ (2:Nat)=1 by decide),if_true];rw [if_neg];rintro⟨q1,q2⟩;obtain⟨n,k,q3,_⟩:=jF.2 ⟨by omega,q2⟩;rw [<- dv,ho] at q3;cases q3
   | some x =>
    obtain⟨n,k⟩:=x;have hn:=(Cr ho).1;refine⟨_,_,_,rfl,aW.BA 0 rfl (show 1<3 by decide) λ bR aQ=>⟨_,_,(2,IntKind.i64.wrap (n:Int),E0),rfl,aQ,λ h=>absurd rfl h,λ _ hf=>?_,λ _ hr=>?_⟩⟩
    ·rw [ht];simp only [if_neg (show ¬ (2:Nat)=0 by decide),if_neg (show ¬ (2:Nat)=1 by decide),if_true];rw [if_neg];rintro⟨q1,q2⟩;obtain⟨n',k',q3,q4⟩:=jF.2 ⟨by omega,q2⟩;rw [<- dv,ho] at q3;cases q3;rcases q4 with rfl | rfl
     ·exact absurd hf (by decide)
     ·exact absurd hf (by decide)
    ·have ot:n=0\/n=1:=by
      have:=DL hr;simp only at this;rw [FZ] at this;split at this <;> omega
     obtain⟨q1,q2⟩:=NQ.1 ⟨n,k,dv ▸ ho,ot⟩;obtain⟨q3,q4⟩:=Abw (dv ▸ ho) ot;refine⟨k,rfl,?_⟩;rw [ht];simp only [if_neg (show ¬ (2:Nat)=0 by decide),if_neg (show ¬ (2:Nat)=1 by decide),if_true];rw [if_pos ⟨by omega,q2⟩,<- q3,wrap_i64 (by omega) (by omega),q4]
  ·have:kk=3:=by omega
   subst this;refine (GR iY hc (by omega) ((at_:Int)+1) 1024).mono ?_;rintro _ bm ⟨_,rfl,rfl,rfl⟩;cases ho:E9 l ((at_:Int)+1) 1024 with
   | none =>
    exact⟨_,_,_,rfl,aW.BA 0 rfl (show 2<3 by decide) λ bR aQ=>⟨_,_,(3,0,E0),rfl,aQ,λ _=>by rw [ht,ho];simp,λ h=>absurd h (by decide),λ h=>absurd h (by decide)⟩⟩
   | some x =>
    obtain⟨s,k⟩:=x;have aU:s.length<=1024:=by
     unfold E9 at ho;split at ho
     ·split at ho
      ·cases ho
      ·simp only [Aj0,AjK] at ho;rw [<- ho.1,Ajt];omega
     ·cases ho
    exact⟨_,_,_,rfl,aW.BA 0 rfl (show 2<3 by decide) λ bR aQ=>⟨_,_,(3,0,Dz s),rfl,aQ,λ h=>absurd rfl h,λ _ h=>absurd h (by simp [AG,BL,aU]),λ _ _=>⟨k,rfl,by rw [ht,ho];simp⟩⟩⟩
  ·have aq:CG l (at_:Int)=none:=by rw [ht,if_neg (by omega),if_neg (by omega),if_neg (by omega),if_neg (by omega)]
   refine⟨_,_,((kk:Int),0,E0),rfl,aW,λ _=>aq,λ _ _=>aq,λ _ h=>?_⟩;exfalso;have:=DL h;simp only at this;omega
 ·rintro _ _ cT ⟨nx,e,v,eC,bN,g1,g2,g3⟩;cases eC;refine As (λ h=>bN.Aen 1 rfl λ w4 S4=>⟨by rw [g1 h];rfl,S4.below⟩) (λ h=>bN.v3 0 rfl ((BB cT v).mono ?_));rintro _ iy ⟨_,rfl,rfl,pz⟩;have gW:=bN.grown pz;refine⟨_,rfl,Ap (Ao (λ hr=>gW.v3 0 rfl (gW.Aen 1 rfl λ w4 S4=>⟨?_,S4.below⟩)) (λ hr=>gW.Aen 1 rfl λ w4 S4=>⟨by rw [g2 h hr];rfl,S4.below⟩))⟩;obtain⟨k,rfl,hk⟩:=g3 h hr;rw [hk];rfl
end
def N1(c:AA)(v:AV):Bool:=AG v && (decide (v.1=c.2.1) || (c.2.2 && decide (v.1=0)))
def Mt(cs:List AA)(row:List AV):Bool:=(cs.zip row).all λ p=>N1 p.1 p.2
def EY(cs:List AA)(row:List AV):Bool:=decide (row.length=cs.length) && Mt cs row
theorem AdK{cs:List AA}{row:List AV}{i:Nat}(h1:i<cs.length)(h2:i<row.length)(h:N1 cs[i] row[i]=false):Mt cs row=false:=by
 unfold Mt;rw [List.all_eq_false];exact⟨(cs[i],row[i]),Aku.2 ⟨i,by simp;omega,by simp⟩,by simp [h]⟩
theorem AdJ{cs:List AA}{row:List AV}(h:∀ i (h1:i<cs.length) (h2:i<row.length),N1 cs[i] row[i]=true):Mt cs row=true:=by
 unfold Mt;rw [AjY];intro p hp;obtain⟨i,hi,rfl⟩:=Aku.1 hp;simp only [List.length_zip] at hi;simp only [List.getElem_zip];exact h i (by omega) (by omega)
section
variable {w:World}{a a2:Option Addr}{c c2:Nat}{cs:List AA}{row:List AV}
def AiG(c:AA):Value:=.agg #[.string c.1,.int .i64 c.2.1,.bool c.2.2]
theorem XM{L b1 b2:Nat}(hn:cs.length<=9223372036854775807)(hr:row.length=cs.length)(J:Nat->World->Prop)(D:World->Prop)(aP:∀ k w,J k w->Rd w a (AO cs)/\Rd w a2 (Ba row)/\w.cell? ⟨b2,0,none⟩=some (.slice a2 row.length c2))
  (dP:∀ k w w',J k w->Below w.heap.size w w'->J k w') (cA:∀ k w (h1:k<cs.length) (h2:k<row.length),J k w->J4 Tryz.prog L #[AiG cs[k],Agf row[k]] (λ y w'=>(y=true/\J (k+1) w')\/(y=false/\D w')) w)
  (h0:J 0 w) (hb:w.cell? ⟨b1,0,none⟩=some (.slice a cs.length c)) :
  Calls Tryz.prog f.ID #[.func (.yield L) #[] #[],.pointer (some ⟨b1,0,none⟩),.pointer (some ⟨b2,0,none⟩)] w (AD λ _ w'=>J cs.length w'\/D w'):=by
 apply R.IL
 delta R.A R.Ab R.D R.E R.F R.G R.H R.I R.Lb R.Li R.Ls R.Lt R.N R.Qi R.Ae R.T R.W R.X;try dsimp only [R.Ps]
 refine⟨_,_,_,hb,λ s w1=>∃ k:Nat,k<=cs.length/\s=[.int .i64 (k:Int)]/\J k w1,λ s _=>match s with
   | [.int _ i]=>cs.length-i.toNat
   | _=>0,⟨0,by omega,rfl,h0⟩,?_⟩
 rintro _ w1 ⟨k,hk,aA,hj⟩;cases aA;refine Aa (λ aB=>⟨⟨by omega,aB⟩,?_⟩) (λ aL=>?_)
 ·have bQ:k<cs.length:=by omega
  have jJ:k<row.length:=by omega
  obtain⟨p,rfl,c0,c1,c2⟩:=Fh (aP _ _ hj).1 bQ;refine⟨_,by rw [AjB];exact c0,_,by rw [AjB];exact c1,_,by rw [AjB];exact c2,(ST.start w1).N6 λ b9 w5 rY S5=>S5.draw λ w6 B6 S6=>?_⟩;have pL:=dP _ _ _ hj S6.Ah;obtain⟨_,r2,r3⟩:=aP _ _ pL;obtain⟨q,rfl,d0,d1,d2⟩:=LM r2 jJ;refine⟨_,S6.cell 0 rfl rfl,_,S6.cell 0 rfl rfl,_,S6.cell 0 rfl rfl,_,_,_,r3,⟨by omega,by omega⟩,_,by rw [AjB];exact d0,_,by rw [AjB];exact d1,_,by rw [AjB];exact d2,?_⟩;rw [Ag (by omega)];have tG:cs.length-((k+1:Nat):Int).toNat<cs.length-((k:Nat):Int).toNat:=by
   simp only [AjB];omega
  refine (cA k w6 bQ jJ pL).mono ?_;rintro y w7 (⟨rfl,h⟩ | ⟨rfl,h⟩)
  ·exact AN ⟨⟨k+1,by omega,rfl,h⟩,tG⟩
  ·exact A0 (.inr h)
 ·have:k=cs.length:=by omega
  subst this;exact .inl hj
theorem PS:Calls Tryz.prog f.VS #[.slice a cs.length c,.slice a2 row.length c2] w (AD λ v w'=>∃ b1 b2,v=.func (.func f.ID) #[] #[.pointer (some ⟨b1,0,none⟩),.pointer (some ⟨b2,0,none⟩)] /\
  ST w w' [It.cells b2 #[.slice a2 row.length c2] ty.A3,It.cells b1 #[.slice a cs.length c] ty.Bo]):=by
 apply R.LF
 delta R.J R.N R.P R.S;try dsimp only [R.Ps]
 exact (ST.start w).Ak λ b1 w1 _ _ S1=>S1.Ak λ b2 w2 _ _ S2=>⟨b1,b2,rfl,S2⟩
theorem R0(hl:Rd w a (AO cs))(hn:cs.length<=9223372036854775807)(hr:Rd w a2 (Ba row)) :
  Calls Tryz.prog f.Yb #[.slice a cs.length c,.slice a2 row.length c2] w (AD λ r w'=>r=.bool (EY cs row)/\Below w.heap.size w w'):=by
 apply R.Ni
 delta R.A R.Ab R.Cb R.Cf R.E R.F R.G R.I R.Lb R.Li R.Lt R.N R.S R.Ae R.T;try dsimp only [R.Ps]
 refine (ST.start w).Ak λ b3 w1 _ _ S1=>As (λ h=>S1.BA 0 rfl (aE:=#[.bool false]) (by simp) rfl λ w2 S2=>⟨_,S2.cell 0 rfl rfl,?_,S2.Ah⟩) (λ hlen=>?_)
 ·have:¬ row.length=cs.length:=by omega
  simp [EY,this]
 have cM:row.length=cs.length:=by omega
 have pD:EY cs row=Mt cs row:=by simp [EY,cM]
 refine PS.mono ?_;rintro _ w3 ⟨_,rfl,b1,b2,rfl,P3⟩;have S3:=S1.join P3;refine⟨_,_,_,rfl,by kernel_rfl,λ rr aA bU hy=>?_⟩;have S4:=S3.range rr;obtain⟨L,hL⟩:∃ L,L=w3.heap.size+1:=⟨_,rfl⟩;obtain⟨d,hd⟩:∃ d,d=w3.heap.size:=⟨_,rfl⟩;rw [<- hL] at S4 hy ⊢;rw [<- hd] at S4 ⊢;let St:Obj->World->Prop:=λ o wx=>ST w wx [It.obj L o,It.obj d (.deferred (some [])),It.cells b2 #[.slice a2 row.length c2] ty.A3,It.cells b1 #[.slice a cs.length c] ty.Bo,It.cells b3 #[.bool false] ty.bool];let J:Nat->World->Prop:=λ q wx=>(∀ i (h1:i<cs.length) (h2:i<row.length),i<q->N1 cs[i] row[i]=true)/\St (.loop rr) wx;let D:World->Prop:=λ wx=>Mt cs row=false/\St (.loop { rr with state:=.done,pending:=some .ret }) wx;have aT:=XM (w:=(w3.alloc (.deferred (some []))).alloc (.loop rr)) (c:=c) (L:=L) (b1:=b1) hn cM J D (λ q wx hj=>⟨hl.grown hj.2.Ah,hr.grown hj.2.Ah,hj.2.cell 2 rfl rfl⟩) (λ q wx wy hj B=>⟨hj.1,hj.2.grown B⟩) (by
  rintro q wx h1 h2 ⟨aC,S⟩;refine hy _ _ _ _ _ _ _ wx (S.get 0 rfl) ?_;refine S.N6 λ dq w8 _ S=>S.N6 λ fx cI _ S=>S.YN 2 rfl λ bR S=>⟨_,S.cell 0 rfl rfl,_,S.cell 0 rfl rfl,_,S.cell 0 rfl rfl,(BB bR row[q]).mono ?_⟩;rintro _ bG ⟨_,rfl,rfl,cU⟩;have S:=S.grown cU;have Jk:N1 cs[q] row[q]=true->Bk rr L (λ y w'=>(y=true/\J (q+1) w')\/(y=false/\D w')) none bG:=λ hf=>S.Ml 2 aA bU rfl λ w' S=>.inl ⟨rfl,⟨λ i g1 g2 hi=>by
   rcases Nat.lt_or_ge i q with h | h
   ·exact aC i g1 g2 h
   ·obtain rfl:i=q:=by omega
    exact hf,S.drop 2⟩⟩
  have bad:N1 cs[q] row[q]=false->CI ⟨b3,0,none⟩ (.bool false) (λ cB=>Bk rr L (λ y w'=>(y=true/\J (q+1) w')\/(y=false/\D w')) (some .ret) cB) bG:=λ hf=>S.BA 6 rfl (aE:=#[.bool false]) (by simp) rfl λ cB S=>S.AaN 2 rfl λ w' S=>.inr ⟨rfl,⟨AdK h1 h2 hf,S.drop 2⟩⟩;refine⟨_,rfl,Ap (Ao (λ hR=>⟨_,S.cell 0 rfl rfl,_,S.cell 1 rfl rfl,?_⟩) (λ hR=>bad (by simp [N1,hR])))⟩;refine As (λ hk=>⟨_,S.cell 1 rfl rfl,Ao (λ nV=>⟨_,S.cell 0 rfl rfl,Ap (Aj (λ hz=>Jk ?_) (λ hz=>bad ?_))⟩) (λ nV=>bad ?_)⟩) (λ hk=>Jk ?_)
  ·simp [N1,hR,nV,hz]
  ·simp [N1,hR,hk,hz]
  ·simp [N1,hk,nV]
  ·simp [N1,hR,hk]) ⟨λ i _ _ h=>by omega,S4⟩ (S4.cell 3 rfl rfl)
 refine aT.mono ?_;rintro _ cT ⟨_,rfl,h⟩;refine⟨⟨_,rfl⟩,?_⟩;rcases h with ⟨aC,S⟩ | ⟨hf,S⟩
 ·refine S.Kr 0 aA bU rfl λ fR S=>.inl ⟨rfl,S.BA 4 rfl (aE:=#[.bool true]) (by simp) rfl λ fS S=>⟨S.get 1 rfl,?_⟩⟩;have S:=S.put 1 rfl (.deferred none);refine⟨_,S.cell 4 rfl rfl,?_,S.Ah⟩;rw [pD,AdJ λ i h1 h2=>aC i h1 h2 h1]
 ·refine S.AaM 0 rfl λ fR S=>.inr ⟨rfl,S.get 1 rfl,?_⟩;have S:=S.put 1 rfl (.deferred none);refine⟨_,S.cell 4 rfl rfl,?_,S.Ah⟩;rw [pD,hf]
theorem RY(hl:Rd w a (AO cs))(hn:cs.length<=9223372036854775807)(hq:∀ c∈cs,c.1.size<=9223372036854775807)(hr:Rd w a2 (Ba row)) :
  Calls Tryz.prog f.X9 #[.slice a cs.length c,.slice a2 row.length c2] w (AD λ r w'=>r=.bool (Ai cs && EY cs row)/\Below w.heap.size w w'):=by
 apply R.Ng
 delta R.Cb R.F R.G R.S;try dsimp only [R.Ps]
 refine (CC hl hn hq).mono ?_;rintro _ w1 ⟨_,rfl,rfl,B1⟩;refine⟨_,rfl,Ao (λ h=>(R0 (hl.grown B1) hn (hr.grown B1)).mono ?_) (λ h=>⟨by simp [h],B1⟩)⟩;rintro _ w2 ⟨_,rfl,rfl,B2⟩;exact⟨_,rfl,by simp [h],Ac B1 B2⟩
end
def Ev(a:Option Addr)(c:Nat)(l:List UInt8):It:=It.row ty.uint8 1 a l.length c (l.map Af)
section
variable {w0 w:World}{H:List It}{a:Option Addr}{c:Nat}{l:List UInt8}
theorem Gz(S:ST w0 w H){w':World}(h:EU w w' l a c):ST w0 w' (Ev a c l :: H):=S.add h.Ah _ h.row h.new
theorem Agx(S:ST w0 w H)(n:Nat)(hn:H[n]?=some (Ev a c l)):EU w0 w l a c:=⟨S.get n hn,λ k hk=>S.own _ (List.mem_of_getElem? hn) k hk,S.Ah⟩
theorem KJ(S:ST w0 w H)(n:Nat)(hn:H[n]?=some (Ev a c l)):Rd w a (l.map Af):=(Agx S n hn).rd
theorem Aex(S:ST w0 w H)(n:Nat)(hn:H[n]?=some (Ev a c l)){m:List UInt8}{b:Option Addr}{mc:Nat}(hs:Rd w b (m.map Af))(hl:l.length+m.length<=140737488355328){f:Value->World->Prop}
  (hf:∀ a' c' w',ST w0 w' (H.set n (Ev a' c' (l++m)))->f (.slice a' (l++m).length c') w') :
  Dc Tryz.prog (Builtin.append_ #[ty.AM,ty.AM] ty.AM #[.slice a l.length c,.slice b m.length mc]) f w :=
 HH (S.get n hn) hs hl λ a' c' w' hr hk pQ=>hf a' c' w' (S.Sx n hn hk _ hr pQ)
end
def Mw(b:Bool):UInt8:=if b then 1 else 0
def KU(c:AA):List UInt8:=Es c.1++[AjC c.2.1.toNat,Mw c.2.2]
def En(cs:List AA):List UInt8:=Al cs.length++cs.flatMap KU
theorem CL{cs:List AA}(h:Ai cs=true):1<=cs.length/\cs.length<=16:=by
 simp [Ai] at h;exact h.1.1
theorem F1{cs:List AA}(h:Ai cs=true){c:AA}(hc:c∈cs):Cp c.1=true/\1<=c.2.1/\c.2.1<=3/\c.1.size<=24:=by
 simp only [Ai,Ai8,AjY] at h;have:=h.1.2 c hc;simp only [DU,Ai8,decide_eq_true_eq] at this;have hn:=this.1;simp only [Cp,Ai8,decide_eq_true_eq] at hn;exact⟨this.1,this.2.1,this.2.2,hn.2⟩
theorem Adt{c:AA}(h:c.1.size<=24):(KU c).length<=36:=by
 have:=AE (n:=c.1.size) (by omega);have:=Bs c.1;simp only [KU,Es,Ajm,AjM,Aks];omega
theorem TC{cs:List AA}(h:∀ c∈cs,c.1.size<=24):(cs.flatMap KU).length<=cs.length*36:=by
 induction cs with
 | nil=>simp
 | cons c cs ih =>
  have h1:=Adt (h c (by simp));have h2:=ih λ x hx=>h x (by simp [hx]);rw [List.flatMap_cons,Ajm,AjM];omega
theorem YZ{cs:List AA}{i:Nat}(hi:i<cs.length):(cs.take (i+1)).flatMap KU=(cs.take i).flatMap KU++KU cs[i]:=by
 rw [List.take_succ_eq_append_getElem hi,List.flatMap_append];simp
theorem X7{cs:List AA}(h:Ai cs=true):(En cs).length<=600:=by
 have h1:=CL h;have:=AE (n:=cs.length) (by omega);have:=TC λ c hc=>(F1 h hc).2.2.2;simp only [En,Ajm];omega
def AiB(l:List UInt8)(cs:List AA)(w w':World)(v:Value):Prop :=
 (Ai cs=false/\v=.tuple #[.slice none 0 0,.int .i64 50]/\Below w.heap.size w w')\/(Ai cs=true/\∃ a c,v=.tuple #[.slice a (l++En cs).length c,.int .i64 0]/\EU w w' (l++En cs) a c)
section
variable {w:World}{a a2:Option Addr}{c c2:Nat}{cs:List AA}{l:List UInt8}
theorem R5(b:Bool)(w:World):Calls Tryz.prog f.Yc #[.bool b] w (AD λ v w'=>v=.int .u8 ((Mw b).toNat:Int)/\w'=w):=by
 apply R.Nj
 delta R.B R.F;try dsimp only [R.Ps]
 exact Ao (λ h=>⟨by rw [h];rfl,rfl⟩) (λ h=>⟨by rw [h];rfl,rfl⟩)
theorem Aby(c:UInt8):Value.int .u8 (c.toNat:Int)=Af c:=rfl
theorem two_bytes{w:World}{b:Nat}{x y:Value}{t:TypeId}{u v:UInt8}(h:w.heap[b]?=some (.cells #[x,y] t (0,0)))(hx:x=Af u)(hy:y=Af v):Rd w (some ⟨b,0,none⟩) ([u,v].map Af):=by
 subst hx hy;exact Rd.Av h
theorem Acg{k:Int}(h1:1<=k)(h2:k<=3):Value.int .u8 (IntKind.u8.wrap k)=Af (AjC k.toNat):=by
 rw [DS (by omega) (by omega),<- He (x:=k.toNat) (by omega)];congr 1;omega
theorem Th(hl:Rd w a (l.map Af))(hs:l.length+1000<=140737488355328)(aj:Rd w a2 (AO cs))(hn:cs.length<=9223372036854775807)(hq:∀ c∈cs,c.1.size<=9223372036854775807) :
  Calls Tryz.prog f.Z6 #[.slice a l.length c,.slice a2 cs.length c2] w (AD λ v w'=>AiB l cs w w' v):=by
 apply R.Ow
 delta R.A R.Ab R.B R.Dd R.Cb R.Cs R.Cy R.D R.F R.G R.H R.I R.J R.Ks R.Lb R.Li R.Lt R.N R.O R.IY R.S R.Ae R.T R.U R.W R.Wb R.Wu R.X;try dsimp only [R.Ps]
 refine (CC aj hn hq).mono ?_;rintro _ w1 ⟨_,rfl,rfl,B1⟩;refine⟨_,rfl,Ap (Ao (λ hR=>?_) (λ hR=>.inl ⟨hR,rfl,B1⟩))⟩;have hlen:=CL hR;have d1:=AE (n:=cs.length) (by omega);rw [A8 (by omega) (by omega)];refine (BC l (hl.grown B1) cs.length (by omega) (by omega)).mono ?_;rintro _ w2 ⟨_,rfl,je,jA,rfl,h2⟩;refine⟨_,_,_,rfl,λ s w3=>∃(i:Nat) (o:List UInt8) (oa:Option Addr) (oc:Nat),s=[.slice oa o.length oc,.int .i64 (i:Int)]/\i<=cs.length/\o=l++Al cs.length++(cs.take i).flatMap KU/\ST w w3 [Ev oa oc o],λ s _=>match s with
   | [_,.int _ i]=>cs.length-i.toNat
   | _=>0,⟨0,_,je,jA,rfl,by omega,by simp,Gz ((ST.start w).grown B1) h2⟩,?_⟩
 rintro oa _ oc _ w3 ⟨i,o,_,_,aA,hi,ho,S⟩;cases aA;have jM:o.length<=l.length+10+16*36:=by
  have:=TC (cs:=cs.take i) λ c hc=>(F1 hR (List.mem_of_mem_take hc)).2.2.2;rw [Ajt] at this;rw [ho];simp only [Ajm];omega
 refine Aa (λ aB=>⟨⟨by omega,aB⟩,?_⟩) (λ aL=>.inr ⟨hR,?_⟩)
 ·have aD:i<cs.length:=by omega
  obtain⟨hN,dz,bB,aU⟩:=F1 hR (Akj aD);obtain⟨p,rfl,c0,c1,c2⟩:=Fh (aj.grown S.Ah) aD;have hT:=AE (n:=cs[i].1.size) (by omega);have dM:=Bs cs[i].1;refine⟨_,by rw [AjB];exact c0,_,by rw [AjB];exact c1,_,by rw [AjB];exact c2,S.N6 λ dq w7 _ S=>⟨_,S.cell 0 rfl rfl,?_⟩⟩;have nv:Rd w7 oa (o.map Af):=KJ S 1 rfl;refine (NB o nv cs[i].1 (by omega) (by omega)).mono ?_;rintro _ w8 ⟨_,rfl,a8,c8,rfl,h8⟩;refine⟨_,_,_,_,rfl,(Gz S h8).draw λ w9 _ S=>⟨_,S.cell 1 rfl rfl,_,S.cell 1 rfl rfl,(R5 _ w9).mono ?_⟩⟩;rintro _ w9 ⟨_,rfl,rfl,rfl⟩;refine⟨_,rfl,S.cell 1 rfl rfl,S.Ak λ tT bm _ _ S=>?_⟩;refine Aex (m:=[AjC cs[i].2.1.toNat,Mw cs[i].2.2]) S 1 rfl (two_bytes (S.Bu 0 rfl) (Acg dz bB) (Aby _)) (by simp only [Es,Ajm,AjM,Aks];omega) λ a12 ob cI S=>⟨_,_,_,rfl,?_⟩;rw [Ag (by omega)];refine⟨⟨i+1,_,a12,ob,rfl,by omega,?_,S.sub (by simp)⟩,?_⟩
  ·rw [YZ aD,ho];simp [KU]
  ·show cs.length-((i+1:Nat):Int).toNat<cs.length-((i:Nat):Int).toNat;simp only [AjB];omega
 ·rw [Akp (by omega)] at ho;have:o=l++En cs:=by rw [ho];simp [En]
  subst this;exact⟨oa,oc,rfl,Agx S 0 rfl⟩
end
def AgD(n wd:Int):Prop:=0<=n/\n<=4096/\0<=wd/\wd<=64
instance (n wd:Int):Decidable (AgD n wd):=by unfold AgD;infer_instance
def Ait(l:List UInt8)(n wd:Nat):Prop:=l.length=Agw n wd/\Aii (Agc l n wd) wd=l
instance (l:List UInt8) (n wd:Nat):Decidable (Ait l n wd):=by unfold Ait;infer_instance
theorem AdR{l:List UInt8}{j:Nat}(h:j<l.length):l.getD j 0=l[j]:=by simp [h]
section
variable {w:World}{a:Option Addr}{c:Nat}{l:List UInt8}
end
section
variable {w:World}{a:Option Addr}{c:Nat}{l:List UInt8}
end
theorem Ym{l:List UInt8}{at_:Int}{most:Nat}{s:List UInt8}{k:Nat}(h:E9 l at_ most=some (s,k)):k<=l.length:=by
 unfold E9 at h;split at h
 ·rename_i x hx;have hb:=Cr (n:=x.1) (k:=x.2) hx;split at h
  ·cases h
  ·simp only [Aj0,AjK] at h;omega
 ·cases h
section
variable {w0 w:World}{a:Option Addr}{c:Nat}{l:List UInt8}
end
theorem VT(x:BitVec 32)(w:World)(b:Nat)(t:TypeId)(hb:w.heap[b]?=some (.cells #[.int .u8 (IntKind.u8.wrap (x.toNat:Int)),.int .u8 (IntKind.u8.wrap ((Int.fdiv (x.toNat:Int) (2 ^ (min 8 32))))),.int .u8 (IntKind.u8.wrap ((Int.fdiv (x.toNat:Int) (2 ^ (min 16 32))))),.int .u8 (IntKind.u8.wrap ((Int.fdiv (x.toNat:Int) (2 ^ (min 24 32)))))] t (0,0))) :
  Rd w (some ⟨b,0,none⟩) ((Af6 x).map Af):=by
 have:=Rd.Av hb;rw [Yo,LL,LL,LL] at this;exact this
section
variable {w:World}{a:Option Addr}{c:Nat}{l:List UInt8}
end
section
variable {w:World}{a:Option Addr}{c:Nat}{l:List UInt8}
theorem QK{a2:Option Addr}{c2:Nat}{m:List UInt8}(hl:Rd w a (l.map Af))(hm:Rd w a2 (m.map Af)) :
  Calls Tryz.prog f.WB #[.slice a l.length c,.slice a2 m.length c2] w (AD λ v w'=>w'=w/\v=.bool (decide (l=m))):=by
 apply R.Md
 delta R.G R.Rt R.S;try dsimp only [R.Ps]
 refine BH LK rfl hl ⟨_,rfl,BH LK rfl hm ⟨_,rfl,rfl,?_⟩⟩;rw [Aw];congr 1;rw [decide_eq_decide];exact⟨λ h=>by have:=congrArg bl h;rwa [CM,CM] at this,λ h=>by rw [h]⟩
theorem AaV(hl:Rd w a (l.map Af))(h0:0<l.length):∃ p,a=some p/\w.cell? p=some (.int .u8 ((l.getD 0 0).toNat:Int)):=by
 obtain⟨p,hp,hc⟩:=byte_at hl h0;refine⟨p,hp,?_⟩;rw [Nat.zero_mul,EO] at hc;rw [hc,AdR h0]
end
theorem AeB:LR Tryz.prog ty.ET=some (ty.AY,3,32,.agg #[.int .i64 0,.int .i64 0,.string ⟨#[]⟩]):=by kernel_rfl
structure RdN(w w':World)(a:Option Addr)(xs:List Value):Prop where
 rd:Rd w' a xs
 new:∀ k,BX a=some k->w.heap.size<=k
theorem RdN.grown{w w' w2:World}{a:Option Addr}{xs:List Value}(h:RdN w w' a xs)(B:Below w'.heap.size w' w2):RdN w w2 a xs:=⟨h.rd.grown B,h.new⟩
abbrev Z0:AV:=(0,0,E0)
def zmm(_:List AV):AV × AV:=(Z0,Z0)
def zC(n:Int)(p:AV × AV):Array Value:=#[.int .i64 n,.int .i64 p.1.1,.int .i64 p.1.2.1,.string p.1.2.2,.int .i64 p.2.1,.int .i64 p.2.2.1,.string p.2.2.2]
def zV(n:Int)(p:AV × AV)(e:Int):Value:=.tuple #[.agg (zC n p),.int .i64 e]
def OE(ls:List AV):Prop:=ls.length<=1024/\∀ v∈ls,AG v=true
def AhU(ls:List AV)(r:Value):Prop:=(OE ls/\r=zV (Dv ls:Int) (zmm ls) 0)\/(¬ OE ls/\r=zV 0 (Z0,Z0) 2)
structure BT(kind:Int)(ls:List AV):Prop where
 right:ED kind ls=true
 ok:∀ v∈ls,F5 v
 none:ls=[]
theorem BT.len{kind:Int}{ls:List AV}(h:BT kind ls):ls.length<=1024:=by rw [h.none];simp
theorem BT.kind{kind:Int}{ls:List AV}(h:BT kind ls):1<=kind/\kind<=3:=by
 have:=h.right;simp [ED] at this;omega
theorem BT.all{kind:Int}{ls:List AV}(h:BT kind ls):∀ v∈ls,okV kind v=true:=by rw [h.none];simp
def Gb(kind:Int):List UInt8:=[AjC kind.toNat]++Al 0++Al 0
structure IE(kind:Int)(ls:List AV)(b:List UInt8):Prop where
 ex:b=Gb kind++Af6 (crc (Gb kind))
theorem IE.one{kind:Int}{ls:List AV}{b c:List UInt8}(h:IE kind ls b)(h':IE kind ls c):b=c:=by rw [h.ex,h'.ex]
theorem AaG:Al 0=[0]:=by
 unfold Al;rfl
theorem Ec(k:Int):Gb k=[AjC k.toNat,0,0]:=by rw [Gb,AaG];rfl
theorem IE.seven{k:Int}{ls:List AV}{b:List UInt8}(h:IE k ls b):b.length=7:=by rw [h.ex,Ec];rfl
theorem IE.Ad7{k k':Int}{ls fq:List AV}{b:List UInt8}(h:IE k ls b)(h':IE k' fq b)(g:BT k ls)(g':BT k' fq):k=k':=by
 have e:=h.ex.symm.trans h'.ex;rw [Ec,Ec] at e;have e0:AjC k.toNat=AjC k'.toNat:=by simpa using congrArg (λ l:List UInt8=>l.head?) e
 have h1:=g.kind;have h2:=g'.kind;have:=congrArg UInt8.toNat e0;simp at this;omega
def ChV(kind:Int)(ls:List AV)(w w':World)(r:Value):Prop :=
 (ED kind ls=false/\r=.tuple #[.slice none 0 0,.int .i64 2]/\Below w.heap.size w w')\/(ED kind ls=true/\∃ b a c,IE kind ls b/\r=.tuple #[.slice a b.length c,.int .i64 0]/\EU w w' b a c)
section
variable {w:World}{a:Option Addr}{c:Nat}{ls:List AV}
theorem Ir(kind:Int)(h0:ls=[]):Calls Tryz.prog f.UN #[.int .i64 kind,.slice a ls.length c] w (AD λ v w'=>ChV kind ls w w' v):=by
 subst h0;apply R.KS
 delta R.A R.Ab R.B R.Dd R.Cb R.Cs R.Cv R.F R.G R.H R.I R.J R.Ks R.Li R.Lt R.N R.O R.AhP R.S R.Ae R.T R.U R.W R.Wb R.Wu R.X R.Zb R.Zs;try dsimp only [R.Ps]
 refine (QO (a:=a) (c:=c) (ls:=[]) kind (Rd.nil _ _) (by simp)).mono ?_;rintro _ w1 ⟨_,rfl,rfl,B1⟩;refine⟨_,rfl,Ap (Ao (λ hr=>?_) (λ hr=>.inl ⟨hr,rfl,B1⟩))⟩;have hk:1<=kind/\kind<=3:=BT.kind ⟨hr,by simp,rfl⟩;refine⟨λ s w2=>s=[.slice none 0 0,.int .i64 0,.int .i64 0]/\w2=w1,λ _ _=>0,⟨rfl,rfl⟩,?_⟩;rintro ba bl bc n i w2 ⟨aA,rfl⟩;cases aA;refine Aa (λ h=>by simp at h) (λ _=>?_);rw [DS (by omega) (by omega)];refine (SH.start (λ _=>False) w2).Ak λ eY bm me dC aW=>?_;have ky:=Ac B1 dC;have mR:Rd bm (some ⟨eY,0,none⟩) ([AjC kind.toNat].map Af):=by
  have:=Rd.Av (aW.get 0 rfl);have e:Value.int .u8 kind=Af (AjC kind.toNat):=by
   have:=He (x:=kind.toNat) (by omega);rw [<- this];congr 1;omega
  simpa [e] using this
 have w0:IntKind.u64.wrap 0=((0:Nat):Int):=by decide
 refine (BC (c:=1) [AjC kind.toNat] mR 0 (by omega) (by simp)).mono ?_;rintro _ cI ⟨_,rfl,a12,ob,rfl,jC⟩;refine⟨_,_,_,rfl,(BC _ jC.rd 0 (by omega) (by rw [AaG];simp)).mono ?_⟩;rintro _ bR ⟨_,rfl,j8,j9,rfl,mB⟩;have jb:=Ac ky jC.Ah;have gC:=mB.before jb;have k4:[AjC kind.toNat]++Al 0++Al 0=Gb kind:=rfl;rw [k4] at gC ⊢;have gq:(Gb kind).length=3:=by rw [Ec];rfl
 refine⟨_,_,_,rfl,λ s cO=>s=[.slice j8 (Gb kind).length j9]/\cO=bR,?_,?_⟩
 ·refine⟨λ s bG=>s=[.bool false]/\bG=bR,Aa (λ h=>by simp at h) (λ _=>⟨rfl,rfl⟩),?_⟩;rintro _ bG ⟨aA,rfl⟩;cases aA;exact AN ⟨rfl,rfl⟩
 rintro ab _ cb cO ⟨aA,rfl⟩;cases aA;refine⟨λ s cT=>s=[.slice j8 (Gb kind).length j9]/\cT=cO,Aa (λ h=>by simp at h) (λ _=>⟨rfl,rfl⟩),?_⟩;rintro ab _ cb fS ⟨aA,rfl⟩;cases aA;refine (SH.start (λ _=>False) fS).Ak λ qe jX rW lg ey=>?_;have hS:=Yy (w:=jX) (a:=some ⟨qe,0,none⟩) (c:=1) [(j8,j9,Gb kind)] (by
  have:=Rd.Av (ey.get 0 rfl);simpa [C1] using this) (by
  intro p hp;rw [Akq.1 hp];exact gC.rd.grown lg) (by simp) (by
  intro p hp;rw [Akq.1 hp];simp only;omega)
 refine hS.mono ?_;rintro _ iy ⟨_,rfl,rfl,rfl⟩;have ef:([(j8,j9,Gb kind)]:List Ip).flatMap (·.2.2)=Gb kind:=by simp
 rw [ef];refine⟨_,rfl,(SH.start (λ _=>False) iy).Ak λ oX jY rX oK cf=>?_⟩;have hR:=VT (crc (Gb kind)) jY oX _ (cf.get 0 rfl);have rF:=(gC.grown lg).grown oK;exact HH (m:=Af6 (crc (Gb kind))) rF.row hR (by simp [Af6];omega) λ a24 qp iC qK qB qC=>⟨_,_,_,rfl,.inr ⟨hr,_,a24,qp,⟨rfl⟩,rfl,gC.Adn (Ac lg oK) qK qB qC⟩⟩
theorem Kl(h0:ls=[]):Calls Tryz.prog f.YW #[.slice a ls.length c] w (AD λ v w'=>AhU ls v/\Below w.heap.size w w'):=by
 subst h0;apply R.NR
 delta R.A R.Ab R.Cb R.Cf R.Ci R.E R.F R.H R.I R.Li R.Lt R.N R.Qi R.S R.Ae R.T R.W R.X R.Z;try dsimp only [R.Ps]
 refine (ST.start w).Ak λ b2 w1 _ _ S1=>Aa (λ h=>by simp at h) (λ _=>S1.Ak λ dD w9 _ _ S9=>S9.Af3 0 rfl λ cd cP=>?_);refine⟨λ s cO=>s=[.int .i64 0]/\cO=cd,λ _ _=>0,⟨rfl,rfl⟩,?_⟩;rintro i cO ⟨aA,rfl⟩;cases aA;refine Aa (λ h=>by simp at h) (λ _=>cP.Ak λ tU iz _ _ lh=>lh.BA 0 rfl (aE:=#[.int .i64 0]) (by simp) rfl λ jZ qM=>?_);have full:Calls Tryz.prog f.YX #[.slice a 0 c] jZ (AD λ v w'=>∃ b,v=.func (.func f.Km) #[] #[.pointer (some ⟨b,0,none⟩)]/\ST jZ w' [It.cells b #[.slice a 0 c] ty.ET]):=by
  apply R.NS
  delta R.J R.N R.P R.S;try dsimp only [R.Ps]
  exact (ST.start jZ).Ak λ b1 w1 _ _ S1=>⟨b1,rfl,S1⟩
 refine full.mono ?_;rintro _ ld ⟨_,rfl,bI,rfl,qH⟩;have qN:=qM.join qH;refine⟨_,_,_,rfl,by kernel_rfl,λ rr aA bU hy=>?_⟩;have oQ:=qN.range rr;have oA:∀ {w} {L:Nat},w.cell? ⟨bI,0,none⟩=some (.slice a 0 c)->Calls Tryz.prog f.Km #[.func (.yield L) #[] #[],.pointer (some ⟨bI,0,none⟩)] w (AD λ r w'=>r=.tuple #[]/\w'=w):=by
  intro w L hc;apply R.J6
  delta R.A R.Ab R.E R.F R.H R.I R.Li R.Ls R.Lt R.N R.Qi R.Ae R.T R.W R.X;try dsimp only [R.Ps]
  refine⟨_,_,_,hc,λ s w1=>s=[.int .i64 0]/\w1=w,λ _ _=>0,⟨rfl,rfl⟩,?_⟩;rintro i w1 ⟨aA,rfl⟩;cases aA;exact Aa (λ h=>by simp at h) (λ _=>⟨rfl,rfl⟩)
 refine (oA (oQ.cell 2 rfl rfl)).mono ?_;rintro _ tJ ⟨_,rfl,rfl,rfl⟩;refine⟨⟨_,rfl⟩,oQ.Kr 0 aA bU rfl λ tK oR=>⟨rfl,_,oR.cell 3 rfl rfl,oR.BA 4 rfl (aE:=#[.int .i64 0,.int .i64 0,.int .i64 0,.string ⟨#[]⟩,.int .i64 0,.int .i64 0,.string ⟨#[]⟩]) (by simp) rfl λ oH eX=>?_⟩⟩;refine⟨_,eX.cell 4 rfl rfl,_,eX.cell 4 rfl rfl,_,eX.cell 4 rfl rfl,_,eX.cell 4 rfl rfl,_,eX.cell 4 rfl rfl,_,eX.cell 4 rfl rfl,_,eX.cell 4 rfl rfl,eX.Af3 5 rfl λ pw lB=>⟨lB.get 1 rfl,?_⟩⟩;have fA:=lB.put 1 rfl (.deferred none);exact⟨_,fA.cell 5 rfl rfl,_,fA.cell 5 rfl rfl,_,fA.cell 5 rfl rfl,_,fA.cell 5 rfl rfl,_,fA.cell 5 rfl rfl,_,fA.cell 5 rfl rfl,_,fA.cell 5 rfl rfl,.inl ⟨⟨by simp,by simp⟩,rfl⟩,fA.Ah⟩
end
/-! ### the way back -/
def Aiz(l:List UInt8)(w w':World)(v:Value):Prop :=
 ∃(K:Int) (ls:List AV) (a:Option Addr) (c:Nat) (e:Int),v=.tuple #[.int .i64 K,.slice a ls.length c,.int .i64 e]/\RdN w w' a (Ba ls)/\Below w.heap.size w w'/\ls.length<=4096 /\
  ((BT K ls/\IE K ls l/\e=0/\∀ K' fq,BT K' fq->IE K' fq l->K'=K/\fq=ls)\/((∀ K' fq,BT K' fq->¬ IE K' fq l)/\K=0/\ls=[]/\e=80))
theorem tU0:LR Tryz.prog ty.Ac3=some (ty.uint64,1,8,.int .u64 0):=by kernel_rfl
section
variable {w:World}{a:Option Addr}{c:Nat}{l:List UInt8}
theorem QN(K:Int)(hK:1<=K/\K<=3)(he:l=Gb K)(hl:Rd w a (l.map Af))(hc:l.length<=c) :
  Calls Tryz.prog f.YY #[.slice a l.length c] w (AD λ v w'=>∃ a1,v=.tuple #[.int .i64 K,.slice a1 0 0,.bool true]/\RdN w w' a1 []/\Below w.heap.size w w'):=by
 have h3:l.length=3:=by rw [he,Ec];rfl
 have hk:((l.getD 0 0).toNat:Int)=K:=by rw [he,Ec];simp;omega
 have t1:takeN l 1=some (0,2):=by rw [he,Ec];rfl
 have t2:takeN l 2=some (0,3):=by rw [he,Ec];rfl
 apply R.NT
 delta R.Ad R.Pj R.AcW R.Dd R.F3 R.D R.F R.G R.H R.I R.Ly R.O R.Qi R.Rs R.S R.Ae R.U R.W R.Wu R.X R.Y R.AhT;try dsimp only [R.Ps]
 refine Aa (λ h=>by omega) (λ _=>?_);refine (AK hl hc (by omega) 1).mono ?_;rintro _ w ⟨_,rfl,rfl,rfl⟩;rw [t1];refine⟨_,_,_,rfl,(AK hl hc (by omega) 2).mono ?_⟩;rintro _ w ⟨_,rfl,rfl,rfl⟩;rw [t2];refine⟨_,_,_,rfl,As (λ h=>absurd rfl h) (λ _=>As (λ h=>absurd rfl h) (λ _=>Aa (λ h=>by simp at h) (λ _=>Aa (λ h=>by simp at h) (λ _=>?_))))⟩;refine MM tU0 (l:=0) (c:=0) (by omega) (by omega) (by omega) (by omega) λ bo w3 lM B3 u6=>?_;refine⟨_,_,_,rfl,λ s w8=>s=[.int .i64 3,.int .i64 0,.slice (some ⟨bo,0,none⟩) 0 0]/\w8=w3,Aj (λ _=>⟨rfl,rfl⟩) (λ h=>absurd rfl h),?_⟩;rintro _ e ab _ cb w8 ⟨aA,rfl⟩;cases aA;refine (SH.start (λ _=>False) w8).Adw λ w9 B9 _=>⟨⟨by omega,by omega⟩,?_⟩;have C9:=Ac B3 B9;obtain⟨p,rfl,hcell⟩:=AaV (hl.grown C9) (by omega);refine⟨⟨by omega,by omega,by omega⟩,_,hcell,?_⟩;rw [hk,wrap_i64 (n:=K) (by omega) (by omega)];have hD:Calls Tryz.prog f.SD #[.int .i64 K,.slice (BD (some p) 3 c 1) (l.length-3) (c-3),.int .i64 0] w9 (AD λ v w'=>v=.tuple #[.slice none 0 0,.bool true]/\w'=w9):=by
  apply R.J5
  delta R.Ad R.Dd R.F R.G R.H R.I R.J R.Ks R.Li R.Lt R.N R.O R.IY R.S R.T R.W R.X;try dsimp only [R.Ps]
  refine Aj (λ _=>?_) (λ h=>absurd rfl h);rw [h3];exact⟨rfl,rfl⟩
 refine hD.mono ?_;rintro _ dJ ⟨_,rfl,rfl,rfl⟩;refine⟨_,_,_,_,rfl,As (λ h=>absurd rfl h) (λ _=>Ap (Ao (λ _=>?_) (λ h=>by cases h)))⟩;have hS:Calls Tryz.prog f.UO #[.slice (some ⟨bo,0,none⟩) 0 0,.slice none 0 0] dJ (AD λ v w'=>∃ b,v=.tuple #[.slice (some ⟨b,0,none⟩) 0 0,.bool true]/\dJ.heap.size<=b/\Below dJ.heap.size dJ w'/\Rd w' (some ⟨b,0,none⟩) []):=by
  apply R.KT
  delta R.Ad R.F R.G R.H R.I R.Li R.Lt R.Lu R.O R.Qii R.Rs R.S R.Ae R.T R.W R.X;try dsimp only [R.Ps]
  refine MM AeB (l:=0) (c:=0) (by omega) (by omega) (by omega) (by omega) λ b w1 hb B1 mS=>?_;refine⟨_,_,_,rfl,λ s w2=>s=[.int .i64 0,.int .i64 0]/\w2=w1,λ _ _=>0,⟨rfl,rfl⟩,?_⟩;rintro _ _ w2 ⟨aA,rfl⟩;cases aA;exact Aa (λ h=>by simp at h) (λ _=>⟨b,rfl,hb,B1,Rd.nil _ _⟩)
 refine hS.mono ?_;rintro _ bm ⟨_,rfl,b,rfl,hb,dC,qJ⟩;have ky:=Ac C9 dC;obtain⟨p',gN,hcell'⟩:=AaV (hl.grown ky) (by omega);cases gN;refine⟨_,_,_,_,rfl,⟨by omega,by omega⟩,_,hcell',?_⟩;rw [hk,wrap_i64 (n:=K) (by omega) (by omega)];exact⟨some ⟨b,0,none⟩,rfl,⟨qJ,λ k hk=>by cases hk;exact Nat.le_trans C9.size hb⟩,ky⟩
theorem Po{K:Int}(hg:BT K [])(hC:IE K [] l)(hl:Rd w a (l.map Af))(hc:l.length<=c) :
  Calls Tryz.prog f.UM #[.slice a l.length c] w (AD λ v w'=>Aiz l w w' v):=by
 have hs:=hC.seven;apply R.KR
 delta R.Aaq R.Dd R.Cb R.F R.H R.I R.O R.S R.W R.Y;try dsimp only [R.Ps]
 refine Aa (λ h=>by omega) (λ aL=>?_);rw [wrap_i64 (n:=(l.length:Int)-4) (by omega) (by omega),show ((l.length:Int)-4).toNat=l.length-4 by omega];refine⟨⟨by omega,by omega,by omega⟩,?_⟩;have dU:=hl.YC 0 (l.length-4) c 1 (by omega);rw [AjE,Akv,AjE,List.drop_zero,<- List.map_take] at dU;have aB:(l.take (l.length-4)).length=l.length-4:=by rw [Ajt];omega
 have he:l.take (l.length-4)=Gb K:=by
  rw [hC.ex,Ec];rfl
 have hR:=QN (c:=c) K hg.kind he dU (by omega);rw [aB] at hR;rw [Akv,Akv];refine hR.mono ?_;rintro _ w1 ⟨_,rfl,a1,rfl,R1,B1⟩;refine⟨_,_,_,_,_,rfl,(Ir (a:=a1) (c:=0) (ls:=[]) K rfl).mono ?_⟩;rintro _ w2 ⟨_,rfl,h2⟩;rcases h2 with ⟨hr,_⟩ | ⟨_,b2,a2,c2,hI,rfl,N2⟩
 ·rw [hg.right] at hr;cases hr
 have C2:=Ac B1 N2.Ah;refine⟨_,_,_,_,rfl,Ap (Ao (λ _=>?_) (λ aZ=>by cases aZ))⟩;refine As (λ h=>absurd rfl h) (λ _=>(QK N2.rd (hl.grown C2)).mono ?_);rintro _ w3 ⟨_,rfl,rfl,rfl⟩;refine⟨_,rfl,Ap (Aa (λ he=>?_) (λ he=>absurd (hI.one hC) he))⟩;exact⟨K,[],a1,0,0,rfl,R1.grown N2.Ah,C2,by simp,.inl ⟨hg,hC,rfl,λ K' fq g' h'=>⟨h'.Ad7 hC g' hg,g'.none⟩⟩⟩
end
def AP(a:Option Addr)(c:Nat)(cs:List AA):It:=It.row ty.Bt 3 a cs.length c (AO cs)
theorem Yl:LR Tryz.prog ty.Bo=some (ty.Bt,3,32,.agg #[.string ⟨#[]⟩,.int .i64 0,.bool false]):=by kernel_rfl
section
variable {w0 w:World}{H:List It}{a:Option Addr}{c:Nat}{cs:List AA}
theorem Aio(S:ST w0 w H)(n:Nat)(hn:H[n]?=some (AP a c cs)):Rd w a (AO cs):=S.rd n hn
theorem Ahs(S:ST w0 w H)(n:Nat)(hn:H[n]?=some (AP a c cs)){x:AA}{b:Nat}(hs:Rd w (some ⟨b,0,none⟩) (Hi x))(hl:cs.length+1<=1000000){f:Value->World->Prop}
  (hf:∀ a' c' w',ST w0 w' (H.set n (AP a' c' (cs++[x])))->f (.slice a' (cs++[x]).length c') w') :
  Dc Tryz.prog (Builtin.append_ #[ty.Bo,ty.Bo] ty.Bo #[.slice a cs.length c,.slice (some ⟨b,0,none⟩) 1 1]) f w:=by
 refine S.app n hn Yl rfl (by omega) (by omega) hs (mm:=1) rfl (by simp [Hi];exact⟨rfl,rfl,rfl⟩) (by omega) λ a' c' w' S'=>?_;have e1:(cs++[x]).length=cs.length+1:=by simp
 have e2:AO cs++Hi x=AO (cs++[x]):=by simp [AO]
 rw [e2] at S';have:=hf a' c' w' (by unfold AP;rw [e1];exact S');rwa [e1] at this
end
def Cd(l:List UInt8)(at_:Nat):Nat->Option (List AA × Nat)
 | 0=>some ([],at_)
 | n+1=>match E9 l (at_:Int) 24 with
  | none=>none
  | some x=>if l.length-x.2<2\/1<(l.getD (x.2+1) 0).toNat then none else
   (Cd l (x.2+2) n).map λ r=>((Dz x.1,((l.getD x.2 0).toNat:Int),(l.getD (x.2+1) 0).toNat==1) :: r.1,r.2)
def Em(l:List UInt8)(at_:Int):Option (List AA × Nat) :=
 match takeN l at_ with
 | none=>none
 | some x=>if 16<x.1 then none else match Cd l x.2 x.1 with
  | none=>none
  | some r=>if Ai r.1 then some r else none
theorem AcF{l:List UInt8}{at_:Int}{most:Nat}{s:List UInt8}{k:Nat}(h:E9 l at_ most=some (s,k)):s.length<=l.length:=by
 unfold E9 at h;split at h
 ·split at h
  ·cases h
  ·simp only [Aj0,AjK] at h;obtain⟨rfl,_⟩:=h;rw [Ajt,List.length_drop];omega
 ·cases h
def Wq(o:Option (List AA × Nat))(w w':World)(v:Value):Prop :=
 match o with
 | none=>v=.tuple #[.slice none 0 0,.int .i64 0,.int .i64 52]/\Below w.heap.size w w'
 | some r=>∃ a c,v=.tuple #[.slice a r.1.length c,.int .i64 (r.2:Int),.int .i64 0]/\ST w w' [AP a c r.1]
theorem Wq.bad{o:Option (List AA × Nat)}{w w':World}(h:o=none)(B:Below w.heap.size w w'):Wq o w w' (.tuple #[.slice none 0 0,.int .i64 0,.int .i64 52]):=by
 subst h;exact⟨rfl,B⟩
section
variable {w:World}{a:Option Addr}{c:Nat}{l:List UInt8}
theorem TB(hl:Rd w a (l.map Af)){k:Nat}(h:2<=l.length-k):∃ p,a=some p/\w.cell? (p.add (k*1))=some (.int .u8 ((l.getD k 0).toNat:Int))/\w.cell? (p.add ((k+1)*1))=some (.int .u8 ((l.getD (k+1) 0).toNat:Int)):=by
 have h1:k<l.length:=by omega
 have h2:k+1<l.length:=by omega
 obtain⟨p,rfl,c1⟩:=byte_at hl h1;obtain⟨p',hp,c2⟩:=byte_at hl h2;cases hp;exact⟨p,rfl,by rw [c1];simp [Akt,h1],by rw [c2];simp [Akt,h2]⟩
theorem RZ(hl:Rd w a (l.map Af))(hc:l.length<=c)(hs:l.length<=140737488355328)(at_:Int) :
  Calls Tryz.prog f.Ya #[.slice a l.length c,.int .i64 at_] w (AD λ v w'=>Wq (Em l at_) w w' v):=by
 apply R.Nh
 delta R.Ad R.Aar R.F3 R.Cb R.D R.F R.G R.H R.I R.J R.Ks R.Ly R.N R.O R.AhO R.S R.T R.U R.W R.Wu R.X;try dsimp only [R.Ps]
 refine (AK hl hc (by omega) at_).mono ?_;rintro _ w1 ⟨_,rfl,rfl,rfl⟩;cases hx:takeN l at_ with
 | none=>exact⟨_,_,_,rfl,As (λ _=>.bad (by simp [Em,hx]) (.refl _ _)) (λ h=>by cases h)⟩
 | some x =>
  obtain⟨n,at0⟩:=x;obtain⟨hn,_,_,gg,_⟩:=Cr hx;refine⟨_,_,_,rfl,As (λ h=>absurd rfl h) (λ _=>Aa (λ h=>.bad ?_ (.refl _ _)) (λ lI=>?_))⟩
  ·have:16<n:=by simp only at h;omega
   simp [Em,hx,this]
  have rC:n<=16:=by simp only at lI;omega
  have hT:Em l at_=match Cd l at0 n with
   | none=>none
   | some r=>if Ai r.1 then some r else none:=by
   have:¬ 16<n:=by omega
   simp [Em,hx,this]
  rw [hT];refine⟨λ s w2=>∃(i cD:Nat) (cs:List AA) (ca:Option Addr) (cc:Nat),s=[.int .i64 (cD:Int),.slice ca cs.length cc,.int .u64 (i:Int)]/\i<=n/\cs.length=i/\cD<=l.length/\(∀ c∈cs,c.1.size<=9223372036854775807) /\
    Cd l at0 n=((Cd l cD (n-i)).map λ r=>(cs++r.1,r.2))/\ST w1 w2 [AP ca cc cs],λ s _=>match s with
   | [_,_,.int _ i]=>n-i.toNat
   | _=>0,⟨0,at0,[],none,0,rfl,by omega,rfl,by omega,by simp,by simp,(ST.start w1).nil _ _⟩,?_⟩
  rintro _ ca _ cc _ w2 ⟨i,cD,cs,_,_,aA,hi,gE,gd,hq,ay,S⟩;cases aA;refine Aa (λ aB=>?_) (λ aL=>?_)
  ·obtain⟨m,hm⟩:∃ m,n-i=m+1:=⟨n-i-1,by simp only at aB;omega⟩;rw [hm] at ay;have bC:=hl.grown S.Ah;refine (GR bC hc (by omega) (cD:Int) 24).mono ?_;rintro _ w3 ⟨_,rfl,rfl,rfl⟩;cases ht:E9 l (cD:Int) 24 with
   | none =>
    refine⟨_,_,_,rfl,As (λ _=>.bad ?_ S.Ah) (λ h=>by cases h)⟩;rw [ay];simp [Cd,ht]
   | some x =>
    obtain⟨nm,k⟩:=x;have hk:=Ym ht;have jL:=AcF ht;refine⟨_,_,_,rfl,As (λ h=>absurd rfl h) (λ _=>?_)⟩;simp only;rw [wrap_i64 (n:=(l.length:Int)-(k:Int)) (by omega) (by omega),Ag (k:=k) (by omega)];refine Aa (λ h2=>.bad ?_ S.Ah) (λ h2=>?_)
    ·rw [ay];have:l.length-k<2:=by omega
     simp [Cd,ht,this]
    obtain⟨p,rfl,d0,d1⟩:=TB bC (k:=k) (by omega);refine⟨⟨by omega,by omega⟩,_,by rw [AjB];exact d1,Aa (λ h3=>.bad ?_ S.Ah) (λ h3=>S.draw λ w4 B4 S=>?_)⟩
    ·rw [ay];have:l.length-k<2\/1<(l.getD (k+1) 0).toNat:=.inr (by omega);simp only [Cd,ht,if_pos this,Option.map_none]
    have sA:=bC.grown B4;obtain⟨p',gN,d0,d1⟩:=TB sA (k:=k) (by omega);cases gN;have cR:=(l.getD k 0).toNat_lt;refine⟨⟨by omega,by omega⟩,⟨by omega,by omega⟩,_,by rw [AjB];exact d0,_,by rw [AjB];exact d1,?_⟩;rw [wrap_i64 (n:=((l.getD k 0).toNat:Int)) (by omega) (by omega),wrap_i64 (n:=(k:Int)+2) (by omega) (by omega),A8 (n:=(i:Int)+1) (by omega) (by simp only at aB;omega)];obtain⟨x,hx⟩:∃ x:AA,x=(Dz nm,((l.getD k 0).toNat:Int),(l.getD (k+1) 0).toNat==1):=⟨_,rfl⟩;refine S.Ak λ eY w5 _ _ S=>?_;have cN:Rd w5 (some ⟨eY,0,none⟩) (Hi x):=by
     have h:=S.rdc 0 rfl;have e:(((l.getD (k+1) 0).toNat:Int)==1)=((l.getD (k+1) 0).toNat==1):=by rw [Bool.eq_iff_iff];simp;omega
     rw [e] at h;rw [hx];exact h
    refine Ahs S 1 rfl cN (by simp only at aB;omega) λ a6 c6 w6 S=>⟨_,_,_,rfl,?_⟩;refine⟨⟨i+1,k+2,cs++[x],a6,c6,?_,by simp only at aB;omega,by simp [gE],by omega,?_,?_,S.drop 1⟩,?_⟩
    ·simp only [Ajm,AjM,Aks,List.cons.injEq,Value.int.injEq,true_and,and_true];constructor <;> omega
    ·intro c hc;rcases List.mem_append.1 hc with h | h
     ·exact hq c h
     ·rw [Akq.1 h,hx];show (Dz nm).size<=_;rw [BL];omega
    ·rw [ay,show n-(i+1)=m by omega];have fE:¬ (l.length-k<2\/1<(l.getD (k+1) 0).toNat):=by omega
     simp only [Cd,ht,fE,if_false,Option.map_map];congr 1;funext r;simp [hx]
    ·show n-((i:Int)+1).toNat<n-(i:Int).toNat;simp only at aB;omega
  ·have:n-i=0:=by simp only at aL;omega
   rw [this] at ay;simp only [Cd,Option.map_some,List.append_nil] at ay;rw [ay];refine (CC (Aio S 0 rfl) (by omega) hq).mono ?_;rintro _ w7 ⟨_,rfl,rfl,B7⟩;refine⟨_,rfl,Ap (Ao (λ hR=>?_) (λ hR=>.bad (by simp [hR]) (S.grown B7).Ah))⟩;simp only [hR,if_true];exact⟨ca,cc,rfl,S.grown B7⟩
end
abbrev BN:=Option Addr × Nat × List AV
def C4(p:BN):Value:=.slice p.1 p.2.2.length p.2.1
abbrev rws(ps:List BN):List (List AV):=ps.map (·.2.2)
structure BO(w:World)(a:Option Addr)(ps:List BN):Prop where
 top:Rd w a (ps.map C4)
 each:∀ p∈ps,Rd w p.1 (Ba p.2.2)
theorem BO.grown{w w':World}{a:Option Addr}{ps:List BN}(h:BO w a ps)(B:Below w.heap.size w w'):BO w' a ps:=⟨h.top.grown B,λ p hp=>(h.each p hp).grown B⟩
theorem BO.at{w:World}{a:Option Addr}{ps:List BN}(h:BO w a ps){i:Nat}(hi:i<ps.length):∃ q,a=some q/\w.cell? (q.add (i*1))=some (.slice ps[i].1 ps[i].2.2.length ps[i].2.1)/\Rd w ps[i].1 (Ba ps[i].2.2):=by
 obtain⟨q,hq,hc⟩:=h.top i (C4 ps[i]) (by simp [hi]);exact⟨q,hq,by rw [AjE];exact hc,h.each _ (Akj hi)⟩
def AX(rows:List (List AV))(c:Nat):List AV:=rows.map λ r=>r.getD c Z0
theorem Hj(rows:List (List AV))(c:Nat):(AX rows c).length=rows.length:=by simp [AX]
theorem QP(ps:List BN){c i:Nat}(hi:i<ps.length)(hc:c<ps[i].2.2.length):AX (rws (ps.take (i+1))) c=AX (rws (ps.take i)) c++[ps[i].2.2[c]]:=by
 unfold AX rws;rw [List.take_succ_eq_append_getElem hi,List.map_append,List.map_append];simp only [List.map_cons,List.map_nil,Akt,List.getElem?_eq_getElem hc,Option.getD_some]
def JR(a:Option Addr)(c:Nat)(vs:List AV):It:=It.row ty.AY 3 a vs.length c (Ba vs)
section
variable {w0 w:World}{H:List It}{a:Option Addr}{c:Nat}{vs:List AV}
theorem Aip(S:ST w0 w H)(n:Nat)(hn:H[n]?=some (JR a c vs)):Rd w a (Ba vs):=S.rd n hn
theorem Aab(S:ST w0 w H)(n:Nat){t:TypeId}(ht:LR Tryz.prog t=some (ty.AY,3,32,.agg #[.int .i64 0,.int .i64 0,.string ⟨#[]⟩]))(hn:H[n]?=some (JR a c vs)){x:AV}{b:Nat}(hs:Rd w (some ⟨b,0,none⟩) (GC x))(hl:vs.length+1<=1000000){f:Value->World->Prop}
  (hf:∀ a' c' w',ST w0 w' (H.set n (JR a' c' (vs++[x])))->f (.slice a' (vs++[x]).length c') w') :
  Dc Tryz.prog (Builtin.append_ #[t,t] t #[.slice a vs.length c,.slice (some ⟨b,0,none⟩) 1 1]) f w:=by
 refine S.app n hn ht rfl (by omega) (by omega) hs (mm:=1) rfl (by simp [GC];exact⟨rfl,rfl,rfl⟩) (by omega) λ a' c' w' S'=>?_;have e1:(vs++[x]).length=vs.length+1:=by simp
 have e2:Ba vs++GC x=Ba (vs++[x]):=by simp [Ba]
 rw [e2] at S';have:=hf a' c' w' (by unfold JR;rw [e1];exact S');rwa [e1] at this
end
section
variable {w:World}{a:Option Addr}{c:Nat}{ps:List BN}
theorem AcT(hr:BO w a ps)(hn:ps.length<=900000){k:Nat}(hk:∀ p∈ps,k<p.2.2.length) :
  Calls Tryz.prog f.VO #[.slice a ps.length c,.int .i64 (k:Int)] w (AD λ v w'=>∃ a' c',v=.slice a' (AX (rws ps) k).length c'/\ST w w' [JR a' c' (AX (rws ps) k)]):=by
 apply R.LC
 delta R.Ad R.F R.I R.J R.Ks R.Li R.Ls R.Lt R.N R.O R.IY R.S R.T R.W R.X;try dsimp only [R.Ps]
 refine⟨λ s w1=>∃(i:Nat) (oa:Option Addr) (oc:Nat) (os:List AV),s=[.slice oa os.length oc,.int .i64 (i:Int)]/\i<=ps.length/\os=AX (rws (ps.take i)) k/\ST w w1 [JR oa oc os],λ s _=>match s with
   | [_,.int _ i]=>ps.length-i.toNat
   | _=>0,⟨0,none,0,[],rfl,by omega,rfl,(ST.start w).nil _ _⟩,?_⟩
 rintro oa _ oc _ w1 ⟨i,_,_,os,aA,hi,ho,S⟩;cases aA;have gL:os.length=i:=by rw [ho,Hj];simp;omega
 refine Aa (λ aB=>⟨⟨by omega,aB⟩,?_⟩) (λ aL=>?_)
 ·have aD:i<ps.length:=by omega
  have bQ:=hk _ (Akj aD);obtain⟨q,rfl,hq,hv⟩:=(hr.grown S.Ah).at aD;obtain⟨p,hp,c0,c1,c2⟩:=LM hv bQ;refine⟨_,_,_,by rw [AjB];exact hq,⟨by omega,by omega⟩,?_⟩;rw [hp];refine⟨_,by rw [AjB];exact c0,_,by rw [AjB];exact c1,_,by rw [AjB];exact c2,S.Ak λ cJ w2 _ _ S=>?_⟩;have cN:Rd w2 (some ⟨cJ,0,none⟩) (GC ps[i].2.2[k]):=S.rdc 0 rfl;refine Aab S 1 AeB rfl cN (by omega) λ a3 c3 w3 S=>⟨_,_,_,rfl,?_⟩;rw [Ag (by omega)];refine⟨⟨i+1,a3,c3,_,rfl,by omega,by rw [QP ps aD bQ,ho],S.drop 1⟩,?_⟩;show ps.length-((i+1:Nat):Int).toNat<ps.length-((i:Nat):Int).toNat;simp only [AjB];omega
 ·rw [Akp (by omega)] at ho;subst ho;exact⟨oa,oc,rfl,S⟩
theorem JL{a2:Option Addr}{c2 n:Nat}:Calls Tryz.prog f.Nk #[.slice a2 n c2,.slice a ps.length c] w (AD λ v w'=>∃ b1 b2,v=.func (.func f.E6) #[] #[.pointer (some ⟨b1,0,none⟩),.pointer (some ⟨b2,0,none⟩)] /\
  ST w w' [It.cells b2 #[.slice a ps.length c] ty.NP,It.cells b1 #[.slice a2 n c2] ty.Bo]):=by
 apply R.Hz
 delta R.J R.N R.P R.S;try dsimp only [R.Ps]
 exact (ST.start w).Ak λ b1 w1 _ _ S1=>S1.Ak λ b2 w2 _ _ S2=>⟨b1,b2,rfl,S2⟩
theorem Pn{L b1 b2 n c2:Nat}{a2:Option Addr}(hn:n<=9223372036854775807)(hm:ps.length<=900000)(hk:∀ p∈ps,p.2.2.length=n)(J:Nat->World->Prop)(aP:∀ k w,J k w->BO w a ps/\w.cell? ⟨b2,0,none⟩=some (.slice a ps.length c))
  (dP:∀ k w w',J k w->Below w.heap.size w w'->J k w') (cA:∀ k w la lc,k<n->J k w->Rd w la (Ba (AX (rws ps) k))->J4 Tryz.prog L #[.int .i64 (k:Int),.slice la ps.length lc] (λ y w'=>y=true/\J (k+1) w') w)
  (h0:J 0 w) (hb:w.cell? ⟨b1,0,none⟩=some (.slice a2 n c2)) :
  Calls Tryz.prog f.E6 #[.func (.yield L) #[] #[],.pointer (some ⟨b1,0,none⟩),.pointer (some ⟨b2,0,none⟩)] w (AD λ _ w'=>J n w'):=by
 apply R.Gv
 delta R.A R.Ad R.F R.H R.I R.J R.Ks R.Li R.Ls R.Lt R.N R.O R.Qi R.IY R.S R.T R.W R.X;try dsimp only [R.Ps]
 refine⟨_,_,_,hb,λ s w1=>∃ k:Nat,k<=n/\s=[.int .i64 (k:Int)]/\J k w1,λ s _=>match s with
   | [.int _ i]=>n-i.toNat
   | _=>0,⟨0,by omega,rfl,h0⟩,?_⟩
 rintro _ w1 ⟨k,bY,aA,hj⟩;cases aA;refine Aa (λ aB=>?_) (λ aL=>?_)
 ·have bQ:k<n:=by omega
  refine⟨_,_,_,(aP _ _ hj).2,?_⟩;refine⟨λ s w2=>∃(i:Nat) (oa:Option Addr) (oc:Nat) (os:List AV),s=[.slice oa os.length oc,.int .i64 (i:Int)]/\i<=ps.length/\os=AX (rws (ps.take i)) k/\ST w1 w2 [JR oa oc os],λ s _=>match s with
   | [_,.int _ i]=>ps.length-i.toNat
   | _=>0,⟨0,none,0,[],rfl,by omega,rfl,(ST.start w1).nil _ _⟩,?_⟩
  rintro oa _ oc _ w2 ⟨i,_,_,os,aA,hi,ho,S⟩;cases aA;have gL:os.length=i:=by rw [ho,Hj];simp;omega
  refine Aa (λ aB=>⟨⟨by omega,aB⟩,?_⟩) (λ aL=>?_)
  ·have aD:i<ps.length:=by omega
   have k8:k<ps[i].2.2.length:=by rw [hk _ (Akj aD)];exact bQ
   obtain⟨q,rfl,hq,hv⟩:=((aP _ _ hj).1.grown S.Ah).at aD;obtain⟨p,hp,c0,c1,c2⟩:=LM hv k8;refine⟨_,_,_,by rw [AjB];exact hq,⟨by omega,by omega⟩,?_⟩;rw [hp];refine⟨_,by rw [AjB];exact c0,_,by rw [AjB];exact c1,_,by rw [AjB];exact c2,S.Ak λ cJ w2 _ _ S=>?_⟩;have cN:Rd w2 (some ⟨cJ,0,none⟩) (GC ps[i].2.2[k]):=S.rdc 0 rfl;refine Aab S 1 AeB rfl cN (by omega) λ a3 c3 w3 S=>⟨_,_,_,rfl,?_⟩;rw [Ag (by omega)];refine⟨⟨i+1,a3,c3,_,rfl,by omega,by rw [QP ps aD k8,ho],S.drop 1⟩,?_⟩;show ps.length-((i+1:Nat):Int).toNat<ps.length-((i:Nat):Int).toNat;simp only [AjB];omega
  ·have gn:i=ps.length:=by omega
   rw [Akp (by omega)] at ho;subst ho;rw [gL,gn,Ag (by omega)];refine (cA k w2 oa oc bQ (dP _ _ _ hj S.Ah) (Aip S 0 rfl)).mono ?_;rintro y w3 ⟨rfl,h⟩;refine AN ⟨⟨k+1,by omega,rfl,h⟩,?_⟩;show n-((k+1:Nat):Int).toNat<n-((k:Nat):Int).toNat;simp only [AjB];omega
 ·have:k=n:=by omega
  subst this;exact hj
end
structure Cw(cs:List AA)(rows:List (List AV)):Prop where
 right:Ai cs=true
 len:rows.length<=1024
 fits:∀ r∈rows,EY cs r=true
 ok:∀ r∈rows,∀ v∈r,F5 v
 none:rows=[]
section
variable {cs:List AA}{rows:List (List AV)}
theorem AdL{r:List AV}(h:EY cs r=true):r.length=cs.length:=by
 simp only [EY,Ai8,decide_eq_true_eq] at h;exact h.1
theorem Afm{r:List AV}(h:EY cs r=true){k:Nat}(h1:k<cs.length)(h2:k<r.length):N1 cs[k] r[k]=true:=by
 simp only [EY,Ai8,Mt,AjY] at h;exact h.2 (cs[k],r[k]) (Aku.2 ⟨k,by simp;omega,by simp⟩)
theorem Cw.Z5(h:Cw cs rows){r:List AV}(hr:r∈rows):r.length=cs.length:=AdL (h.fits r hr)
theorem Cw.Jk(h:Cw cs rows){k:Nat}(hk:k<cs.length):BT cs[k].2.1 (AX rows k):=by
 have key:∀ v∈AX rows k,okV cs[k].2.1 v=true/\F5 v:=by
  intro v hv;obtain⟨r,hr,rfl⟩:=List.mem_map.1 hv;have hl:=h.Z5 hr;have jJ:k<r.length:=by omega
  have e:r.getD k Z0=r[k]:=by simp [Akt,jJ]
  rw [e];refine⟨?_,h.ok r hr _ (Akj jJ)⟩;have:=Afm (h.fits r hr) hk jJ;simp only [N1,Ai8,Bool.or_eq_true,decide_eq_true_eq] at this;simp only [okV,Ai8,Bool.or_eq_true,decide_eq_true_eq];exact⟨this.1,this.2.imp id λ h=>h.2⟩
 obtain⟨_,h1,h2,_⟩:=F1 h.right (Akj hk);refine⟨?_,λ v hv=>(key v hv).2,by rw [h.none];rfl⟩;have h3:(AX rows k).all (okV cs[k].2.1)=true:=AjY.2 λ v hv=>(key v hv).1;have h4:1<=cs[k].2.1/\cs[k].2.1<=3/\(AX rows k).length<=1024:=⟨h1,h2,by rw [Hj];exact h.len⟩;simp [ED,h3,h4]
end
theorem BT.Ahq{k:Int}{ls:List AV}(h:BT k ls):∀ v∈ls,AG v=true/\F5 v:=by
 intro v hv;have:=h.all v hv;simp only [okV,Ai8] at this;exact⟨this.1,h.ok v hv⟩
theorem BT.AcS{k:Int}{ls:List AV}(h:BT k ls):(AG (zmm ls).1=true/\F5 (zmm ls).1)/\(AG (zmm ls).2=true/\F5 (zmm ls).2) :=
 have h:AG Z0=true/\F5 Z0:=⟨by decide,⟨by decide,by decide⟩⟩
 ⟨h,h⟩
theorem BT.OE{k:Int}{ls:List AV}(h:BT k ls):OE ls:=⟨h.len,λ v hv=>(h.Ahq v hv).1⟩
theorem MJ{v:AV}(h:AG v=true)(hv:F5 v):(E3 v).length<=1040:=by
 unfold E3;split
 ·have:=AE (V4 hv.lo hv.hi);simp only [AjM];omega
 ·split
  ·simp
  ·split
   ·rename_i h3;have hs:v.2.2.size<=1024:=by
     rcases DL h with h | h | ⟨h,_⟩ | ⟨_,h⟩
     ·omega
     ·omega
     ·omega
     ·exact h
    have:=AcG hs;simp only [AjM];omega
   ·simp
theorem IE.len{k:Int}{ls:List AV}{b:List UInt8}(hg:BT k ls)(h:IE k ls b):b.length<=2000300:=by rw [h.seven];omega
def PH(n:Nat):List UInt8:=[AjC (n % 256),AjC (n / 256 % 256),AjC (n / 65536 % 256),AjC (n / 16777216 % 256)]
def CZ:List UInt8:=[83,89,68,49]
def Ji(x:List UInt8)(l:List AV):List UInt8:=Al x.length++Al (Dv l)++E3 (zmm l).1++E3 (zmm l).2
def CX(rows:List (List AV))(xs:List (List UInt8)):List UInt8:=(xs.mapIdx λ i x=>Ji x (AX rows i)).flatten
theorem Xa(rows:List (List AV))(xs:List (List UInt8))(x:List UInt8):CX rows (xs++[x])=CX rows xs++Ji x (AX rows xs.length):=by
 unfold CX;rw [List.mapIdx_concat];simp
def Ds(cs:List AA)(rows:List (List AV))(xs:List (List UInt8)):List UInt8:=En cs++Al rows.length++CX rows xs
def Ka(cs:List AA)(rows:List (List AV))(xs:List (List UInt8)):List UInt8:=CZ++xs.flatten++Ds cs rows xs++PH (Ds cs rows xs).length
def KF(p:List UInt8):List UInt8:=p++Pp p
structure CU(cs:List AA)(rows:List (List AV))(xs:List (List UInt8)):Prop where
 len:xs.length<=cs.length
 each:∀ i (h1:i<cs.length) (h2:i<xs.length),IE cs[i].2.1 (AX rows i) xs[i]
theorem CU.nil(cs:List AA)(rows:List (List AV)):CU cs rows []:=⟨by simp,λ i _ h=>by simp at h⟩
theorem CU.snoc{cs:List AA}{rows:List (List AV)}{xs:List (List UInt8)}(h:CU cs rows xs){x:List UInt8}(h1:xs.length<cs.length)(hx:IE cs[xs.length].2.1 (AX rows xs.length) x):CU cs rows (xs++[x]):=by
 refine⟨by simp;omega,λ i g1 g2=>?_⟩;rcases Nat.lt_or_ge i xs.length with h3 | h3
 ·rw [List.getElem_append_left h3];exact h.each i g1 h3
 ·have:i=xs.length:=by simp at g2;omega
  subst this;simp only [List.getElem_concat_length];exact hx
theorem CU.one{cs:List AA}{rows:List (List AV)}{xs ys:List (List UInt8)}(h:CU cs rows xs)(h':CU cs rows ys)(hl:xs.length=ys.length):xs=ys:=by
 refine List.ext_getElem hl λ i h1 h2=>?_;have:=h.len;exact (h.each i (by omega) h1).one (h'.each i (by omega) h2)
theorem QZ{xs:List (List UInt8)}{m:Nat}(h:∀ x∈xs,x.length<=m):xs.flatten.length<=xs.length*m:=by
 induction xs with
 | nil=>simp
 | cons x xs ih =>
  have h1:=h x (by simp);have h2:=ih λ y hy=>h y (by simp [hy]);simp only [List.flatten_cons,Ajm,AjM,Nat.add_mul];omega
theorem Ab0{k:Int}{x:List UInt8}{l:List AV}(hg:BT k l)(hx:x.length<=2000300):(Ji x l).length<=2100:=by
 have h1:=AE (n:=x.length) (by omega);have h2:=AE (n:=Dv l) (by have:=Ob l;have:=hg.len;omega);have h3:=MJ hg.AcS.1.1 hg.AcS.1.2;have h4:=MJ hg.AcS.2.1 hg.AcS.2.2;simp only [Ji,Ajm];omega
section
variable {cs:List AA}{rows:List (List AV)}{xs:List (List UInt8)}
theorem CU.lens(h:CU cs rows xs)(hs:Cw cs rows):∀ x∈xs,x.length<=2000300:=by
 intro x hx;obtain⟨i,hi,rfl⟩:=List.getElem_of_mem hx;have:=h.len;exact (h.each i (by omega) hi).len (hs.Jk (by omega))
theorem CU.flat(h:CU cs rows xs)(hs:Cw cs rows):xs.flatten.length<=33000000:=by
 have h1:=QZ (h.lens hs);have h2:=h.len;have h3:=CL hs.right;have:xs.length*2000300<=16*2000300:=Nat.mul_le_mul_right _ (by omega);omega
theorem CU.Agp(h:CU cs rows xs)(hs:Cw cs rows):(CX rows xs).length<=34000:=by
 have h1:(CX rows xs).length<=(xs.mapIdx λ i x=>Ji x (AX rows i)).length*2100:=by
  refine QZ λ x hx=>?_;obtain⟨i,hi,rfl⟩:=List.mem_mapIdx.1 hx;have:=h.len;exact Ab0 (hs.Jk (by omega:i<cs.length)) (h.lens hs _ (Akj hi))
 rw [List.length_mapIdx] at h1;have h2:=h.len;have h3:=CL hs.right;omega
theorem CU.Vk(h:CU cs rows xs)(hs:Cw cs rows):(Ds cs rows xs).length<=35000:=by
 have h1:=h.Agp hs;have h2:=X7 hs.right;have h3:=AE (n:=rows.length) (by have:=hs.len;omega);simp only [Ds,Ajm];omega
theorem CU.Aem(h:CU cs rows xs)(hs:Cw cs rows):(Ka cs rows xs).length<=34000000:=by
 have h1:=h.Vk hs;have h2:=h.flat hs;simp only [Ka,Ajm,CZ,PH,AjM,Aks];omega
end
structure FA(cs:List AA)(rows:List (List AV))(b:List UInt8):Prop where
 ex:∃ xs,xs.length=cs.length/\CU cs rows xs/\b=KF (Ka cs rows xs)
theorem FA.one{cs:List AA}{rows:List (List AV)}{b b':List UInt8}(h:FA cs rows b)(h':FA cs rows b'):b=b':=by
 obtain⟨xs,h1,h2,rfl⟩:=h.ex;obtain⟨ys,k1,k2,rfl⟩:=h'.ex;rw [h2.one k2 (by omega)]
def Z7(cs:List AA)(rows:List (List AV)):Int:=if Ai cs=false then 50 else if 1024<rows.length\/∃ r∈rows,EY cs r=false then 51 else 0
def AhR(cs:List AA)(rows:List (List AV))(v:Value):Prop :=
 (¬ Cw cs rows/\v=.tuple #[.string ⟨#[]⟩,.int .i64 (Z7 cs rows)]/\Z7 cs rows≠0)\/(Cw cs rows/\∃ b,v=.tuple #[.string (Dz b),.int .i64 0]/\FA cs rows b)
end Go.Proofs.YtfaagidbphhboaaGreatDoor
