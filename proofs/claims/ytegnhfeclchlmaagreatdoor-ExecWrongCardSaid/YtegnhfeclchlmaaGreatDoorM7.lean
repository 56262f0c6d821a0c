/-
  Texts of this claim, laid one behind the other by a program of mine (install.py): Z.Qu, Z.Kd2, Z.Node, Z.Formed, Z.Formed2, Z.Idx, Dn.Sh3, Z.VTake0, Z.VLay2, Z.TakeS, Z.VTake, Z.VTake2, Z.VTake3, Z.Sch7, Z.Sch8, Z.Unpack, Z.Unpack2, Z.Take, Z.DecLaw, Z.Sum2, Z.Table, Z.Dec, Z.Ch0, Z.Sch9, Z.Seg1, Z.Seg2.
-/
import Derived.Test.YtegnhfeclchlmaaGreatDoorM6
import Derived.Test.YtegnhfeclchlmaaGreatDoorM4
import Derived.Test.YtegnhfeclchlmaaGreatDoorM3
namespace Go.Proofs.YtegnhfeclchlmaaGreatDoor
open _root_.Bool renaming and_eq_true -> Ai6
open _root_.ByteArray renaming mk -> AjP, size_append -> Akl
open _root_.Int renaming toNat_natCast -> Ajz
open _root_.List.Perm renaming cons -> Ako
open _root_.List renaming append_assoc -> Aju, getElem_mem -> Akg, mem_append -> Akk, mem_singleton -> Akn, take_of_length_le -> Akm, take_succ_eq_append_getElem -> Akj
open _root_.Nat renaming add_mul -> Aji
set_option maxRecDepth 100000
open Go.Dn Go.Proofs
open Go.RowKit (Below)
set_option linter.unusedVariables false
abbrev F4:=ByteArray × Int × Ex
structure Qu where
 it:List F4
 wh:List Ex
 gr:List Ex
 od:List (Int × Bool)
 lim:Int
/-! ### cells -/
def LX(F:Nat->Prop)(w:World)(i:F4)(cs:List Value):Prop:=∃ c,cs=.string i.1 :: .int .i64 i.2.1 :: c/\DT F w i.2.2 c/\i.1.size<=maxLen/\i64 i.2.1
def Ax{α:Type}(C:α->List Value->Prop):List α->List Value->Prop
 | [],cs=>cs=[]
 | x :: xs,cs=>∃ c r,cs=c++r/\C x c/\Ax C xs r
structure SlC{α:Type}(F:Nat->Prop)(w:World)(C:α->List Value->Prop)(l:List α)(v:Value):Prop where
 ex:∃ a cap rs,v=.slice a l.length cap/\Rd w a rs/\(∀ p,a=some p->rs≠[]->¬ F p.block)/\l.length<=cap/\cap<=maxLen/\(a=none->cap=0)/\Ax C l rs
def Lh(k:Int × Bool)(cs:List Value):Prop:=cs=[.int .i64 k.1,.bool k.2]/\i64 k.1
structure QuC(F:Nat->Prop)(w:World)(q:Qu)(vs:List Value):Prop where
 ex:∃ vi vw vg vo,vs=[vi,vw,vg,vo,.int .i64 q.lim]/\SlC F w (LX F w) q.it vi/\SlC F w (DT F w) q.wh vw/\SlC F w (DT F w) q.gr vg/\SlC F w Lh q.od vo/\i64 q.lim
section
variable {α:Type}{C D:α->List Value->Prop}{F G:Nat->Prop}{w w':World}
theorem Ax.mono(h:∀ x c,C x c->D x c):∀ {l:List α} {cs:List Value},Ax C l cs->Ax D l cs
 | [],cs,hr=>hr
 | x :: l,cs,⟨c,r,e,h1,h2⟩=>⟨c,r,e,h x c h1,Ax.mono h h2⟩
theorem Ax.len{n:Nat}(hn:∀ x c,C x c->c.length=n):∀ {l:List α} {cs:List Value},Ax C l cs->cs.length=l.length*n
 | [],cs,h=>by unfold Ax at h;subst h;simp
 | x :: xs,cs,⟨c,r,e,h1,h2⟩=>by
  subst e;have:=hn x c h1;have:=Ax.len hn h2;simp only [List.length_append,List.length_cons,Aji,Nat.one_mul];omega
theorem Ax.get{n:Nat}(hn:∀ x c,C x c->c.length=n):∀ {l:List α} {cs:List Value},Ax C l cs->∀(i:Nat) (hi:i<l.length),C l[i] ((cs.drop (i*n)).take n)
 | [],cs,h,i,hi=>by simp at hi
 | x :: xs,cs,⟨c,r,e,h1,h2⟩,i,hi=>by
  subst e;have hl:=hn x c h1;cases i with
  | zero =>
   have:((c++r).drop (0*n)).take n=c:=by rw [Nat.zero_mul,List.drop_zero,List.take_append_of_le_length (by omega),Akm (by omega)]
   rw [this];exact h1
  | succ i =>
   have:((c++r).drop ((i+1)*n)).take n=(r.drop (i*n)).take n:=by
    rw [List.drop_append,List.drop_eq_nil_of_le (by rw [Aji];omega),List.nil_append,hl,Aji];congr 2;omega
   rw [this];exact Ax.get hn h2 i (by simpa using hi)
theorem Ax.of{n:Nat}:∀ {l:List α} {cs:List Value},cs.length=l.length*n->(∀(i:Nat) (hi:i<l.length),C l[i] ((cs.drop (i*n)).take n))->Ax C l cs
 | [],cs,hl,h=>by unfold Ax;simpa using hl
 | x :: xs,cs,hl,h=>by
  simp only [List.length_cons,Aji,Nat.one_mul] at hl;refine⟨cs.take n,cs.drop n,(List.take_append_drop n cs).symm,by have:=h 0 (by simp);rw [List.getElem_cons_zero,Nat.zero_mul,List.drop_zero] at this;exact this,Ax.of (n:=n) (by simp;omega) λ i hi=>?_⟩;have:=h (i+1) (by simpa using hi);simp only [List.getElem_cons_succ] at this;rw [List.drop_drop];rwa [show n+i*n=(i+1)*n by rw [Aji];omega]
theorem Ax.append:∀ {l m:List α} {cs ds:List Value},Ax C l cs->Ax C m ds->Ax C (l++m) (cs++ds)
 | [],m,cs,ds,h,h'=>by unfold Ax at h;subst h;exact h'
 | x :: xs,m,cs,ds,⟨c,r,e,h1,h2⟩,h'=>by
  subst e;rw [Aju];exact⟨c,r++ds,rfl,h1,Ax.append h2 h'⟩
theorem F2:∀ {l:List Ex} {cs:List Value},Ax (DT F w) l cs↔IW F w l cs
 | [],cs=>by unfold Ax IW;exact Iff.rfl
 | x :: l,cs=>by
  unfold IW;constructor
  ·rintro⟨c,r,e,h1,h2⟩;exact⟨c,r,e,h1,F2.1 h2⟩
  ·rintro⟨c,r,e,h1,h2⟩;exact⟨c,r,e,h1,F2.2 h2⟩
theorem LX.len{i:F4}{cs:List Value}(h:LX F w i cs):cs.length=8:=by
 obtain⟨c,rfl,h,_⟩:=h;have:=h.len;simp [this]
theorem Xl{k:Int × Bool}{cs:List Value}(h:Lh k cs):cs.length=2:=by rw [h.1];rfl
theorem LX.grown(hk:Below w.heap.size w w'){i:F4}{cs:List Value}(h:LX F w i cs):LX F w' i cs:=by
 obtain⟨c,e,h1,h2⟩:=h;exact⟨c,e,h1.grown hk,h2⟩
end
/-! ### which queries may be -/
def CA:List ByteArray :=
 [⟨#[115,101,108,101,99,116]⟩,⟨#[119,104,101,114,101]⟩,⟨#[103,114,111,117,112]⟩,⟨#[98,121]⟩,⟨#[111,114,100,101,114]⟩,⟨#[108,105,109,105,116]⟩,⟨#[97,115]⟩,⟨#[97,110,100]⟩,⟨#[111,114]⟩,⟨#[110,111,116]⟩,
 ⟨#[105,115]⟩,⟨#[110,117,108,108]⟩,⟨#[116,114,117,101]⟩,⟨#[102,97,108,115,101]⟩,⟨#[108,101,110]⟩,⟨#[100,101,115,99]⟩,⟨#[99,111,117,110,116]⟩,⟨#[115,117,109]⟩,⟨#[109,105,110]⟩,⟨#[109,97,120]⟩]
def Rc(s:ByteArray):Bool:=CA.any λ k=>decide (k=s)
def Ib(s:ByteArray):Bool:=Cp s && !Rc s
def BG(x:Ex):Bool:=x.formed && x.names.all Ib
def OK(x:Ex):Bool:=decide (x.op=0) && decide (x.nm=E0) && decide (x.v=V0) && decide (x.ks.length=0)
def BF(i:F4):Bool:=Ib i.1 && decide (0<=i.2.1/\i.2.1<=5) && (if i.2.1=1 then OK i.2.2 else BG i.2.2)
def placeOf(l:List F4)(s:ByteArray):Option Nat:=l.findIdx? λ x=>decide (x.1=s)
def Eh(l:List F4)(k:Int):Bool:=decide (0<=k/\k<l.length) && decide (placeOf l (l.getD k.toNat (E0,0,.mk 0 E0 V0 [])).1=some k.toNat)
def Fq(q:Qu):Bool :=
 decide (1<=q.it.length/\q.it.length<=16/\q.wh.length<=1/\q.gr.length<=4/\q.od.length<=4 /\ -1<=q.lim/\q.lim<=4096) && q.it.all BF && q.wh.all BG && q.gr.all BG && q.od.all λ k=>Eh q.it k.1
def L8(a:Int):ByteArray:=if a=2 then ⟨#[99,111,117,110,116]⟩ else if a=3 then ⟨#[115,117,109]⟩ else if a=4 then ⟨#[109,105,110]⟩ else ⟨#[109,97,120]⟩
def Kw(i:F4):ByteArray :=
 (if i.2.1=0 then i.2.2.text else if i.2.1=1 then ⟨#[99,111,117,110,116,40,42,41]⟩ else L8 i.2.1++⟨#[40]⟩++i.2.2.text++⟨#[41]⟩)++⟨#[32,97,115,32]⟩++i.1
def I9:List ByteArray->ByteArray
 | []=>E0
 | [x]=>x
 | x :: y :: l=>x++⟨#[44,32]⟩++I9 (y :: l)
def Gg(head:ByteArray)(l:List ByteArray):ByteArray:=if l.length=0 then E0 else head++I9 l
def Xn(l:List F4)(k:Int × Bool):ByteArray:=(l.getD k.1.toNat (E0,0,.mk 0 E0 V0 [])).1++if k.2 then ⟨#[32,100,101,115,99]⟩ else E0
def Ag9(n:Int):ByteArray:=if 0<=n then ⟨#[32,108,105,109,105,116,32]⟩++Dz (Lib.itoa n) else E0
def quT(q:Qu):ByteArray :=
 Gg ⟨#[115,101,108,101,99,116,32]⟩ (q.it.map Kw)++Gg ⟨#[32,119,104,101,114,101,32]⟩ (q.wh.map Ex.text)++Gg ⟨#[32,103,114,111,117,112,32,98,121,32]⟩ (q.gr.map Ex.text) ++
 Gg ⟨#[32,111,114,100,101,114,32,98,121,32]⟩ (q.od.map (Xn q.it))++Ag9 q.lim
def EE(q:Qu):Bool:=Fq q && decide ((quT q).size<=4096)
/-! ### plans -/
def Am(q:Qu):Bool:=(q.it.any λ i=>decide (i.2.1≠0)) || decide (0<q.gr.length)
def IY(x:Ex)(l:List Ex):Bool:=l.any λ g=>x.formed && g.formed && x.same g
def Ix(k:Int):Int:=if k=0 then 1 else k
def Hp(q:Qu)(i:Nat)(x:F4)(k:Int):Except Int AA :=
 if x.2.1=3/\Ix k≠1 then .error 121 else
 if (Am q=true/\x.2.1=0/\IY x.2.2 q.gr=false)\/((q.it.take i).any λ y=>decide (y.1=x.1))=true then .error 122 else
 .ok (x.1,if x.2.1=1\/x.2.1=2 then 1 else Ix k,true)
def Kv(cs:List AA)(q:Qu)(i:Nat)(x:F4):Except Int AA :=
 if x.2.1=1 then Hp q i x 1 else
 match Fa cs x.2.2 with
 | .error e=>.error e
 | .ok k=>Hp q i x k
def Jm(cs:List AA)(q:Qu):Nat->List F4->Except Int (List AA)
 | _,[]=>.ok []
 | i,x :: l =>
  match Kv cs q i x with
  | .error e=>.error e
  | .ok c=>match Jm cs q (i+1) l with
   | .error e=>.error e
   | .ok r=>.ok (c :: r)
def LK(cs:List AA):List Ex->Option Int
 | []=>none
 | x :: l =>
  match Fa cs x with
  | .error e=>some e
  | .ok k=>if k≠2/\k≠0 then some 121 else LK cs l
def K7(cs:List AA):List Ex->Option Int
 | []=>none
 | x :: l =>
  match Fa cs x with
  | .error e=>some e
  | .ok _=>K7 cs l
def DZ(cs:List AA)(q:Qu):Except Int (List AA) :=
 if Ai cs=false then .error 50 else if EE q=false then .error 110 else
 match LK cs q.wh with
 | some e=>.error e
 | none=>match K7 cs q.gr with
  | some e=>.error e
  | none=>Jm cs q 0 q.it
def RF(q:Qu):List Ex:=q.wh++q.gr++q.it.map (·.2.2)
mutual
def Ex.fit:Ex->Prop
 | .mk op nm v ks=>(i64 op/\i64 v.1/\i64 v.2.1/\nm.size<=maxLen/\v.2.2.size<=maxLen)/\Ex.Mq ks
def Ex.Mq:List Ex->Prop
 | []=>True
 | k :: ks=>k.fit/\Ex.Mq ks
end
theorem Mr:∀ {l:List Ex},Ex.Mq l↔∀ k∈l,k.fit
 | []=>by simp [Ex.Mq]
 | k :: l=>by simp [Ex.Mq,Mr (l:=l)]
theorem DT.fit{F:Nat->Prop}{w:World}{x:Ex}{cs:List Value}(h:DT F w x cs):x.fit:=by
 revert cs
 induction x using Ex.ind with
 | h op nm v ks ih =>
  intro cs h;obtain⟨a,cap,rs,rfl,h1,h2,h3,h4,h5,⟨g1,g2,g3,g4,g5⟩,h7⟩:=h.open;refine⟨⟨g1,g3,g4,g2,g5⟩,Mr.2 λ k hk=>?_⟩;obtain⟨i,hi,rfl⟩:=List.mem_iff_getElem.1 hk;exact ih _ hk (h7.get i hi)
def Ex.fair(x:Ex)(d:Nat):Prop:=x.T0 d=true/\(∀ s∈x.names,s.size<=24)/\x.fit
theorem GO{s:ByteArray}(h:Ib s=true):s.size<=24:=by
 simp only [Ib,Cp,Ai6,decide_eq_true_eq] at h;exact h.1.2
theorem GQ{x:Ex}(h:BG x=true)(hf:x.fit):x.fair 40:=by
 simp only [BG,Ex.formed,Ai6,List.all_eq_true,decide_eq_true_eq] at h;exact⟨h.1.1,λ s hs=>GO (h.2 s hs),hf⟩
theorem Rw:∀ {l:List Ex} {k:Ex},k∈l->∀ s∈k.names,s∈Ex.G6 l
 | x :: l,k,hk,s,hs=>by
  simp only [Ex.G6,Akk];rcases List.mem_cons.1 hk with rfl | hk
  ·exact .inl hs
  ·exact .inr (Rw hk s hs)
theorem Ex.fair.kid{op:Int}{nm:ByteArray}{v:AW}{ks:List Ex}{d:Nat}(h:(Ex.mk op nm v ks).fair (d+1)):Sx (.mk op nm v ks)=true/\∀ k∈ks,k.fair d:=by
 obtain⟨h1,h2⟩:=Q0 h.1;refine⟨h1,λ k hk=>⟨h2 k hk,λ s hs=>h.2.1 s ?_,?_⟩⟩
 ·simp only [Ex.names,Akk];exact .inr (Rw hk s hs)
 ·have:=h.2.2;unfold Ex.fit at this;exact Mr.1 this.2 k hk
theorem MM{x:Ex}:Sx x=true↔(x.ks.length:Int)=G5 x.op/\(x.op=1\/x.nm=E0)/\(x.op=2\/x.v=V0)/\AG x.v=true:=by
 simp only [Sx,Ai6,Bool.or_eq_true,decide_eq_true_eq,and_assoc]
theorem ZI{x:Ex}(h:Sx x=true):1<=x.op/\x.op<=16:=by
 obtain⟨h1,_⟩:=MM.1 h;unfold G5 at h1
 repeat' split at h1
 all_goals omega
theorem RB{op:Int}{nm:ByteArray}{v:AW}{ks:List Ex}(h:Sx (.mk op nm v ks)=true) :
  ((op=1\/op=2)/\ks=[])\/((op=8\/op=14\/op=15\/op=16)/\∃ k,ks=[k])\/((3<=op/\op<=13/\op≠8)/\∃ k k',ks=[k,k']):=by
 obtain⟨h1,_⟩:=MM.1 h;simp only [Ex.ks,Ex.op] at h1;unfold G5 at h1;split at h1
 ·exact .inl ⟨by assumption,by cases ks with | nil=>rfl | cons a l=>simp at h1;omega⟩
 ·split at h1
  ·refine .inr (.inl ⟨by assumption,?_⟩)
   match ks,h1 with
   | [k],_=>exact⟨k,rfl⟩
   | [],h=>simp at h
   | _ :: _ :: _,h=>simp at h;omega
  ·split at h1
   ·refine .inr (.inr ⟨⟨by omega,by omega,by omega⟩,?_⟩)
    match ks,h1 with
    | [k,k'],_=>exact⟨k,k',rfl⟩
    | [],h=>simp at h
    | [_],h=>simp at h
    | _ :: _ :: _ :: _,h=>simp at h;omega
   ·omega
theorem Ago(k:Ex)(l:List Ex)(need:Int):Vu (Ex.texts (k :: l)) 0 need=k.at need:=rfl
theorem Ah4(k k':Ex)(l:List Ex)(need:Int):Vu (Ex.texts (k :: k' :: l)) 1 need=k'.at need:=rfl
theorem HK(x:Ex)(need:Int):(x.at need).size<=x.text.size+2:=by
 unfold Ex.at Uu;split
 ·simp only [AhV,Akl];have e1:(AjP #[40]).size=1:=rfl;have e2:(AjP #[41]).size=1:=rfl;omega
 ·omega
theorem Uo(op:Int):(Ow op).size<=3:=by
 unfold Ow
 repeat' split
 all_goals decide
theorem Up:∀(x:Ex) (d:Nat),x.fair d->x.text.size<=2100*x.size:=by
 intro x
 induction x using Ex.ind with
 | h op nm v ks ih =>
  intro d h;cases d with
  | zero=>have:=h.1;simp [Ex.T0] at this
  | succ d =>
   obtain⟨ho,hk⟩:=h.kid;have hv:F5 v:=by have:=h.2.2;unfold Ex.fit at this;exact⟨this.1.2.2.1.1,this.1.2.2.1.2⟩
   unfold Ex.text Gf;rcases RB ho with ⟨cq,rfl⟩ | ⟨cq,k,rfl⟩ | ⟨cq,k,k',rfl⟩
   ·simp only [Ex.size,Ex.KF];rcases cq with rfl | rfl
    ·rw [if_pos rfl];have:=h.2.1 nm (by simp [Ex.names]);omega
    ·rw [if_neg (by decide),if_pos rfl,BL];have:=AcA (MM.1 ho).2.2.2 hv;simp only [Ex.v] at this;omega
   ·have ht:=ih k (by simp) d (hk k (by simp));have hs:(Ex.mk op nm v [k]).size=k.size+1:=by simp [Ex.size,Ex.KF]
    have h1:=HK k 1;have h3:=HK k 3;have h5:=HK k 5;have h8:=HK k 8;rw [hs];simp only [Ago];have e1:(AjP #[108,101,110,40]).size=4:=rfl;have e2:(AjP #[41]).size=1:=rfl;have e3:(AjP #[110,111,116,32]).size=4:=rfl;have e4:(AjP #[32,105,115,32,110,117,108,108]).size=8:=rfl;have e5:(AjP #[45,40]).size=2:=rfl;have e6:(AjP #[45]).size=1:=rfl;rcases cq with rfl | rfl | rfl | rfl
    ·rw [if_neg (by decide),if_neg (by decide),if_neg (by decide),if_neg (by decide),if_neg (by decide),if_pos rfl];split
     ·simp only [Akl];omega
     ·simp only [Akl];omega
    ·rw [if_neg (by decide),if_neg (by decide),if_neg (by decide),if_pos rfl];simp only [Akl];omega
    ·rw [if_neg (by decide),if_neg (by decide),if_neg (by decide),if_neg (by decide),if_pos rfl];simp only [Akl];omega
    ·rw [if_neg (by decide),if_neg (by decide),if_pos rfl];simp only [Akl];omega
   ·have ht:=ih k (by simp) d (hk k (by simp));have jQ:=ih k' (by simp) d (hk k' (by simp));have hs:(Ex.mk op nm v [k,k']).size=k.size+k'.size+1:=by simp [Ex.size,Ex.KF]
    have h1:=HK k (Ee op);have h2:=HK k' (rowOf op+1);have h3:=Uo op;have e2:(AjP #[32]).size=1:=rfl;rw [hs,if_neg (by omega),if_neg (by omega),if_neg (by omega),if_neg (by omega),if_neg (by omega),if_neg (by omega)];simp only [Ago,Ah4,Akl];omega
theorem D0{x:Ex}(h:BG x=true)(hf:x.fit):x.text.size<=840000:=by
 have h1:=Up x 40 (GQ h hf);simp only [BG,Ex.formed,Ai6,decide_eq_true_eq] at h;have:=h.1.2;omega
abbrev XC(w:World)(x:Ex)(cs:List Value):Prop:=DT (λ _=>False) w x cs
theorem QU{F:Nat->Prop}{w0 w:World}{a:Option Addr}{rs:List Value}{ks:List Ex}(hr:Rd w a rs)(hk:IW F w0 ks rs){i:Nat}(hi:i<ks.length) :
  ∃ p a' aX,a=some p/\DT F w0 ks[i] (An ks[i] a' aX)/\w.cell? (p.add (i*6))=some (.int .i64 ks[i].op)/\w.cell? ((p.add (i*6)).add 1)=some (.string ks[i].nm)/\w.cell? ((p.add (i*6)).add 2)=some (.int .i64 ks[i].v.1) /\
   w.cell? ((p.add (i*6)).add 3)=some (.int .i64 ks[i].v.2.1)/\w.cell? ((p.add (i*6)).add 4)=some (.string ks[i].v.2.2)/\w.cell? ((p.add (i*6)).add 5)=some (.slice a' ks[i].ks.length aX):=by
 have h:=hk.get i hi;obtain⟨a',aX,_,he,_⟩:=h.open;rw [he] at h;have hl:=hk.len;have get:∀ j v,(An ks[i] a' aX)[j]?=some v->rs[i*6+j]?=some v:=by
  intro j v hj;rw [<- he,List.getElem?_take] at hj;split at hj
  ·rw [List.getElem?_drop] at hj;exact hj
  ·cases hj
 obtain⟨p,rfl,h0⟩:=hr (i*6+0) _ (get 0 _ rfl);have cell:∀ j v,(An ks[i] a' aX)[j]?=some v->w.cell? ((p.add (i*6)).add j)=some v:=by
  intro j v hj;obtain⟨q,hq,hc⟩:=hr (i*6+j) v (get j v hj);cases hq;rwa [Bp]
 exact⟨p,a',aX,rfl,h,by simpa using h0,cell 1 _ rfl,cell 2 _ rfl,cell 3 _ rfl,cell 4 _ rfl,cell 5 _ rfl⟩
def Yld{α:Type}(w0:World)(L:Nat)(ix:List α)(C:α->List Value->Prop)(I:List α->List It->Prop)(J:List It->Prop):Prop :=
 ∀ done x rest vs HN B w,ix=done++x :: rest->I done B->ST w0 w (HN++B)->C x vs->J3 Tryz.prog L ⟨vs⟩ (λ y w'=>∃ B',ST w0 w' (HN++B')/\((y=true/\I (done++[x]) B')\/(y=false/\J B'))) w
def Aib(w0:World)(p:Nat × Ex)(vs:List Value):Prop:=∃ cs,vs=[.int .i64 (p.1:Int),.agg ⟨cs⟩]/\XC w0 p.2 cs
def Y5(b d:Nat):It:=It.cells b #[.int .i64 (d:Int)] ty.int
def V5(b:Nat)(cs:List Value):It:=It.cells b ⟨cs⟩ ty.CW
theorem G0{w:World}{x:Ex}{a:Option Addr}{cap:Nat}(d:Nat):Calls Tryz.prog f.Zm #[.agg ⟨An x a cap⟩,.int .i64 (d:Int)] w (AD λ v w'=>∃ bd bx,v=.func (.func f.Kt) #[] #[.pointer (some ⟨bd,0,none⟩),.pointer (some ⟨bx,0,none⟩)] /\
  ST w w' [Y5 bd d,V5 bx (An x a cap)]):=by
 apply R.NY
 delta R.I R.J R.N R.P R.S R.T;try dsimp only [R.Ps]
 exact (ST.start w).Ak λ b1 w1 _ _ S1=>S1.Ak λ b2 w2 _ _ S2=>⟨b2,b1,rfl,S2⟩
def Ob(L:Nat):Array Value:=#[.func (.yield L) #[] #[]]
theorem O5{w0:World}:∀(x:Ex) (d:Nat),d<=41->∀(L:Nat) (ix:List (Nat × Ex)) (I:List (Nat × Ex)->List It->Prop) (J:List It->Prop),Yld w0 L ix (Aib w0) I J->∀(a:Option Addr) (cap:Nat),XC w0 x (An x a cap) ->
  ∀(done rest:List (Nat × Ex)) (HN B:List It) (w:World) (bd bx:Nat),ix=done++(x.nodes d++rest)->I done B->ST w0 w (Y5 bd d :: V5 bx (An x a cap) :: (HN++B)) ->
  Calls Tryz.prog f.Kt #[.func (.yield L) #[] #[],.pointer (some ⟨bd,0,none⟩),.pointer (some ⟨bx,0,none⟩)] w (AD λ _ w'=>∃ B',ST w0 w' (HN++B')/\(I (done++x.nodes d) B'\/J B')):=by
 intro x
 induction x using Ex.ind with
 | h op nm v ks ih =>
  intro d hd L ix I J hy a cap hx done rest HN B w bd bx bA hI S;obtain⟨a2,cap2,rs,he,aP,_,av,hmx,_,_,hkids⟩:=hx.open;have iO:a2=a/\cap2=cap:=by
   simp only [An,List.cons.injEq,Value.slice.injEq,and_true,true_and] at he;exact⟨he.1.symm,he.2.symm⟩
  obtain⟨rfl,rfl⟩:=iO;change IW _ _ ks rs at hkids;have re:ks.length<=9223372036854775807:=Nat.le_trans av (Nat.le_trans hmx (by decide));apply R.J7
  delta R.A R.Ab R.Cf R.E R.F R.G R.H R.I R.Lf R.Li R.Ls R.Lt R.N R.O R.S R.Ae R.T R.W R.X R.Z;try dsimp only [R.Ps]
  have fK:(Ex.mk op nm v ks).nodes d=(d,.mk op nm v ks) :: if d<=40 then Ex.A5 ks (d+1) else []:=by simp only [Ex.nodes]
  refine S.Ak λ b3 w1 _ _ S1=>⟨λ _ w4=>∃ B',ST w0 w4 (It.cells b3 (Ob L) 381 :: Y5 bd d :: V5 bx (An (.mk op nm v ks) a2 cap2) :: (HN++B'))/\I (done++[(d,.mk op nm v ks)]) B'/\d<=40,.inr ⟨L,S1.cell 0 rfl rfl,_,S1.cell 1 rfl rfl,_,S1.cell 2 rfl rfl,_,S1.cell 2 rfl rfl,_,S1.cell 2 rfl rfl,_,S1.cell 2 rfl rfl,_,S1.cell 2 rfl rfl,_,_,_,S1.cell 2 rfl rfl,?_⟩,?_⟩
  ·refine (hy done (d,.mk op nm v ks) ((if d<=40 then Ex.A5 ks (d+1) else [])++rest) _ (It.cells b3 (Ob L) 381 :: Y5 bd d :: V5 bx (An (.mk op nm v ks) a2 cap2) :: HN) B w1 (by rw [bA,fK];rfl) hI S1 ⟨_,rfl,hx⟩).mono ?_;rintro y w3 ⟨B',S3,⟨rfl,jD⟩ | ⟨rfl,hJ⟩⟩
   ·refine Ap (AZ ⟨_,S3.cell 1 rfl rfl,Aa (λ jk=>?_) (λ jk=>⟨B',S3,jD,by omega⟩)⟩);refine⟨B',S3.drop 3,.inl ?_⟩;rw [fK,if_neg (by omega)];exact jD
   ·exact Ap (AN ⟨B',S3.drop 3,.inr hJ⟩)
  rintro w4 ⟨B1,S4,rN,rh⟩;rw [if_pos rh] at fK;refine⟨_,_,_,S4.cell 2 rfl rfl,λ st ms w5=>∃ i:Nat,st=[.int .i64 (i:Int)]/\i<=ks.length/\∃ B',ST w0 w5 (It.cells b3 (Ob L) 381 :: Y5 bd d :: V5 bx (An (.mk op nm v ks) a2 cap2) :: (msI ms++(HN++B')))/\I (done++(d,.mk op nm v ks) :: Ex.A5 (ks.take i) (d+1)) B',
   λ st _=>match st with | [.int _ t]=>ks.length-t.toNat | _=>0,⟨0,rfl,by omega,B1,S4,rN⟩,?_⟩
  rintro t ms w5 ⟨i,aA,hi,B2,S5,mQ⟩;cases aA;have dQ:(Ex.mk op nm v ks).ks=ks:=rfl;refine Aa (λ aB=>⟨⟨by omega,aB⟩,?_⟩) (λ aM=>?_)
  ·have aE:i<ks.length:=by rw [dQ] at aB;omega
   obtain⟨p,a3,aN,rfl,bF,c0,c1,c2,c3,c4,c5⟩:=QU (aP.grown S5.Ag) hkids aE;have pT:Ex.A5 (ks.take (i+1)) (d+1)=Ex.A5 (ks.take i) (d+1)++ks[i].nodes (d+1):=by
    rw [Akj aE];have:∀(l:List Ex) (y:Ex),Ex.A5 (l++[y]) (d+1)=Ex.A5 l (d+1)++y.nodes (d+1):=by
     intro l y
     induction l with
     | nil=>simp [Ex.A5]
     | cons z l ih=>simp only [List.cons_append,Ex.A5,ih,Aju]
    exact this _ _
   have pS:Ex.A5 ks (d+1)=Ex.A5 (ks.take i) (d+1)++(ks[i].nodes (d+1)++Ex.A5 (ks.drop (i+1)) (d+1)):=by
    have:∀(l m:List Ex),Ex.A5 (l++m) (d+1)=Ex.A5 l (d+1)++Ex.A5 m (d+1):=by
     intro l m
     induction l with
     | nil=>simp [Ex.A5]
     | cons z l ih=>simp only [List.cons_append,Ex.A5,ih,Aju]
    rw [<- Aju,<- pT,<- this,List.take_append_drop]
   refine⟨_,by rw [Ajz];exact c0,_,by rw [Ajz];exact c1,_,by rw [Ajz];exact c2,_,by rw [Ajz];exact c3,_,by rw [Ajz];exact c4,_,_,_,by rw [Ajz];exact c5,S5.PG λ qd bQ _ aQ=>?_⟩;refine⟨_,aQ.cell 0 rfl rfl,_,aQ.cell 0 rfl rfl,_,aQ.cell 0 rfl rfl,_,aQ.cell 0 rfl rfl,_,aQ.cell 0 rfl rfl,_,_,_,aQ.cell 0 rfl rfl,_,aQ.cell 2 rfl rfl,?_⟩;rw [Ah (by omega)];refine (G0 (x:=ks[i]) (a:=a3) (cap:=aN) (d+1)).mono ?_;rintro _ bG ⟨_,rfl,b2,b1,rfl,qF⟩;have cC:=(aQ.drop 1).join qF;refine⟨_,_,_,rfl,by kernel_rfl,λ rr aA bT lX=>?_⟩;have au:=cC.range rr;obtain⟨L2,hL2⟩:∃ L2,L2=bG.heap.size+1:=⟨_,rfl⟩;obtain⟨m,hm⟩:∃ m,m=bG.heap.size:=⟨_,rfl⟩;rw [<- hL2] at au lX ⊢;rw [<- hm] at au ⊢;have cN:ST w0 ((bG.alloc (.deferred (some []))).alloc (.loop rr)) (Y5 b2 (d+1) :: V5 b1 (An ks[i] a3 aN) :: ((It.obj m (.deferred (some [])) :: Y5 bd d :: V5 bx (An (.mk op nm v ks) (some p) cap2) :: (msI ms++HN))++(It.obj L2 (.loop rr) :: It.cells b3 (Ob L) 381 :: B2))):=by
    have T1:=au.pull 4 rfl;have T2:=T1.pull 1 rfl;have T3:=T2.pull 6 rfl;have T4:=T3.pull 6 rfl;have T5:=T4.pull 4 rfl;have T6:=T5.pull 6 rfl;have T7:=T6.pull 6 rfl;refine T7.perm ?_;refine Ako _ (Ako _ (Ako _ (Ako _ (Ako _ ?_))));have:=List.perm_append_comm_assoc [It.obj L2 (.loop rr),It.cells b3 (Ob L) 381] (msI ms++HN) B2;simpa [Aju] using this
   refine (ih ks[i] (Akg aE) (d+1) (by omega) L2 (ks[i].nodes (d+1)) (λ fC B'=>∃ B'',B'=It.obj L2 (.loop rr) :: It.cells b3 (Ob L) 381 :: B''/\I (done++(d,.mk op nm v ks) :: Ex.A5 (ks.take i) (d+1)++fC) B'')
    (λ B'=>∃ B'',B'=It.obj L2 (.loop { rr with state:=.done,pending:=some .ret }) :: It.cells b3 (Ob L) 381 :: B''/\J B'') ?_ a3 aN bF [] [] _ _ _ b2 b1 (by simp) ⟨B2,rfl,by simpa using mQ⟩ cN).mono ?_
   ·rintro fC ⟨yd,yx⟩ kj vs HN2 _ cB kL ⟨B3,rfl,mM⟩ bn ⟨gA,rfl,dV⟩;obtain⟨a4,cap4,_,rfl,_⟩:=DT.open dV;have bN:=ST.mid [It.obj L2 (.loop rr),It.cells b3 (Ob L) 381] bn;refine lX _ _ _ _ _ _ _ _ _ _ cB (bN.get 0 rfl) ?_;refine bN.PG λ qh iy _ gV=>gV.YL 1 rfl λ jY cd=>.inr ⟨L,cd.cell 2 rfl rfl,_,cd.cell 0 rfl rfl,_,cd.cell 0 rfl rfl,_,cd.cell 0 rfl rfl,_,cd.cell 0 rfl rfl,_,cd.cell 0 rfl rfl,_,_,_,cd.cell 0 rfl rfl,?_⟩;refine (hy (done++(d,.mk op nm v ks) :: Ex.A5 (ks.take i) (d+1)++fC) (yd,yx) (kj++(Ex.A5 (ks.drop (i+1)) (d+1)++rest)) _ (V5 qh (An yx a4 cap4) :: It.obj L2 (.loop { rr with state:=.busy }) :: It.cells b3 (Ob L) 381 :: HN2) B3 jY ?_ mM cd ⟨_,rfl,dV⟩).mono ?_
    ·rw [bA,fK,pS,kL];simp [Aju]
    rintro y oE ⟨B4,jc,⟨rfl,mN⟩ | ⟨rfl,hJ⟩⟩
    ·refine Ap (AZ (jc.Mi 1 aA bT rfl λ w' cT=>⟨_,ST.Ns [It.obj L2 (.loop rr),It.cells b3 (Ob L) 381] (cT.drop 1),.inl ⟨rfl,B4,rfl,?_⟩⟩));rw [<- Aju];exact mN
    ·exact Ap (AN (jc.AaL 1 rfl λ w' cT=>⟨_,ST.Ns [It.obj L2 (.loop { rr with state:=.done,pending:=some .ret }),It.cells b3 (Ob L) 381] (cT.drop 1),.inr ⟨rfl,B4,rfl,hJ⟩⟩))
   ·rintro _ lZ ⟨_,rfl,B5,cT,⟨B6,rfl,mP⟩ | ⟨B6,rfl,hJ⟩⟩
    ·refine⟨⟨_,rfl⟩,?_⟩;have dX:=ST.mid [It.obj L2 (.loop rr),It.cells b3 (Ob L) 381] cT;refine dX.Kq 0 aA bT rfl λ fu l9=>.inl ⟨rfl,⟨i+1,by rw [Ah (by omega)],by omega,B6,?_,?_⟩,?_⟩
     ·have T1:=(l9.drop 1);have T2:=T1.pull 1 rfl;have T3:=T2.pull 3 rfl;have T4:=T3.pull 3 rfl;have T5:=T4.pull 3 rfl;have e:msI (m :: ms)++(HN++B6)=It.obj m (.deferred (some [])) :: ((msI ms++HN)++B6):=by rw [Aju];rfl
      rw [e];exact T5
     ·rw [pT];simpa [Aju] using mP
     ·show ks.length-(IntKind.i64.wrap ((i:Int)+1)).toNat<ks.length-((i:Nat):Int).toNat;rw [Ah (by omega)];simp only [Ajz];omega
    ·refine⟨⟨_,rfl⟩,?_⟩;have dX:=ST.mid [It.obj L2 (.loop { rr with state:=.done,pending:=some .ret }),It.cells b3 (Ob L) 381] cT;refine dX.AaK 0 rfl λ fu l9=>.inr ⟨rfl,l9.get 2 rfl,?_⟩;have qL:=(l9.put 2 rfl (.deferred none)).drop 5;refine ST.shut (H:=HN++B6) ?_ λ w' lh=>⟨B6,lh,.inr hJ⟩;simpa [Aju] using qL
  ·refine ST.shut (H:=HN++B2) (S5.drop 3) λ w' S6=>⟨B2,S6,.inl ?_⟩;have:i=ks.length:=by rw [dQ] at aM;omega
   rw [this,List.take_length] at mQ;rw [fK];exact mQ
theorem Yd:∀ n:Nat,1<=n->n<17->EF[n*3]?=some (.int .i64 (G5 n))
 | 0,h,_=>by omega
 | 1,_,_=>rfl
 | 2,_,_=>rfl
 | 3,_,_=>rfl
 | 4,_,_=>rfl
 | 5,_,_=>rfl
 | 6,_,_=>rfl
 | 7,_,_=>rfl
 | 8,_,_=>rfl
 | 9,_,_=>rfl
 | 10,_,_=>rfl
 | 11,_,_=>rfl
 | 12,_,_=>rfl
 | 13,_,_=>rfl
 | 14,_,_=>rfl
 | 15,_,_=>rfl
 | 16,_,_=>rfl
 | n+17,_,h=>by omega
theorem Zo{x:Ex}{done rest:List (Nat × Ex)}{d:Nat}{y:Ex}(ht:x.nodes 1=done++(d,y) :: rest)(h:(d<=40/\Sx y=true)->400<done.length+1):x.formed=false:=by
 rw [Bool.eq_false_iff,Ne,HZ];rintro⟨h1,h2⟩;have:=h (h1 (d,y) (by rw [ht];simp));rw [ht] at h2;simp at h2;omega
theorem Ea{w:World}(E:Env w){x:Ex}{a:Option Addr}{cap:Nat}(hx:XC w x (An x a cap)):Calls Tryz.prog f.W1 #[.agg ⟨An x a cap⟩] w (AD λ r w'=>r=.bool x.formed/\Below w.heap.size w w'):=by
 apply R.Mp
 delta R.A R.Ab R.Cb R.Cf R.D R.E R.F R.G R.I R.Lb R.Li R.Ls R.Lt R.N R.O R.S R.Ae R.T R.W R.X;try dsimp only [R.Ps]
 simp only [Aw];refine (ST.start w).Ak λ b7 w1 _ _ S1=>S1.Ak λ b8 w2 _ _ S2=>S2.Ak λ b9 w3 _ _ S3=>S3.BA 0 rfl (aD:=#[.int .i64 0]) (by simp) rfl λ w4 S4=>⟨_,S4.cell 2 rfl rfl,_,S4.cell 2 rfl rfl,_,S4.cell 2 rfl rfl,_,S4.cell 2 rfl rfl,_,S4.cell 2 rfl rfl,_,_,_,S4.cell 2 rfl rfl,(G0 (x:=x) (a:=a) (cap:=cap) 1).mono ?_⟩;rintro _ w5 ⟨_,rfl,bd,bx,rfl,P5⟩;have S5:=S4.join P5;refine⟨_,_,_,rfl,by kernel_rfl,λ rr aA bT hy=>?_⟩;have S6:=S5.range rr;obtain⟨L,hL⟩:∃ L,L=w5.heap.size+1:=⟨_,rfl⟩;obtain⟨m,hm⟩:∃ m,m=w5.heap.size:=⟨_,rfl⟩;rw [<- hL] at S6 hy ⊢;rw [<- hm] at S6 ⊢;have S7:=(((S6.pull 6 rfl).pull 2 rfl).pull 4 rfl).pull 4 rfl;refine (O5 x 1 (by omega) L (x.nodes 1) (λ done B=>B=[It.obj L (.loop rr),It.cells b9 #[.int .i64 (done.length:Int)] ty.int,It.cells b8 #[.bool false] ty.bool]/\(∀ p∈done,p.1<=40/\Sx p.2=true)/\done.length<=400)
  (λ B=>∃ n,B=[It.obj L (.loop { rr with state:=.done,pending:=some .ret }),It.cells b9 n ty.int,It.cells b8 #[.bool false] ty.bool]/\x.formed=false) ?_ a cap hx [] [] [It.obj m (.deferred (some [])),It.cells b7 ⟨An x a cap⟩ ty.CW] _ _ bd bx (by simp) ⟨rfl,by simp,by simp⟩ S7).mono ?_
 ·rintro done ⟨yd,yx⟩ rest vs HN _ w6 bA ⟨rfl,aC,hlen⟩ S ⟨gA,rfl,dV⟩;change XC w yx gA at dV;obtain⟨a4,cap4,_,rfl,_⟩:=DT.open dV;have S:=ST.mid (B:=[]) [It.obj L (.loop rr),It.cells b9 #[.int .i64 (done.length:Int)] ty.int,It.cells b8 #[.bool false] ty.bool] S;refine hy _ _ _ _ _ _ _ _ _ _ w6 (S.get 0 rfl) ?_;refine S.PG λ fB bQ _ S=>S.YL 1 rfl λ bG S=>⟨_,S.cell 2 rfl rfl,S.BA 2 rfl (aD:=#[.int .i64 ((done.length+1:Nat):Int)]) (by simp) (by rw [Ah (by omega)];rfl) λ cB S=>S.draw λ cZ _ S=>?_⟩;have bad:∀ w',ST w w' (V5 fB (An yx a4 cap4) :: It.obj L (.loop { rr with state:=.busy }) :: It.cells b9 #[.int .i64 ((done.length+1:Nat):Int)] ty.int :: It.cells b8 #[.bool false] ty.bool :: (HN++[]))->((yd<=40/\Sx yx=true)->400<done.length+1) ->
    CI ⟨b8,0,none⟩ (.bool false) (λ cM=>Bk rr L (λ y w'=>∃ B',ST w w' (HN++B')/\((y=true/\B'=[It.obj L (.loop rr),It.cells b9 #[.int .i64 ((done++[(yd,yx)]).length:Int)] ty.int,It.cells b8 #[.bool false] ty.bool]/\(∀ p∈done++[(yd,yx)],p.1<=40/\Sx p.2=true)/\(done++[(yd,yx)]).length<=400) \/
     (y=false/\∃ n,B'=[It.obj L (.loop { rr with state:=.done,pending:=some .ret }),It.cells b9 n ty.int,It.cells b8 #[.bool false] ty.bool]/\x.formed=false))) (some .ret) cM) w':=λ w' S hb =>
   S.BA 3 rfl (aD:=#[.bool false]) (by simp) rfl λ cM S=>S.AaL 1 rfl λ cR S=>⟨_,ST.Ns (B:=[]) [It.obj L (.loop { rr with state:=.done,pending:=some .ret }),It.cells b9 #[.int .i64 ((done.length+1:Nat):Int)] ty.int,It.cells b8 #[.bool false] ty.bool] (S.drop 1),.inr ⟨rfl,_,rfl,Zo bA hb⟩⟩
  refine Aa (λ h=>bad _ S λ hh=>by have:=hh.1;omega) (λ h1=>⟨_,S.cell 2 rfl rfl,Aa (λ h=>bad _ S λ hh=>by omega) (λ h2=>⟨_,S.cell 0 rfl rfl,Aa (λ h=>bad _ S λ hh=>by have:=ZI hh.2;omega) (λ h3=>⟨_,S.cell 0 rfl rfl,Aa (λ h=>bad _ S λ hh=>by have:=ZI hh.2;omega) (λ h4=>⟨_,_,_,S.cell 0 rfl rfl,_,S.cell 0 rfl rfl,⟨by omega,by omega⟩,G5 yx.op,?_,?_⟩)⟩)⟩)⟩)
  ·obtain⟨n,hn⟩:∃ n:Nat,yx.op=n:=⟨yx.op.toNat,by omega⟩;have:=(E.grown S.Ag).iB (n*3) _ (Yd n (by omega) (by omega));obtain⟨p,hp,hc⟩:=this;cases hp;rw [hn,Ajz];exact hc
  have Ji:∀ w',ST w w' (V5 fB (An yx a4 cap4) :: It.obj L (.loop { rr with state:=.busy }) :: It.cells b9 #[.int .i64 ((done.length+1:Nat):Int)] ty.int :: It.cells b8 #[.bool false] ty.bool :: (HN++[]))->Sx yx=true ->
    Bk rr L (λ y w'=>∃ B',ST w w' (HN++B')/\((y=true/\B'=[It.obj L (.loop rr),It.cells b9 #[.int .i64 ((done++[(yd,yx)]).length:Int)] ty.int,It.cells b8 #[.bool false] ty.bool]/\(∀ p∈done++[(yd,yx)],p.1<=40/\Sx p.2=true)/\(done++[(yd,yx)]).length<=400) \/
     (y=false/\∃ n,B'=[It.obj L (.loop { rr with state:=.done,pending:=some .ret }),It.cells b9 n ty.int,It.cells b8 #[.bool false] ty.bool]/\x.formed=false))) none w':=λ w' S hb =>
   S.Mi 1 aA bT rfl λ cR S=>⟨_,ST.Ns (B:=[]) [It.obj L (.loop rr),It.cells b9 #[.int .i64 ((done.length+1:Nat):Int)] ty.int,It.cells b8 #[.bool false] ty.bool] (S.drop 1),.inl ⟨rfl,by simp,by
    intro p hp;rcases Akk.1 hp with hp | hp
    ·exact aC p hp
    ·rw [Akn.1 hp];exact⟨by omega,hb⟩,by simp;omega⟩⟩
  have last:∀ w',ST w w' (V5 fB (An yx a4 cap4) :: It.obj L (.loop { rr with state:=.busy }) :: It.cells b9 #[.int .i64 ((done.length+1:Nat):Int)] ty.int :: It.cells b8 #[.bool false] ty.bool :: (HN++[]))->(Sx yx=AG yx.v)->∃ kr,w'.cell? ⟨fB,2,none⟩=some (.int .i64 kr)/\∃ ku,w'.cell? ⟨fB,3,none⟩=some (.int .i64 ku)/\∃ kv,w'.cell? ⟨fB,4,none⟩=some (.string kv) /\
    Calls Tryz.prog f.Pf #[.agg #[.int .i64 kr,.int .i64 ku,.string kv]] w' (λ e iC=>∃ t61:Bool,e=.returned (.bool t61)/\Tp (!t61) (CI ⟨b8,0,none⟩ (.bool false) (λ cM=>Bk rr L (λ y w'=>∃ B',ST w w' (HN++B')/\((y=true/\B'=[It.obj L (.loop rr),It.cells b9 #[.int .i64 ((done++[(yd,yx)]).length:Int)] ty.int,It.cells b8 #[.bool false] ty.bool]/\(∀ p∈done++[(yd,yx)],p.1<=40/\Sx p.2=true)/\(done++[(yd,yx)]).length<=400) \/
     (y=false/\∃ n,B'=[It.obj L (.loop { rr with state:=.done,pending:=some .ret }),It.cells b9 n ty.int,It.cells b8 #[.bool false] ty.bool]/\x.formed=false))) (some .ret) cM) iC) (Bk rr L (λ y w'=>∃ B',ST w w' (HN++B')/\((y=true/\B'=[It.obj L (.loop rr),It.cells b9 #[.int .i64 ((done++[(yd,yx)]).length:Int)] ty.int,It.cells b8 #[.bool false] ty.bool]/\(∀ p∈done++[(yd,yx)],p.1<=40/\Sx p.2=true)/\(done++[(yd,yx)]).length<=400) \/
     (y=false/\∃ n,B'=[It.obj L (.loop { rr with state:=.done,pending:=some .ret }),It.cells b9 n ty.int,It.cells b8 #[.bool false] ty.bool]/\x.formed=false))) none iC)):=by
   intro w' S ho;refine⟨_,S.cell 0 rfl rfl,_,S.cell 0 rfl rfl,_,S.cell 0 rfl rfl,(BB w' yx.v).mono ?_⟩;rintro _ iC ⟨_,rfl,rfl,q8⟩;have S:=S.grown q8;refine⟨_,rfl,Ap (Ao (λ hr=>Ji _ S (by rw [ho];exact hr)) (λ hr=>bad _ S λ hh=>by rw [ho,hr] at hh;cases hh.2))⟩
  refine As (λ h=>bad _ S λ hh=>by have:=(MM.1 hh.2).1;omega) (λ h5=>⟨_,S.cell 0 rfl rfl,?_⟩);have gz:∀ {b:Bool},((yx.v.1==0) && ((yx.v.2.1==0) && ((yx.v.2.2==⟨#[]⟩) && true)))=b->(b=true↔yx.v=V0):=by
   rintro b rfl;obtain⟨k,n,s⟩:=yx.v;simp only [JS,Bool.and_true,Ai6,beq_iff_eq,decide_eq_true_eq,Prod.mk.injEq]
  have aZ:Sx yx=((decide (yx.op=1) || decide (yx.nm=E0)) && (decide (yx.op=2) || decide (yx.v=V0)) && AG yx.v):=by
   simp only [Sx,h5,decide_true,Bool.true_and]
  refine As (λ jK=>⟨_,S.cell 0 rfl rfl,Ap (Aa (λ e1=>⟨_,S.cell 0 rfl rfl,As (λ gu=>⟨_,S.cell 0 rfl rfl,_,S.cell 0 rfl rfl,_,S.cell 0 rfl rfl,Ap (Ao (λ e2=>last _ S ?_) (λ e2=>bad _ S λ hh=>?_))⟩) (λ fE=>last _ S ?_)⟩) (λ e1=>bad _ S λ hh=>?_))⟩) (λ rj=>⟨_,S.cell 0 rfl rfl,As (λ gu=>⟨_,S.cell 0 rfl rfl,_,S.cell 0 rfl rfl,_,S.cell 0 rfl rfl,Ap (Ao (λ e2=>last _ S ?_) (λ e2=>bad _ S λ hh=>?_))⟩) (λ fE=>last _ S ?_)⟩)
  ·have:=(gz rfl).1 e2;simp [aZ,e1,this]
  ·have:=hh.2;rw [aZ] at this;have h9:=mt (gz rfl).2 (by rw [e2];decide);simp [gu,h9] at this
  ·simp [aZ,e1,fE]
  ·have:=hh.2;rw [aZ] at this;simp [jK,e1] at this
  ·have:=(gz rfl).1 e2;simp [aZ,rj,this]
  ·have:=hh.2;rw [aZ] at this;have h9:=mt (gz rfl).2 (by rw [e2];decide);simp [gu,h9] at this
  ·omega
 ·rintro _ lZ ⟨_,rfl,B5,cT,⟨rfl,aC,hlen⟩ | ⟨n,rfl,hf⟩⟩
  ·refine⟨⟨_,rfl⟩,?_⟩;have dX:=ST.mid (B:=[]) [It.obj L (.loop rr),It.cells b9 _ ty.int,It.cells b8 #[.bool false] ty.bool] cT;refine dX.Kq 0 aA bT rfl λ fu S=>.inl ⟨rfl,S.BA 2 rfl (aD:=#[.bool true]) (by simp) rfl λ oF S=>⟨S.get 3 rfl,?_⟩⟩;have S:=S.put 3 rfl (.deferred none);refine⟨_,S.cell 2 rfl rfl,?_,S.Ag⟩;rw [(HZ x).2 ⟨by simpa using aC,by simpa using hlen⟩]
  ·refine⟨⟨_,rfl⟩,?_⟩;have dX:=ST.mid (B:=[]) [It.obj L (.loop { rr with state:=.done,pending:=some .ret }),It.cells b9 n ty.int,It.cells b8 #[.bool false] ty.bool] cT;refine dX.AaK 0 rfl λ fu S=>.inr ⟨rfl,S.get 3 rfl,?_⟩;have S:=S.put 3 rfl (.deferred none);refine⟨_,S.cell 2 rfl rfl,?_,S.Ag⟩;rw [hf]
def PE(o:Option Nat):Int:=match o with | none => -1 | some i=>i
theorem Ei{α:Type}{C:α->List Value->Prop}{n:Nat}(hn:∀ x c,C x c->c.length=n)(h0:0<n){w:World}{a:Option Addr}{rs:List Value}{l:List α}(hr:Rd w a rs)(hC:Ax C l rs){i:Nat}(hi:i<l.length) :
  ∃ p c,a=some p/\C l[i] c/\∀ j v,c[j]?=some v->w.cell? ((p.add (i*n)).add j)=some v:=by
 have h:=hC.get hn i hi;have hl:=hn _ _ h;obtain⟨v0,gz⟩:∃ v,((rs.drop (i*n)).take n)[0]?=some v:=⟨_,List.getElem?_eq_getElem (by omega)⟩;have get:∀ j v,((rs.drop (i*n)).take n)[j]?=some v->rs[i*n+j]?=some v:=by
  intro j v hj;rw [List.getElem?_take] at hj;split at hj
  ·rw [List.getElem?_drop] at hj;exact hj
  ·cases hj
 obtain⟨p,rfl,_⟩:=hr (i*n+0) _ (get 0 _ gz);refine⟨p,_,rfl,h,λ j v hj=>?_⟩;obtain⟨q,hq,hc⟩:=hr (i*n+j) v (get j v hj);cases hq;rwa [Bp]
theorem Ey{α:Type}{p:α->Bool}{l:List α}{i:Nat}(hi:i<l.length)(h:∀ x∈l.take i,p x=false)(hp:p l[i]=true):l.findIdx? p=some i:=by
 rw [List.findIdx?_eq_some_iff_getElem];exact⟨hi,hp,λ j hj=>by rw [h l[j] (List.mem_take_iff_getElem.2 ⟨j,by omega,rfl⟩)];decide⟩
theorem Dh{α:Type}{p:α->Bool}{l:List α}(h:∀ x∈l,p x=false):l.findIdx? p=none:=List.findIdx?_eq_none_iff.2 h
theorem EW{α:Type}(p:α->Bool)(l:List α):l.any p=decide (PE (l.findIdx? p)>=0):=by
 cases h:l.findIdx? p with
 | none =>
  have:=List.findIdx?_eq_none_iff.1 h;rw [Bool.eq_iff_iff,List.any_eq_true,decide_eq_true_eq];show _↔(-1:Int)>=0;constructor
  ·rintro⟨x,hx,hp⟩;rw [this x hx] at hp;cases hp
  ·intro h;omega
 | some i =>
  obtain⟨hi,hp,_⟩:=List.findIdx?_eq_some_iff_getElem.1 h;rw [Bool.eq_iff_iff,List.any_eq_true,decide_eq_true_eq];show _↔((i:Nat):Int)>=0;exact⟨λ _=>by omega,λ _=>⟨_,Akg hi,hp⟩⟩
theorem MC{w:World}{a:Option Addr}{c0:Nat}{rs:List Value}{l:List AA}(hl:Rd w a rs)(hC:Ax (λ x c=>c=Hi x) l rs)(hn:l.length<=9223372036854775807){fn:FuncId}{fi ca:Array Value}(aY:enters Tryz.prog fn=true)(p:AA->Bool)(hf:∀ w' x c,Below w.heap.size w w'->x∈l->(λ x c=>c=Hi x) x c->Calls Tryz.prog fn ⟨fi.toList++[.agg ⟨c⟩]++ca.toList⟩ w' (AD λ r aR=>r=.bool (p x)/\Below w'.heap.size w' aR)) :
  Calls Tryz.prog f.C8 #[.slice a l.length c0,.func (.func fn) fi ca] w (AD λ r w'=>r=.int .i64 (PE (l.findIdx? p))/\Below w.heap.size w w'):=by
 apply R.Cc
 delta R.E R.F R.G R.I R.Lb R.Li R.Lt R.Qi R.T R.W R.X;try dsimp only [R.Ps]
 refine⟨λ st w1=>∃ i:Nat,st=[.int .i64 (i:Int)]/\i<=l.length/\(∀ x∈l.take i,p x=false)/\Below w.heap.size w w1,λ st _=>match st with | [.int _ t]=>l.length-t.toNat | _=>0,⟨0,rfl,by omega,by simp,.refl _ _⟩,?_⟩;rintro t w1 ⟨i,aA,hi,aC,B1⟩;cases aA;refine Aa (λ aB=>⟨⟨by omega,aB⟩,?_⟩) (λ aM=>⟨?_,B1⟩)
 ·have aE:i<l.length:=by omega
  obtain⟨q,c,rfl,hc,cell⟩:=Ei (n:=3) (λ x c h=>by rw [h];rfl) (by decide) (hl.grown B1) hC aE;have cE:=hc;have fY:c=Hi l[i]:=hc;subst fY;refine⟨_,by rw [Ajz];exact cell 0 _ rfl,_,by rw [Ajz];exact cell 1 _ rfl,_,by rw [Ajz];exact cell 2 _ rfl,?_⟩;rw [aY];refine (hf w1 _ _ B1 (Akg aE) cE).mono ?_;rintro _ w2 ⟨_,rfl,rfl,B2⟩;refine⟨_,rfl,Ao (λ h=>⟨by rw [Ey aE aC h];rfl,Ac B1 B2⟩) (λ h=>?_)⟩;rw [Ah (by omega)];refine⟨⟨i+1,rfl,by omega,λ x hx=>?_,Ac B1 B2⟩,?_⟩
  ·rw [Akj aE] at hx;rcases Akk.1 hx with hx | hx
   ·exact aC x hx
   ·rw [Akn.1 hx];exact h
  ·show l.length-((i+1:Nat):Int).toNat<l.length-((i:Nat):Int).toNat;simp only [Ajz];omega
 ·rw [Akm (by omega)] at aC;rw [Dh aC];rfl
theorem Iu{w0:World}{w:World}{a:Option Addr}{c0:Nat}{rs:List Value}{l:List F4}(hl:Rd w a rs)(hC:Ax (LX (λ _=>False) w0) l rs)(hn:l.length<=9223372036854775807){fn:FuncId}{fi ca:Array Value}(aY:enters Tryz.prog fn=true)(p:F4->Bool)(hf:∀ w' x c,Below w.heap.size w w'->x∈l->(LX (λ _=>False) w0) x c->Calls Tryz.prog fn ⟨fi.toList++[.agg ⟨c⟩]++ca.toList⟩ w' (AD λ r aR=>r=.bool (p x)/\Below w'.heap.size w' aR)) :
  Calls Tryz.prog f.DO #[.slice a l.length c0,.func (.func fn) fi ca] w (AD λ r w'=>r=.int .i64 (PE (l.findIdx? p))/\Below w.heap.size w w'):=by
 apply R.CQ
 delta R.E R.F R.G R.I R.Li R.Ls R.Lt R.Qi R.S R.T R.W R.X;try dsimp only [R.Ps]
 refine⟨λ st w1=>∃ i:Nat,st=[.int .i64 (i:Int)]/\i<=l.length/\(∀ x∈l.take i,p x=false)/\Below w.heap.size w w1,λ st _=>match st with | [.int _ t]=>l.length-t.toNat | _=>0,⟨0,rfl,by omega,by simp,.refl _ _⟩,?_⟩;rintro t w1 ⟨i,aA,hi,aC,B1⟩;cases aA;refine Aa (λ aB=>⟨⟨by omega,aB⟩,?_⟩) (λ aM=>⟨?_,B1⟩)
 ·have aE:i<l.length:=by omega
  obtain⟨q,c,rfl,hc,cell⟩:=Ei (n:=8) (λ x c h=>LX.len h) (by decide) (hl.grown B1) hC aE;have cE:=hc;obtain⟨ce,rfl,hx,hy⟩:=id hc;obtain⟨a9,cap9,_,rfl,_⟩:=DT.open hx;refine⟨_,by rw [Ajz];exact cell 0 _ rfl,_,by rw [Ajz];exact cell 1 _ rfl,_,by rw [Ajz];exact cell 2 _ rfl,_,by rw [Ajz];exact cell 3 _ rfl,_,by rw [Ajz];exact cell 4 _ rfl,_,by rw [Ajz];exact cell 5 _ rfl,_,by rw [Ajz];exact cell 6 _ rfl,_,_,_,by rw [Ajz];exact cell 7 _ rfl,?_⟩;rw [aY];refine (hf w1 _ _ B1 (Akg aE) cE).mono ?_;rintro _ w2 ⟨_,rfl,rfl,B2⟩;refine⟨_,rfl,Ao (λ h=>⟨by rw [Ey aE aC h];rfl,Ac B1 B2⟩) (λ h=>?_)⟩;rw [Ah (by omega)];refine⟨⟨i+1,rfl,by omega,λ x hx=>?_,Ac B1 B2⟩,?_⟩
  ·rw [Akj aE] at hx;rcases Akk.1 hx with hx | hx
   ·exact aC x hx
   ·rw [Akn.1 hx];exact h
  ·show l.length-((i+1:Nat):Int).toNat<l.length-((i:Nat):Int).toNat;simp only [Ajz];omega
 ·rw [Akm (by omega)] at aC;rw [Dh aC];rfl
theorem Ip{w0:World}{w:World}{a:Option Addr}{c0:Nat}{rs:List Value}{l:List F4}(hl:Rd w a rs)(hC:Ax (LX (λ _=>False) w0) l rs)(hn:l.length<=9223372036854775807){fn:FuncId}{fi ca:Array Value}(aY:enters Tryz.prog fn=true)(p:F4->Bool)(hf:∀ w' x c,Below w.heap.size w w'->x∈l->(LX (λ _=>False) w0) x c->Calls Tryz.prog fn ⟨fi.toList++[.agg ⟨c⟩]++ca.toList⟩ w' (AD λ r aR=>r=.bool (p x)/\Below w'.heap.size w' aR)) :
  Calls Tryz.prog f.Dp #[.slice a l.length c0,.func (.func fn) fi ca] w (AD λ r w'=>r=.bool (l.any p)/\Below w.heap.size w w'):=by
 apply R.Cg
 delta R.Ci R.G R.S;try dsimp only [R.Ps]
 refine (Iu hl hC hn aY p hf).mono ?_;rintro _ w1 ⟨_,rfl,rfl,B1⟩;exact⟨_,rfl,by rw [EW],B1⟩
theorem PF{w0:World}{w:World}{a:Option Addr}{c0:Nat}{rs:List Value}{l:List Ex}(hl:Rd w a rs)(hC:Ax (XC w0) l rs)(hn:l.length<=9223372036854775807){fn:FuncId}{fi ca:Array Value}(aY:enters Tryz.prog fn=true)(p:Ex->Bool)(hf:∀ w' x c,Below w.heap.size w w'->x∈l->(XC w0) x c->Calls Tryz.prog fn ⟨fi.toList++[.agg ⟨c⟩]++ca.toList⟩ w' (AD λ r aR=>r=.bool (p x)/\Below w'.heap.size w' aR)) :
  Calls Tryz.prog f.DN #[.slice a l.length c0,.func (.func fn) fi ca] w (AD λ r w'=>r=.int .i64 (PE (l.findIdx? p))/\Below w.heap.size w w'):=by
 apply R.CO
 delta R.E R.F R.G R.I R.Li R.Ls R.Lt R.Qi R.S R.T R.W R.X;try dsimp only [R.Ps]
 refine⟨λ st w1=>∃ i:Nat,st=[.int .i64 (i:Int)]/\i<=l.length/\(∀ x∈l.take i,p x=false)/\Below w.heap.size w w1,λ st _=>match st with | [.int _ t]=>l.length-t.toNat | _=>0,⟨0,rfl,by omega,by simp,.refl _ _⟩,?_⟩;rintro t w1 ⟨i,aA,hi,aC,B1⟩;cases aA;refine Aa (λ aB=>⟨⟨by omega,aB⟩,?_⟩) (λ aM=>⟨?_,B1⟩)
 ·have aE:i<l.length:=by omega
  obtain⟨q,c,rfl,hc,cell⟩:=Ei (n:=6) (λ x c h=>DT.len h) (by decide) (hl.grown B1) hC aE;have cE:=hc;obtain⟨a9,cap9,_,rfl,_⟩:=DT.open hc;refine⟨_,by rw [Ajz];exact cell 0 _ rfl,_,by rw [Ajz];exact cell 1 _ rfl,_,by rw [Ajz];exact cell 2 _ rfl,_,by rw [Ajz];exact cell 3 _ rfl,_,by rw [Ajz];exact cell 4 _ rfl,_,_,_,by rw [Ajz];exact cell 5 _ rfl,?_⟩;rw [aY];refine (hf w1 _ _ B1 (Akg aE) cE).mono ?_;rintro _ w2 ⟨_,rfl,rfl,B2⟩;refine⟨_,rfl,Ao (λ h=>⟨by rw [Ey aE aC h];rfl,Ac B1 B2⟩) (λ h=>?_)⟩;rw [Ah (by omega)];refine⟨⟨i+1,rfl,by omega,λ x hx=>?_,Ac B1 B2⟩,?_⟩
  ·rw [Akj aE] at hx;rcases Akk.1 hx with hx | hx
   ·exact aC x hx
   ·rw [Akn.1 hx];exact h
  ·show l.length-((i+1:Nat):Int).toNat<l.length-((i:Nat):Int).toNat;simp only [Ajz];omega
 ·rw [Akm (by omega)] at aC;rw [Dh aC];rfl
theorem Pm{w0:World}{w:World}{a:Option Addr}{c0:Nat}{rs:List Value}{l:List Ex}(hl:Rd w a rs)(hC:Ax (XC w0) l rs)(hn:l.length<=9223372036854775807){fn:FuncId}{fi ca:Array Value}(aY:enters Tryz.prog fn=true)(p:Ex->Bool)(hf:∀ w' x c,Below w.heap.size w w'->x∈l->(XC w0) x c->Calls Tryz.prog fn ⟨fi.toList++[.agg ⟨c⟩]++ca.toList⟩ w' (AD λ r aR=>r=.bool (p x)/\Below w'.heap.size w' aR)) :
  Calls Tryz.prog f.Dm #[.slice a l.length c0,.func (.func fn) fi ca] w (AD λ r w'=>r=.bool (l.any p)/\Below w.heap.size w w'):=by
 apply R.Ce
 delta R.Ci R.G R.S;try dsimp only [R.Ps]
 refine (PF hl hC hn aY p hf).mono ?_;rintro _ w1 ⟨_,rfl,rfl,B1⟩;exact⟨_,rfl,by rw [EW],B1⟩
theorem Q6{w:World}{a:Option Addr}{c0:Nat}{rs:List Value}{l:List (Int × Bool)}(hl:Rd w a rs)(hC:Ax (Lh) l rs)(hn:l.length<=9223372036854775807){fn:FuncId}{fi ca:Array Value}(aY:enters Tryz.prog fn=true)(p:(Int × Bool)->Bool)(hf:∀ w' x c,Below w.heap.size w w'->x∈l->(Lh) x c->Calls Tryz.prog fn ⟨fi.toList++[.agg ⟨c⟩]++ca.toList⟩ w' (AD λ r aR=>r=.bool (p x)/\Below w'.heap.size w' aR)) :
  Calls Tryz.prog f.El #[.slice a l.length c0,.func (.func fn) fi ca] w (AD λ r w'=>r=.int .i64 (PE (l.findIdx? p))/\Below w.heap.size w w'):=by
 apply R.Db
 delta R.E R.F R.G R.I R.Lb R.Li R.Qi R.W R.X;try dsimp only [R.Ps]
 refine⟨λ st w1=>∃ i:Nat,st=[.int .i64 (i:Int)]/\i<=l.length/\(∀ x∈l.take i,p x=false)/\Below w.heap.size w w1,λ st _=>match st with | [.int _ t]=>l.length-t.toNat | _=>0,⟨0,rfl,by omega,by simp,.refl _ _⟩,?_⟩;rintro t w1 ⟨i,aA,hi,aC,B1⟩;cases aA;refine Aa (λ aB=>⟨⟨by omega,aB⟩,?_⟩) (λ aM=>⟨?_,B1⟩)
 ·have aE:i<l.length:=by omega
  obtain⟨q,c,rfl,hc,cell⟩:=Ei (n:=2) (λ x c h=>Xl h) (by decide) (hl.grown B1) hC aE;have cE:=hc;obtain rfl:=hc.1;refine⟨_,by rw [Ajz];exact cell 0 _ rfl,_,by rw [Ajz];exact cell 1 _ rfl,?_⟩;rw [aY];refine (hf w1 _ _ B1 (Akg aE) cE).mono ?_;rintro _ w2 ⟨_,rfl,rfl,B2⟩;refine⟨_,rfl,Ao (λ h=>⟨by rw [Ey aE aC h];rfl,Ac B1 B2⟩) (λ h=>?_)⟩;rw [Ah (by omega)];refine⟨⟨i+1,rfl,by omega,λ x hx=>?_,Ac B1 B2⟩,?_⟩
  ·rw [Akj aE] at hx;rcases Akk.1 hx with hx | hx
   ·exact aC x hx
   ·rw [Akn.1 hx];exact h
  ·show l.length-((i+1:Nat):Int).toNat<l.length-((i:Nat):Int).toNat;simp only [Ajz];omega
 ·rw [Akm (by omega)] at aC;rw [Dh aC];rfl
theorem IZ{w:World}{a:Option Addr}{c0:Nat}{rs:List Value}{l:List (Int × Bool)}(hl:Rd w a rs)(hC:Ax (Lh) l rs)(hn:l.length<=9223372036854775807){fn:FuncId}{fi ca:Array Value}(aY:enters Tryz.prog fn=true)(p:(Int × Bool)->Bool)(hf:∀ w' x c,Below w.heap.size w w'->x∈l->(Lh) x c->Calls Tryz.prog fn ⟨fi.toList++[.agg ⟨c⟩]++ca.toList⟩ w' (AD λ r aR=>r=.bool (p x)/\Below w'.heap.size w' aR)) :
  Calls Tryz.prog f.DC #[.slice a l.length c0,.func (.func fn) fi ca] w (AD λ r w'=>r=.bool (l.any p)/\Below w.heap.size w w'):=by
 apply R.CE
 delta R.Ci R.G R.S;try dsimp only [R.Ps]
 refine (Q6 hl hC hn aY p hf).mono ?_;rintro _ w1 ⟨_,rfl,rfl,B1⟩;exact⟨_,rfl,by rw [EW],B1⟩
theorem SN{w:World}{a:Option Addr}{c0:Nat}{rs:List Value}{l:List ByteArray}(hl:Rd w a rs)(hC:Ax (λ x c=>c=[.string x]) l rs)(hn:l.length<=9223372036854775807){fn:FuncId}{fi ca:Array Value}(aY:enters Tryz.prog fn=true)(p:ByteArray->Bool)(hf:∀ w' x c,Below w.heap.size w w'->x∈l->(λ x c=>c=[.string x]) x c->Calls Tryz.prog fn ⟨fi.toList++[c.headD undef]++ca.toList⟩ w' (AD λ r aR=>r=.bool (p x)/\Below w'.heap.size w' aR)) :
  Calls Tryz.prog f.EJ #[.slice a l.length c0,.func (.func fn) fi ca] w (AD λ r w'=>r=.int .i64 (PE (l.findIdx? p))/\Below w.heap.size w w'):=by
 apply R.Dy
 delta R.Ad R.F R.G R.I R.Lt R.Qi R.T R.W R.X;try dsimp only [R.Ps]
 refine⟨λ st w1=>∃ i:Nat,st=[.int .i64 (i:Int)]/\i<=l.length/\(∀ x∈l.take i,p x=false)/\Below w.heap.size w w1,λ st _=>match st with | [.int _ t]=>l.length-t.toNat | _=>0,⟨0,rfl,by omega,by simp,.refl _ _⟩,?_⟩;rintro t w1 ⟨i,aA,hi,aC,B1⟩;cases aA;refine Aa (λ aB=>⟨⟨by omega,aB⟩,?_⟩) (λ aM=>⟨?_,B1⟩)
 ·have aE:i<l.length:=by omega
  obtain⟨q,c,rfl,hc,cell⟩:=Ei (n:=1) (λ x c h=>by rw [h];rfl) (by decide) (hl.grown B1) hC aE;have cE:=hc;have fY:c=[.string l[i]]:=hc;subst fY;refine⟨_,by rw [Ajz];exact cell 0 _ rfl,?_⟩;rw [aY];refine (hf w1 _ _ B1 (Akg aE) cE).mono ?_;rintro _ w2 ⟨_,rfl,rfl,B2⟩;refine⟨_,rfl,Ao (λ h=>⟨by rw [Ey aE aC h];rfl,Ac B1 B2⟩) (λ h=>?_)⟩;rw [Ah (by omega)];refine⟨⟨i+1,rfl,by omega,λ x hx=>?_,Ac B1 B2⟩,?_⟩
  ·rw [Akj aE] at hx;rcases Akk.1 hx with hx | hx
   ·exact aC x hx
   ·rw [Akn.1 hx];exact h
  ·show l.length-((i+1:Nat):Int).toNat<l.length-((i:Nat):Int).toNat;simp only [Ajz];omega
 ·rw [Akm (by omega)] at aC;rw [Dh aC];rfl
theorem Sz{w:World}{a:Option Addr}{c0:Nat}{rs:List Value}{l:List ByteArray}(hl:Rd w a rs)(hC:Ax (λ x c=>c=[.string x]) l rs)(hn:l.length<=9223372036854775807){fn:FuncId}{fi ca:Array Value}(aY:enters Tryz.prog fn=true)(p:ByteArray->Bool)(hf:∀ w' x c,Below w.heap.size w w'->x∈l->(λ x c=>c=[.string x]) x c->Calls Tryz.prog fn ⟨fi.toList++[c.headD undef]++ca.toList⟩ w' (AD λ r aR=>r=.bool (p x)/\Below w'.heap.size w' aR)) :
  Calls Tryz.prog f.D3 #[.slice a l.length c0,.func (.func fn) fi ca] w (AD λ r w'=>r=.bool (l.any p)/\Below w.heap.size w w'):=by
 apply R.CT
 delta R.Ci R.G R.S;try dsimp only [R.Ps]
 refine (SN hl hC hn aY p hf).mono ?_;rintro _ w1 ⟨_,rfl,rfl,B1⟩;exact⟨_,rfl,by rw [EW],B1⟩
end Go.Proofs.YtegnhfeclchlmaaGreatDoor
namespace Go.Dn
set_option linter.unusedVariables false
set_option maxRecDepth 100000
theorem SH.v3{F:Nat->Prop}{w0 w:World}{H:List Ent}(S:SH F w0 w H)(n:Nat){b:Nat}{x y:Int}{s:ByteArray}{t:TypeId}(hn:H[n]?=some (b,#[.int .i64 x,.int .i64 y,.string s],t)){Q:Int->Int->ByteArray->Prop}(h:Q x y s) :
  ∃ a:Int,w.cell? ⟨b,0,none⟩=some (.int .i64 a)/\∃ c:Int,w.cell? ⟨b,1,none⟩=some (.int .i64 c)/\∃ d:ByteArray,w.cell? ⟨b,2,none⟩=some (.string d)/\Q a c d :=
 ⟨x,S.cell n hn rfl,y,S.cell n hn rfl,s,S.cell n hn rfl,h⟩
end Go.Dn
namespace Go.Proofs.YtegnhfeclchlmaaGreatDoor
set_option maxRecDepth 100000
open Go.Dn Go.Proofs
open Go.RowKit (Below)
set_option linter.unusedVariables false
/-! ### orders -/
/-! ### the laws -/
end Go.Proofs.YtegnhfeclchlmaaGreatDoor
namespace Go.Proofs.YtegnhfeclchlmaaGreatDoor
open _root_.BitVec renaming ofInt -> Ai2, ofInt_natCast -> AjE, toNat_ofNat -> AjF
open _root_.Nat renaming mod_eq_of_lt -> AjB
set_option maxRecDepth 100000
open Go.Dn Go.Proofs
open Go.RowKit (Below)
set_option linter.unusedVariables false
section
variable {w:World}{a:Option Addr}{c:Nat}
end
def Pe(n:Nat):Int:=if n % 2=1 then -((n / 2:Nat):Int)-1 else ((n / 2:Nat):Int)
theorem AeZ(n:Nat)(h:n<18446744073709551616):(Ai2 64 (n:Int) &&& Ai2 64 1).toNat=n % 2:=by
 rw [BitVec.toNat_and,AjE,AjF,AjB (by omega)];exact Nat.and_two_pow_sub_one_eq_mod n 1
theorem Aaj{n:Nat}(h:n<18446744073709551616) :
  IntKind.i64.wrap (((Ai2 64 (IntKind.i64.wrap (Int.fdiv (n:Int) (2 ^ (min 1 64)))) ^^^ Ai2 64 (IntKind.i64.wrap (0-IntKind.i64.wrap (IntKind.u64.wrap (((Ai2 64 (n:Int) &&& Ai2 64 1).toNat:Int)))))).toNat:Int))=Pe n:=by
 have e1:IntKind.i64.wrap (Int.fdiv (n:Int) (2 ^ (min 1 64)))=((n / 2:Nat):Int):=by
  rw [Int.fdiv_eq_ediv_of_nonneg _ (by decide),show (2:Int) ^ (min 1 64)=2 from rfl,wrap_i64 (by omega) (by omega)];omega
 rw [e1,AeZ n h,A8 (by omega) (by omega),wrap_i64 (n:=((n % 2:Nat):Int)) (by omega) (by omega)];unfold Pe;by_cases ho:n % 2=1
 ·rw [ho,if_pos rfl,show IntKind.i64.wrap (0-((1:Nat):Int)) = -1 by decide,show Ai2 64 (-1)=BitVec.allOnes 64 by decide,BitVec.xor_allOnes,BitVec.toNat_not,AjE,AjF,AjB (by omega),FZ];split <;> omega
 ·have:n % 2=0:=by omega
  rw [this,if_neg (by omega),show IntKind.i64.wrap (0-((0:Nat):Int))=0 by decide,show Ai2 64 0=0#64 by decide,BitVec.xor_zero,AjE,AjF,AjB (by omega),wrap_i64 (by omega) (by omega)]
def AiY(o:Option (Nat × Nat)):Value :=
 match o with
 | some x=>.tuple #[.int .i64 (Pe x.1),.int .i64 (x.2:Int),.int .i64 0]
 | none=>.tuple #[.int .i64 0,.int .i64 0,.int .i64 20]
section
variable {w:World}{a:Option Addr}{c:Nat}{l:List UInt8}
theorem LL(hl:Rd w a (l.map Af))(hc:l.length<=c)(hs:l.length<=9223372036854775807)(at_:Int):Calls Tryz.prog f.P0 #[.slice a l.length c,.int .i64 at_] w (AD λ v w'=>v=AiY (takeN l at_)/\w'=w):=by
 apply R.IV
 delta R.F3 R.H R.I R.S R.W R.Wu;try dsimp only [R.Ps]
 refine (AK hl hc hs at_).mono ?_;rintro _ w ⟨_,rfl,rfl,rfl⟩;cases ho:takeN l at_ with
 | none=>exact⟨_,_,_,rfl,rfl,rfl⟩
 | some x =>
  obtain⟨n,k⟩:=x;refine⟨_,_,_,rfl,?_,rfl⟩;rw [Aaj (Cr ho).1];rfl
/-! ### Take -/
end
section
variable {w:World}{a:Option Addr}{c:Nat}{l:List UInt8}
/-! ### Take -/
def CG(l:List UInt8)(at_:Int):Option (AW × Nat) :=
 if at_<0\/(l.length:Int)<=at_ then none else
 let k:=(l.getD at_.toNat 0).toNat
 if k=0 then some ((0,0,E0),at_.toNat+1)
 else if k=1 then (takeN l (at_+1)).map λ x=>((1,Pe x.1,E0),x.2)
 else if k=2 then (if at_+1<l.length/\(l.getD (at_.toNat+1) 0).toNat<=1 then some ((2,((l.getD (at_.toNat+1) 0).toNat:Int),E0),at_.toNat+2) else none)
 else if k=3 then (E9 l (at_+1) 1024).map λ x=>((3,0,Dz x.1),x.2)
 else none
def Aae(o:Option (AW × Nat)):Value :=
 match o with
 | some x=>.tuple #[.agg #[.int .i64 x.1.1,.int .i64 x.1.2.1,.string x.1.2.2],.int .i64 (x.2:Int),.int .i64 0]
 | none=>.tuple #[.agg #[.int .i64 0,.int .i64 0,.string E0],.int .i64 0,.int .i64 20]
theorem NP{l:List UInt8}{at_:Nat}:(∃ n k,takeN l (at_:Int)=some (n,k)/\(n=0\/n=1))↔(at_<l.length/\(l.getD at_ 0).toNat<=1):=by
 have ht:takeN l (at_:Int)=(CB 0 0 (l.drop at_)).map λ x=>(x.1,at_+x.2):=by unfold takeN;rw [if_neg (by omega)];rfl
 by_cases h:at_<l.length
 ·have hd:l.drop at_=l[at_] :: l.drop (at_+1):=List.drop_eq_getElem_cons h;have hg:l.getD at_ 0=l[at_]:=by simp [List.getD,h]
  rw [hg];generalize l[at_]=c at hd;have e:CB 0 0 (c :: l.drop (at_+1))=if c.toNat<128 then some (c.toNat,1) else CB 1 (c.toNat % 128) (l.drop (at_+1)):=by
   conv=>lhs;unfold CB
   rw [if_neg (by omega)];by_cases hc:c.toNat<128
   ·rw [if_pos hc,if_pos hc,if_neg (by omega)];simp
   ·rw [if_neg hc,if_neg hc];simp
  rw [ht,hd,e];by_cases hc:c.toNat<128
  ·rw [if_pos hc];simp only [Option.map_some,Option.some.injEq,Prod.mk.injEq];constructor
   ·rintro⟨n,k,⟨rfl,_⟩,hn⟩;exact⟨h,by omega⟩
   ·rintro⟨_,hn⟩;exact⟨_,_,⟨rfl,rfl⟩,by omega⟩
  ·rw [if_neg hc];constructor
   ·rintro⟨n,k,hs,hn⟩;obtain⟨⟨x1,x2⟩,hx,he⟩:=Option.map_eq_some_iff.1 hs;simp only [Prod.mk.injEq] at he;obtain⟨_,_,_,_,hb⟩:=Ig _ 1 _ _ _ (by omega) hx;have:=hb (by omega);omega
   ·rintro⟨_,hn⟩;omega
 ·have hd:l.drop at_=[]:=List.drop_eq_nil_of_le (by omega);rw [ht,hd];constructor
  ·rintro⟨n,k,hs,_⟩;simp [CB] at hs
  ·rintro⟨hh,_⟩;omega
theorem Abu{l:List UInt8}{at_ n k:Nat}(h:takeN l (at_:Int)=some (n,k))(hn:n=0\/n=1):n=(l.getD at_ 0).toNat/\k=at_+1:=by
 have hb:=NP.1 ⟨n,k,h,hn⟩;have ht:takeN l (at_:Int)=(CB 0 0 (l.drop at_)).map λ x=>(x.1,at_+x.2):=by unfold takeN;rw [if_neg (by omega)];rfl
 have hd:l.drop at_=l[at_] :: l.drop (at_+1):=List.drop_eq_getElem_cons hb.1;have hg:l.getD at_ 0=l[at_]:=by simp [List.getD,hb.1]
 rw [hg] at hb ⊢;rw [ht,hd] at h;unfold CB at h;rw [if_neg (by omega),if_pos (by omega),if_neg (by omega)] at h;simp at h;omega
end
end Go.Proofs.YtegnhfeclchlmaaGreatDoor
namespace Go.Dn
theorem SH.Aek{F:Nat->Prop}{w0 w:World}{H:List Ent}(S:SH F w0 w H)(n:Nat){b:Nat}{x0 x1 x2:Value}{t:TypeId}(hn:H[n]?=some (b,#[x0,x1,x2],t)){v0 v1:Int}{v2:ByteArray}{Q:Int->Int->ByteArray->World->Prop}
  (hk:∀ w',SH F w0 w' (H.set n (b,#[.int .i64 v0,.int .i64 v1,.string v2],t))->Q v0 v1 v2 w') :
  CI ⟨b,0,none⟩ (.int .i64 v0) (λ w=>CI ⟨b,1,none⟩ (.int .i64 v1) (λ w=>CI ⟨b,2,none⟩ (.string v2) (λ w=>∃ r0:Int,w.cell? ⟨b,0,none⟩=some (.int .i64 r0)/\∃ r1:Int,w.cell? ⟨b,1,none⟩=some (.int .i64 r1)/\∃ r2:ByteArray,w.cell? ⟨b,2,none⟩=some (.string r2)/\Q r0 r1 r2 w) w) w) w:=by
 have aB:=(List.getElem?_eq_some_iff.1 hn).1;exact S.Agw n hn λ w' _ S'=>S'.v3 n (List.getElem?_set_self aB) (hk w' S')
end Go.Dn
namespace Go.Proofs.YtegnhfeclchlmaaGreatDoor
open Go.Dn Go.Proofs
open Go.RowKit (Below)
set_option linter.unusedVariables false
set_option maxRecDepth 20000
section
variable {w:World}{a:Option Addr}{c:Nat}{l:List UInt8}
theorem Abx{i:Nat}(hi:i<l.length):l.getD i 0=l[i]:=by simp [List.getD,hi]
end
end Go.Proofs.YtegnhfeclchlmaaGreatDoor
namespace Go.Proofs.YtegnhfeclchlmaaGreatDoor
open _root_.Bool renaming and_eq_true -> Ai6
open _root_.Int renaming toNat_natCast -> Ajz
open _root_.List renaming all_eq_true -> AjW, getD -> Akq, getElem_mem -> Akg, length_append -> Ajk, length_cons -> AjK, length_nil -> Akp, length_take -> Ajr, mem_iff_getElem -> Akr, mem_singleton -> Akn
open _root_.Nat renaming mul_one -> AjC, sub_zero -> Aks
open _root_.Option.some renaming injEq -> AjY
open _root_.Prod.mk renaming injEq -> AjI
open _root_.UInt8 renaming ofNat -> AjA
set_option maxRecDepth 100000
open Go.Dn Go.Proofs
open Go.RowKit (Below)
set_option linter.unusedVariables false
section
variable {w:World}{a:Option Addr}{c:Nat}{l:List UInt8}
theorem KL(hl:Rd w a (l.map Af))(hc:l.length<=c)(hs:l.length<=140737488355328)(at_:Int) :
  Calls Tryz.prog f.Aal #[.slice a l.length c,.int .i64 at_] w (AD λ v w'=>v=Aae (CG l at_)/\Below w.heap.size w w'):=by
 apply R.OB
 delta R.A R.Ab R.Ad R.Age R.Aap R.F3 R.Cb R.E R.F R.H R.I R.Li R.Lt R.Ly R.N R.S R.Ae R.T R.W R.X R.Zii;try dsimp only [R.Ps]
 refine (SH.start (λ _=>False) w).Ak λ b3 w1 mf B1 S1=>?_;refine Aa (λ h=>S1.Aek 0 rfl λ w4 S4=>⟨by simp [CG,h,Aae],S4.below⟩) (λ h0=>Aa (λ h=>S1.Aek 0 rfl λ w4 S4=>⟨?_,S4.below⟩) (λ h1=>?_))
 ·unfold CG;rw [if_pos (.inr h)];rfl
 obtain⟨at_,rfl⟩:∃ k:Nat,at_=k:=⟨at_.toNat,by omega⟩;have gb:at_<l.length:=by omega
 refine⟨⟨by omega,by omega⟩,?_⟩;obtain⟨p,hp,hcell⟩:=byte_at (hl.grown B1) gb;subst hp;have hg:=Abx gb;have cE:=l[at_].toNat_lt;refine⟨_,by rw [Ajz];exact hcell,S1.N5 λ cU bm m' dC aW=>?_⟩;have iY:Rd bm (some p) (l.map Af):=hl.grown aW.below;rw [wrap_i64 (n:=(l[at_].toNat:Int)) (by omega) (by omega)] at aW;rw [wrap_i64 (n:=(at_:Int)+1) (by omega) (by omega)];have ht:CG l (at_:Int)=(if l[at_].toNat=0 then some ((0,0,E0),at_+1)
   else if l[at_].toNat=1 then (takeN l ((at_:Int)+1)).map λ x=>((1,Pe x.1,E0),x.2)
   else if l[at_].toNat=2 then (if (at_:Int)+1<l.length/\(l.getD (at_+1) 0).toNat<=1 then some ((2,((l.getD (at_+1) 0).toNat:Int),E0),at_+2) else none)
   else if l[at_].toNat=3 then (E9 l ((at_:Int)+1) 1024).map λ x=>((3,0,Dz x.1),x.2)
   else none):=by
  unfold CG;rw [if_neg (by omega),Ajz,hg]
 generalize gn:l[at_].toNat=kk at ht aW cE;refine⟨λ s cR=>∃(nx e:Int) (v:AW),s=[.int .i64 nx,.int .i64 e]/\SH (λ _=>False) w cR [(cU,#[.int .i64 v.1,.int .i64 v.2.1,.string v.2.2],ty.AX),(b3,#[.int .i64 0,.int .i64 0,.string E0],ty.AX)] /\
   (e≠0->CG l (at_:Int)=none)/\(e=0->AG v=false->CG l (at_:Int)=none)/\(e=0->AG v=true->∃ k:Nat,nx=k/\CG l (at_:Int)=some (v,k)),?_,?_⟩
 ·refine⟨_,aW.cell 0 rfl rfl,Aj (λ h=>?_) (λ n0=>Aj (λ h=>?_) (λ n1=>Aj (λ h=>?_) (λ n2=>Aj (λ h=>?_) (λ n3=>?_))))⟩
  ·have:kk=0:=by omega
   subst this;exact⟨_,_,(0,0,E0),rfl,aW,λ h=>absurd rfl h,λ _ h=>absurd h (by decide),λ _ _=>⟨at_+1,by omega,by rw [ht];simp⟩⟩
  ·have:kk=1:=by omega
   subst this;refine (LL iY hc (by omega) ((at_:Int)+1)).mono ?_;rintro _ bm ⟨_,rfl,rfl,rfl⟩;cases ho:takeN l ((at_:Int)+1) with
   | none =>
    exact⟨_,_,_,rfl,aW.BA 0 rfl (show 1<3 by decide) λ bQ aQ=>⟨_,_,(1,0,E0),rfl,aQ,λ _=>by rw [ht,ho];simp,λ h=>absurd h (by decide),λ h=>absurd h (by decide)⟩⟩
   | some x =>
    obtain⟨n,k⟩:=x;exact⟨_,_,_,rfl,aW.BA 0 rfl (show 1<3 by decide) λ bQ aQ=>⟨_,_,(1,Pe n,E0),rfl,aQ,λ h=>absurd rfl h,λ _ h=>absurd h (by simp [AG]),λ _ _=>⟨k,rfl,by rw [ht,ho];simp⟩⟩⟩
  ·have:kk=2:=by omega
   subst this;refine (AK iY hc (by omega) ((at_:Int)+1)).mono ?_;rintro _ bm ⟨_,rfl,rfl,rfl⟩;have dv:((at_:Int)+1)=((at_+1:Nat):Int):=by omega
   have jF:=NP (l:=l) (at_:=at_+1);cases ho:takeN l ((at_:Int)+1) with
   | none =>
    refine⟨_,_,_,rfl,aW.BA 0 rfl (show 1<3 by decide) λ bQ aQ=>⟨_,_,(2,IntKind.i64.wrap 0,E0),rfl,aQ,λ _=>?_,λ h=>absurd h (by decide),λ h=>absurd h (by decide)⟩⟩;rw [ht];simp only [if_neg (show ¬ (2:Nat)=0 by decide),if_neg (show ¬ (2:Nat)=1 by decide),if_true];rw [if_neg];rintro⟨q1,q2⟩;obtain⟨n,k,q3,_⟩:=jF.2 ⟨by omega,q2⟩;rw [<- dv,ho] at q3;cases q3
   | some x =>
    obtain⟨n,k⟩:=x;have hn:=(Cr ho).1;refine⟨_,_,_,rfl,aW.BA 0 rfl (show 1<3 by decide) λ bQ aQ=>⟨_,_,(2,IntKind.i64.wrap (n:Int),E0),rfl,aQ,λ h=>absurd rfl h,λ _ hf=>?_,λ _ hr=>?_⟩⟩
    ·rw [ht];simp only [if_neg (show ¬ (2:Nat)=0 by decide),if_neg (show ¬ (2:Nat)=1 by decide),if_true];rw [if_neg];rintro⟨q1,q2⟩;obtain⟨n',k',q3,q4⟩:=jF.2 ⟨by omega,q2⟩;rw [<- dv,ho] at q3;cases q3;rcases q4 with rfl | rfl
     ·exact absurd hf (by decide)
     ·exact absurd hf (by decide)
    ·have ot:n=0\/n=1:=by
      have:=DL hr;simp only at this;rw [FZ] at this;split at this <;> omega
     obtain⟨q1,q2⟩:=NP.1 ⟨n,k,dv ▸ ho,ot⟩;obtain⟨q3,q4⟩:=Abu (dv ▸ ho) ot;refine⟨k,rfl,?_⟩;rw [ht];simp only [if_neg (show ¬ (2:Nat)=0 by decide),if_neg (show ¬ (2:Nat)=1 by decide),if_true];rw [if_pos ⟨by omega,q2⟩,<- q3,wrap_i64 (by omega) (by omega),q4]
  ·have:kk=3:=by omega
   subst this;refine (GR iY hc (by omega) ((at_:Int)+1) 1024).mono ?_;rintro _ bm ⟨_,rfl,rfl,rfl⟩;cases ho:E9 l ((at_:Int)+1) 1024 with
   | none =>
    exact⟨_,_,_,rfl,aW.BA 0 rfl (show 2<3 by decide) λ bQ aQ=>⟨_,_,(3,0,E0),rfl,aQ,λ _=>by rw [ht,ho];simp,λ h=>absurd h (by decide),λ h=>absurd h (by decide)⟩⟩
   | some x =>
    obtain⟨s,k⟩:=x;have aU:s.length<=1024:=by
     unfold E9 at ho;split at ho
     ·split at ho
      ·cases ho
      ·simp only [AjY,AjI] at ho;rw [<- ho.1,Ajr];omega
     ·cases ho
    exact⟨_,_,_,rfl,aW.BA 0 rfl (show 2<3 by decide) λ bQ aQ=>⟨_,_,(3,0,Dz s),rfl,aQ,λ h=>absurd rfl h,λ _ h=>absurd h (by simp [AG,BL,aU]),λ _ _=>⟨k,rfl,by rw [ht,ho];simp⟩⟩⟩
  ·have aq:CG l (at_:Int)=none:=by rw [ht,if_neg (by omega),if_neg (by omega),if_neg (by omega),if_neg (by omega)]
   refine⟨_,_,((kk:Int),0,E0),rfl,aW,λ _=>aq,λ _ _=>aq,λ _ h=>?_⟩;exfalso;have:=DL h;simp only at this;omega
 ·rintro _ _ cR ⟨nx,e,v,eC,bN,g1,g2,g3⟩;cases eC;refine As (λ h=>bN.Aek 1 rfl λ w4 S4=>⟨by rw [g1 h];rfl,S4.below⟩) (λ h=>bN.v3 0 rfl ((BB cR v).mono ?_));rintro _ iy ⟨_,rfl,rfl,pz⟩;have gV:=bN.grown pz;refine⟨_,rfl,Ap (Ao (λ hr=>gV.v3 0 rfl (gV.Aek 1 rfl λ w4 S4=>⟨?_,S4.below⟩)) (λ hr=>gV.Aek 1 rfl λ w4 S4=>⟨by rw [g2 h hr];rfl,S4.below⟩))⟩;obtain⟨k,rfl,hk⟩:=g3 h hr;rw [hk];rfl
end
def N0(c:AA)(v:AW):Bool:=AG v && (decide (v.1=c.2.1) || (c.2.2 && decide (v.1=0)))
def Mq(cs:List AA)(row:List AW):Bool:=(cs.zip row).all λ p=>N0 p.1 p.2
def EY(cs:List AA)(row:List AW):Bool:=decide (row.length=cs.length) && Mq cs row
theorem AdH{cs:List AA}{row:List AW}{i:Nat}(h1:i<cs.length)(h2:i<row.length)(h:N0 cs[i] row[i]=false):Mq cs row=false:=by
 unfold Mq;rw [List.all_eq_false];exact⟨(cs[i],row[i]),Akr.2 ⟨i,by simp;omega,by simp⟩,by simp [h]⟩
theorem AdG{cs:List AA}{row:List AW}(h:∀ i (h1:i<cs.length) (h2:i<row.length),N0 cs[i] row[i]=true):Mq cs row=true:=by
 unfold Mq;rw [AjW];intro p hp;obtain⟨i,hi,rfl⟩:=Akr.1 hp;simp only [List.length_zip] at hi;simp only [List.getElem_zip];exact h i (by omega) (by omega)
section
variable {w:World}{a a2:Option Addr}{c c2:Nat}{cs:List AA}{row:List AW}
def AiE(c:AA):Value:=.agg #[.string c.1,.int .i64 c.2.1,.bool c.2.2]
theorem XK{L b1 b2:Nat}(hn:cs.length<=9223372036854775807)(hr:row.length=cs.length)(J:Nat->World->Prop)(D:World->Prop)(aP:∀ k w,J k w->Rd w a (AO cs)/\Rd w a2 (Ba row)/\w.cell? ⟨b2,0,none⟩=some (.slice a2 row.length c2))
  (dP:∀ k w w',J k w->Below w.heap.size w w'->J k w') (cA:∀ k w (h1:k<cs.length) (h2:k<row.length),J k w->J3 Tryz.prog L #[AiE cs[k],Agc row[k]] (λ y w'=>(y=true/\J (k+1) w')\/(y=false/\D w')) w)
  (h0:J 0 w) (hb:w.cell? ⟨b1,0,none⟩=some (.slice a cs.length c)) :
  Calls Tryz.prog f.IC #[.func (.yield L) #[] #[],.pointer (some ⟨b1,0,none⟩),.pointer (some ⟨b2,0,none⟩)] w (AD λ _ w'=>J cs.length w'\/D w'):=by
 apply R.IK
 delta R.A R.Ab R.D R.E R.F R.G R.H R.I R.Lb R.Li R.Ls R.Lt R.N R.Qi R.Ae R.T R.W R.X;try dsimp only [R.Ps]
 refine⟨_,_,_,hb,λ s w1=>∃ k:Nat,k<=cs.length/\s=[.int .i64 (k:Int)]/\J k w1,λ s _=>match s with
   | [.int _ i]=>cs.length-i.toNat
   | _=>0,⟨0,by omega,rfl,h0⟩,?_⟩
 rintro _ w1 ⟨k,hk,aA,hj⟩;cases aA;refine Aa (λ aB=>⟨⟨by omega,aB⟩,?_⟩) (λ aM=>?_)
 ·have bX:k<cs.length:=by omega
  have jJ:k<row.length:=by omega
  obtain⟨p,rfl,c0,c1,c2⟩:=Fh (aP _ _ hj).1 bX;refine⟨_,by rw [Ajz];exact c0,_,by rw [Ajz];exact c1,_,by rw [Ajz];exact c2,(ST.start w1).N5 λ b9 w5 rY S5=>S5.draw λ w6 B6 S6=>?_⟩;have pL:=dP _ _ _ hj S6.Ag;obtain⟨_,r2,r3⟩:=aP _ _ pL;obtain⟨q,rfl,d0,d1,d2⟩:=Oz r2 jJ;refine⟨_,S6.cell 0 rfl rfl,_,S6.cell 0 rfl rfl,_,S6.cell 0 rfl rfl,_,_,_,r3,⟨by omega,by omega⟩,_,by rw [Ajz];exact d0,_,by rw [Ajz];exact d1,_,by rw [Ajz];exact d2,?_⟩;rw [Ah (by omega)];have tG:cs.length-((k+1:Nat):Int).toNat<cs.length-((k:Nat):Int).toNat:=by
   simp only [Ajz];omega
  refine (cA k w6 bX jJ pL).mono ?_;rintro y w7 (⟨rfl,h⟩ | ⟨rfl,h⟩)
  ·exact AN ⟨⟨k+1,by omega,rfl,h⟩,tG⟩
  ·exact AZ (.inr h)
 ·have:k=cs.length:=by omega
  subst this;exact .inl hj
theorem PS:Calls Tryz.prog f.VQ #[.slice a cs.length c,.slice a2 row.length c2] w (AD λ v w'=>∃ b1 b2,v=.func (.func f.IC) #[] #[.pointer (some ⟨b1,0,none⟩),.pointer (some ⟨b2,0,none⟩)] /\
  ST w w' [It.cells b2 #[.slice a2 row.length c2] ty.A0,It.cells b1 #[.slice a cs.length c] ty.Bo]):=by
 apply R.LC
 delta R.J R.N R.P R.S;try dsimp only [R.Ps]
 exact (ST.start w).Ak λ b1 w1 _ _ S1=>S1.Ak λ b2 w2 _ _ S2=>⟨b1,b2,rfl,S2⟩
theorem RZ(hl:Rd w a (AO cs))(hn:cs.length<=9223372036854775807)(hr:Rd w a2 (Ba row)) :
  Calls Tryz.prog f.X9 #[.slice a cs.length c,.slice a2 row.length c2] w (AD λ r w'=>r=.bool (EY cs row)/\Below w.heap.size w w'):=by
 apply R.Nf
 delta R.A R.Ab R.Cb R.Cf R.E R.F R.G R.I R.Lb R.Li R.Lt R.N R.S R.Ae R.T;try dsimp only [R.Ps]
 refine (ST.start w).Ak λ b3 w1 _ _ S1=>As (λ h=>S1.BA 0 rfl (aD:=#[.bool false]) (by simp) rfl λ w2 S2=>⟨_,S2.cell 0 rfl rfl,?_,S2.Ag⟩) (λ hlen=>?_)
 ·have:¬ row.length=cs.length:=by omega
  simp [EY,this]
 have cL:row.length=cs.length:=by omega
 have pD:EY cs row=Mq cs row:=by simp [EY,cL]
 refine PS.mono ?_;rintro _ w3 ⟨_,rfl,b1,b2,rfl,P3⟩;have S3:=S1.join P3;refine⟨_,_,_,rfl,by kernel_rfl,λ rr aA bT hy=>?_⟩;have S4:=S3.range rr;obtain⟨L,hL⟩:∃ L,L=w3.heap.size+1:=⟨_,rfl⟩;obtain⟨d,hd⟩:∃ d,d=w3.heap.size:=⟨_,rfl⟩;rw [<- hL] at S4 hy ⊢;rw [<- hd] at S4 ⊢;let St:Obj->World->Prop:=λ o wx=>ST w wx [It.obj L o,It.obj d (.deferred (some [])),It.cells b2 #[.slice a2 row.length c2] ty.A0,It.cells b1 #[.slice a cs.length c] ty.Bo,It.cells b3 #[.bool false] ty.bool];let J:Nat->World->Prop:=λ q wx=>(∀ i (h1:i<cs.length) (h2:i<row.length),i<q->N0 cs[i] row[i]=true)/\St (.loop rr) wx;let D:World->Prop:=λ wx=>Mq cs row=false/\St (.loop { rr with state:=.done,pending:=some .ret }) wx;have aT:=XK (w:=(w3.alloc (.deferred (some []))).alloc (.loop rr)) (c:=c) (L:=L) (b1:=b1) hn cL J D (λ q wx hj=>⟨hl.grown hj.2.Ag,hr.grown hj.2.Ag,hj.2.cell 2 rfl rfl⟩) (λ q wx wy hj B=>⟨hj.1,hj.2.grown B⟩) (by
  rintro q wx h1 h2 ⟨aC,S⟩;refine hy _ _ _ _ _ _ _ wx (S.get 0 rfl) ?_;refine S.N5 λ dq w8 _ S=>S.N5 λ fx cI _ S=>S.YL 2 rfl λ bQ S=>⟨_,S.cell 0 rfl rfl,_,S.cell 0 rfl rfl,_,S.cell 0 rfl rfl,(BB bQ row[q]).mono ?_⟩;rintro _ bG ⟨_,rfl,rfl,cS⟩;have S:=S.grown cS;have Ji:N0 cs[q] row[q]=true->Bk rr L (λ y w'=>(y=true/\J (q+1) w')\/(y=false/\D w')) none bG:=λ hf=>S.Mi 2 aA bT rfl λ w' S=>.inl ⟨rfl,⟨λ i g1 g2 hi=>by
   rcases Nat.lt_or_ge i q with h | h
   ·exact aC i g1 g2 h
   ·obtain rfl:i=q:=by omega
    exact hf,S.drop 2⟩⟩
  have bad:N0 cs[q] row[q]=false->CI ⟨b3,0,none⟩ (.bool false) (λ cB=>Bk rr L (λ y w'=>(y=true/\J (q+1) w')\/(y=false/\D w')) (some .ret) cB) bG:=λ hf=>S.BA 6 rfl (aD:=#[.bool false]) (by simp) rfl λ cB S=>S.AaL 2 rfl λ w' S=>.inr ⟨rfl,⟨AdH h1 h2 hf,S.drop 2⟩⟩;refine⟨_,rfl,Ap (Ao (λ hR=>⟨_,S.cell 0 rfl rfl,_,S.cell 1 rfl rfl,?_⟩) (λ hR=>bad (by simp [N0,hR])))⟩;refine As (λ hk=>⟨_,S.cell 1 rfl rfl,Ao (λ nV=>⟨_,S.cell 0 rfl rfl,Ap (Aj (λ hz=>Ji ?_) (λ hz=>bad ?_))⟩) (λ nV=>bad ?_)⟩) (λ hk=>Ji ?_)
  ·simp [N0,hR,nV,hz]
  ·simp [N0,hR,hk,hz]
  ·simp [N0,hk,nV]
  ·simp [N0,hR,hk]) ⟨λ i _ _ h=>by omega,S4⟩ (S4.cell 3 rfl rfl)
 refine aT.mono ?_;rintro _ cR ⟨_,rfl,h⟩;refine⟨⟨_,rfl⟩,?_⟩;rcases h with ⟨aC,S⟩ | ⟨hf,S⟩
 ·refine S.Kq 0 aA bT rfl λ fR S=>.inl ⟨rfl,S.BA 4 rfl (aD:=#[.bool true]) (by simp) rfl λ fS S=>⟨S.get 1 rfl,?_⟩⟩;have S:=S.put 1 rfl (.deferred none);refine⟨_,S.cell 4 rfl rfl,?_,S.Ag⟩;rw [pD,AdG λ i h1 h2=>aC i h1 h2 h1]
 ·refine S.AaK 0 rfl λ fR S=>.inr ⟨rfl,S.get 1 rfl,?_⟩;have S:=S.put 1 rfl (.deferred none);refine⟨_,S.cell 4 rfl rfl,?_,S.Ag⟩;rw [pD,hf]
theorem RX(hl:Rd w a (AO cs))(hn:cs.length<=9223372036854775807)(hq:∀ c∈cs,c.1.size<=9223372036854775807)(hr:Rd w a2 (Ba row)) :
  Calls Tryz.prog f.X7 #[.slice a cs.length c,.slice a2 row.length c2] w (AD λ r w'=>r=.bool (Ai cs && EY cs row)/\Below w.heap.size w w'):=by
 apply R.Nc
 delta R.Cb R.F R.G R.S;try dsimp only [R.Ps]
 refine (CC hl hn hq).mono ?_;rintro _ w1 ⟨_,rfl,rfl,B1⟩;refine⟨_,rfl,Ao (λ h=>(RZ (hl.grown B1) hn (hr.grown B1)).mono ?_) (λ h=>⟨by simp [h],B1⟩)⟩;rintro _ w2 ⟨_,rfl,rfl,B2⟩;exact⟨_,rfl,by simp [h],Ac B1 B2⟩
end
def Ev(a:Option Addr)(c:Nat)(l:List UInt8):It:=It.row ty.uint8 1 a l.length c (l.map Af)
section
variable {w0 w:World}{H:List It}{a:Option Addr}{c:Nat}{l:List UInt8}
theorem Gz(S:ST w0 w H){w':World}(h:EU w w' l a c):ST w0 w' (Ev a c l :: H):=S.add h.Ag _ h.row h.new
theorem Agu(S:ST w0 w H)(n:Nat)(hn:H[n]?=some (Ev a c l)):EU w0 w l a c:=⟨S.get n hn,λ k hk=>S.own _ (List.mem_of_getElem? hn) k hk,S.Ag⟩
theorem KI(S:ST w0 w H)(n:Nat)(hn:H[n]?=some (Ev a c l)):Rd w a (l.map Af):=(Agu S n hn).rd
theorem Aeu(S:ST w0 w H)(n:Nat)(hn:H[n]?=some (Ev a c l)){m:List UInt8}{b:Option Addr}{mc:Nat}(hs:Rd w b (m.map Af))(hl:l.length+m.length<=140737488355328){f:Value->World->Prop}
  (hf:∀ a' c' w',ST w0 w' (H.set n (Ev a' c' (l++m)))->f (.slice a' (l++m).length c') w') :
  Dc Tryz.prog (Builtin.append_ #[ty.AM,ty.AM] ty.AM #[.slice a l.length c,.slice b m.length mc]) f w :=
 HG (S.get n hn) hs hl λ a' c' w' hr hk pQ=>hf a' c' w' (S.Sw n hn hk _ hr pQ)
end
def Ms(b:Bool):UInt8:=if b then 1 else 0
def KT(c:AA):List UInt8:=Es c.1++[AjA c.2.1.toNat,Ms c.2.2]
def En(cs:List AA):List UInt8:=Al cs.length++cs.flatMap KT
theorem CL{cs:List AA}(h:Ai cs=true):1<=cs.length/\cs.length<=16:=by
 simp [Ai] at h;exact h.1.1
theorem F1{cs:List AA}(h:Ai cs=true){c:AA}(hc:c∈cs):Cp c.1=true/\1<=c.2.1/\c.2.1<=3/\c.1.size<=24:=by
 simp only [Ai,Ai6,AjW] at h;have:=h.1.2 c hc;simp only [DU,Ai6,decide_eq_true_eq] at this;have hn:=this.1;simp only [Cp,Ai6,decide_eq_true_eq] at hn;exact⟨this.1,this.2.1,this.2.2,hn.2⟩
theorem Adq{c:AA}(h:c.1.size<=24):(KT c).length<=36:=by
 have:=AE (n:=c.1.size) (by omega);have:=Bs c.1;simp only [KT,Es,Ajk,AjK,Akp];omega
theorem TB{cs:List AA}(h:∀ c∈cs,c.1.size<=24):(cs.flatMap KT).length<=cs.length*36:=by
 induction cs with
 | nil=>simp
 | cons c cs ih =>
  have h1:=Adq (h c (by simp));have h2:=ih λ x hx=>h x (by simp [hx]);rw [List.flatMap_cons,Ajk,AjK];omega
theorem YY{cs:List AA}{i:Nat}(hi:i<cs.length):(cs.take (i+1)).flatMap KT=(cs.take i).flatMap KT++KT cs[i]:=by
 rw [List.take_succ_eq_append_getElem hi,List.flatMap_append];simp
theorem X5{cs:List AA}(h:Ai cs=true):(En cs).length<=600:=by
 have h1:=CL h;have:=AE (n:=cs.length) (by omega);have:=TB λ c hc=>(F1 h hc).2.2.2;simp only [En,Ajk];omega
def Aiz(l:List UInt8)(cs:List AA)(w w':World)(v:Value):Prop :=
 (Ai cs=false/\v=.tuple #[.slice none 0 0,.int .i64 50]/\Below w.heap.size w w')\/(Ai cs=true/\∃ a c,v=.tuple #[.slice a (l++En cs).length c,.int .i64 0]/\EU w w' (l++En cs) a c)
section
variable {w:World}{a a2:Option Addr}{c c2:Nat}{cs:List AA}{l:List UInt8}
theorem R0(b:Bool)(w:World):Calls Tryz.prog f.Ya #[.bool b] w (AD λ v w'=>v=.int .u8 ((Ms b).toNat:Int)/\w'=w):=by
 apply R.Ng
 delta R.B R.F;try dsimp only [R.Ps]
 exact Ao (λ h=>⟨by rw [h];rfl,rfl⟩) (λ h=>⟨by rw [h];rfl,rfl⟩)
theorem Abw(c:UInt8):Value.int .u8 (c.toNat:Int)=Af c:=rfl
theorem two_bytes{w:World}{b:Nat}{x y:Value}{t:TypeId}{u v:UInt8}(h:w.heap[b]?=some (.cells #[x,y] t (0,0)))(hx:x=Af u)(hy:y=Af v):Rd w (some ⟨b,0,none⟩) ([u,v].map Af):=by
 subst hx hy;exact Rd.Av h
theorem Ace{k:Int}(h1:1<=k)(h2:k<=3):Value.int .u8 (IntKind.u8.wrap k)=Af (AjA k.toNat):=by
 rw [DS (by omega) (by omega),<- He (x:=k.toNat) (by omega)];congr 1;omega
theorem Tg(hl:Rd w a (l.map Af))(hs:l.length+1000<=140737488355328)(aj:Rd w a2 (AO cs))(hn:cs.length<=9223372036854775807)(hq:∀ c∈cs,c.1.size<=9223372036854775807) :
  Calls Tryz.prog f.Z5 #[.slice a l.length c,.slice a2 cs.length c2] w (AD λ v w'=>Aiz l cs w w' v):=by
 apply R.Ov
 delta R.A R.Ab R.B R.Dd R.Cb R.Cs R.Cy R.D R.F R.G R.H R.I R.J R.Ks R.Lb R.Li R.Lt R.N R.O R.J2 R.S R.Ae R.T R.U R.W R.Wb R.Wu R.X;try dsimp only [R.Ps]
 refine (CC aj hn hq).mono ?_;rintro _ w1 ⟨_,rfl,rfl,B1⟩;refine⟨_,rfl,Ap (Ao (λ hR=>?_) (λ hR=>.inl ⟨hR,rfl,B1⟩))⟩;have hlen:=CL hR;have d1:=AE (n:=cs.length) (by omega);rw [A8 (by omega) (by omega)];refine (BC l (hl.grown B1) cs.length (by omega) (by omega)).mono ?_;rintro _ w2 ⟨_,rfl,je,jA,rfl,h2⟩;refine⟨_,_,_,rfl,λ s w3=>∃(i:Nat) (o:List UInt8) (oa:Option Addr) (oc:Nat),s=[.slice oa o.length oc,.int .i64 (i:Int)]/\i<=cs.length/\o=l++Al cs.length++(cs.take i).flatMap KT/\ST w w3 [Ev oa oc o],λ s _=>match s with
   | [_,.int _ i]=>cs.length-i.toNat
   | _=>0,⟨0,_,je,jA,rfl,by omega,by simp,Gz ((ST.start w).grown B1) h2⟩,?_⟩
 rintro oa _ oc _ w3 ⟨i,o,_,_,aA,hi,ho,S⟩;cases aA;have jM:o.length<=l.length+10+16*36:=by
  have:=TB (cs:=cs.take i) λ c hc=>(F1 hR (List.mem_of_mem_take hc)).2.2.2;rw [Ajr] at this;rw [ho];simp only [Ajk];omega
 refine Aa (λ aB=>⟨⟨by omega,aB⟩,?_⟩) (λ aM=>.inr ⟨hR,?_⟩)
 ·have aE:i<cs.length:=by omega
  obtain⟨hN,dz,bB,aU⟩:=F1 hR (Akg aE);obtain⟨p,rfl,c0,c1,c2⟩:=Fh (aj.grown S.Ag) aE;have hT:=AE (n:=cs[i].1.size) (by omega);have dM:=Bs cs[i].1;refine⟨_,by rw [Ajz];exact c0,_,by rw [Ajz];exact c1,_,by rw [Ajz];exact c2,S.N5 λ dq w7 _ S=>⟨_,S.cell 0 rfl rfl,?_⟩⟩;have nv:Rd w7 oa (o.map Af):=KI S 1 rfl;refine (NA o nv cs[i].1 (by omega) (by omega)).mono ?_;rintro _ w8 ⟨_,rfl,a8,c8,rfl,h8⟩;refine⟨_,_,_,_,rfl,(Gz S h8).draw λ w9 _ S=>⟨_,S.cell 1 rfl rfl,_,S.cell 1 rfl rfl,(R0 _ w9).mono ?_⟩⟩;rintro _ w9 ⟨_,rfl,rfl,rfl⟩;refine⟨_,rfl,S.cell 1 rfl rfl,S.Ak λ tT bm _ _ S=>?_⟩;refine Aeu (m:=[AjA cs[i].2.1.toNat,Ms cs[i].2.2]) S 1 rfl (two_bytes (S.Bu 0 rfl) (Ace dz bB) (Abw _)) (by simp only [Es,Ajk,AjK,Akp];omega) λ a12 ob cI S=>⟨_,_,_,rfl,?_⟩;rw [Ah (by omega)];refine⟨⟨i+1,_,a12,ob,rfl,by omega,?_,S.sub (by simp)⟩,?_⟩
  ·rw [YY aE,ho];simp [KT]
  ·show cs.length-((i+1:Nat):Int).toNat<cs.length-((i:Nat):Int).toNat;simp only [Ajz];omega
 ·rw [List.take_of_length_le (by omega)] at ho;have:o=l++En cs:=by rw [ho];simp [En]
  subst this;exact⟨oa,oc,rfl,Agu S 0 rfl⟩
end
def AgB(n wd:Int):Prop:=0<=n/\n<=4096/\0<=wd/\wd<=64
instance (n wd:Int):Decidable (AgB n wd):=by unfold AgB;infer_instance
def Air(l:List UInt8)(n wd:Nat):Prop:=l.length=Agt n wd/\Aig (Af9 l n wd) wd=l
instance (l:List UInt8) (n wd:Nat):Decidable (Air l n wd):=by unfold Air;infer_instance
theorem AdO{l:List UInt8}{j:Nat}(h:j<l.length):l.getD j 0=l[j]:=by simp [h]
section
variable {w:World}{a:Option Addr}{c:Nat}{l:List UInt8}
end
section
variable {w:World}{a:Option Addr}{c:Nat}{l:List UInt8}
end
theorem Yk{l:List UInt8}{at_:Int}{most:Nat}{s:List UInt8}{k:Nat}(h:E9 l at_ most=some (s,k)):k<=l.length:=by
 unfold E9 at h;split at h
 ·rename_i x hx;have hb:=Cr (n:=x.1) (k:=x.2) hx;split at h
  ·cases h
  ·simp only [AjY,AjI] at h;omega
 ·cases h
section
variable {w0 w:World}{a:Option Addr}{c:Nat}{l:List UInt8}
end
theorem VR(x:BitVec 32)(w:World)(b:Nat)(t:TypeId)(hb:w.heap[b]?=some (.cells #[.int .u8 (IntKind.u8.wrap (x.toNat:Int)),.int .u8 (IntKind.u8.wrap ((Int.fdiv (x.toNat:Int) (2 ^ (min 8 32))))),.int .u8 (IntKind.u8.wrap ((Int.fdiv (x.toNat:Int) (2 ^ (min 16 32))))),.int .u8 (IntKind.u8.wrap ((Int.fdiv (x.toNat:Int) (2 ^ (min 24 32)))))] t (0,0))) :
  Rd w (some ⟨b,0,none⟩) ((Af3 x).map Af):=by
 have:=Rd.Av hb;rw [Ym,LJ,LJ,LJ] at this;exact this
section
variable {w:World}{a:Option Addr}{c:Nat}{l:List UInt8}
end
section
variable {w:World}{a:Option Addr}{c:Nat}{l:List UInt8}
theorem QK{a2:Option Addr}{c2:Nat}{m:List UInt8}(hl:Rd w a (l.map Af))(hm:Rd w a2 (m.map Af)) :
  Calls Tryz.prog f.Wz #[.slice a l.length c,.slice a2 m.length c2] w (AD λ v w'=>w'=w/\v=.bool (decide (l=m))):=by
 apply R.Ma
 delta R.G R.Rt R.S;try dsimp only [R.Ps]
 refine BH LI rfl hl ⟨_,rfl,BH LI rfl hm ⟨_,rfl,rfl,?_⟩⟩;rw [Aw];congr 1;rw [decide_eq_decide];exact⟨λ h=>by have:=congrArg bl h;rwa [CM,CM] at this,λ h=>by rw [h]⟩
theorem AaT(hl:Rd w a (l.map Af))(h0:0<l.length):∃ p,a=some p/\w.cell? p=some (.int .u8 ((l.getD 0 0).toNat:Int)):=by
 obtain⟨p,hp,hc⟩:=byte_at hl h0;refine⟨p,hp,?_⟩;rw [Nat.zero_mul,EO] at hc;rw [hc,AdO h0]
end
theorem Agy:LO Tryz.prog ty.ET=some (ty.AX,3,32,.agg #[.int .i64 0,.int .i64 0,.string ⟨#[]⟩]):=by kernel_rfl
structure RdN(w w':World)(a:Option Addr)(xs:List Value):Prop where
 rd:Rd w' a xs
 new:∀ k,BX a=some k->w.heap.size<=k
theorem RdN.grown{w w' w2:World}{a:Option Addr}{xs:List Value}(h:RdN w w' a xs)(B:Below w'.heap.size w' w2):RdN w w2 a xs:=⟨h.rd.grown B,h.new⟩
abbrev Z0:AW:=(0,0,E0)
def zmm(_:List AW):AW × AW:=(Z0,Z0)
def zC(n:Int)(p:AW × AW):Array Value:=#[.int .i64 n,.int .i64 p.1.1,.int .i64 p.1.2.1,.string p.1.2.2,.int .i64 p.2.1,.int .i64 p.2.2.1,.string p.2.2.2]
def zV(n:Int)(p:AW × AW)(e:Int):Value:=.tuple #[.agg (zC n p),.int .i64 e]
def OE(ls:List AW):Prop:=ls.length<=1024/\∀ v∈ls,AG v=true
def AhS(ls:List AW)(r:Value):Prop:=(OE ls/\r=zV (Dv ls:Int) (zmm ls) 0)\/(¬ OE ls/\r=zV 0 (Z0,Z0) 2)
structure BS(kind:Int)(ls:List AW):Prop where
 right:ED kind ls=true
 ok:∀ v∈ls,F5 v
 none:ls=[]
theorem BS.len{kind:Int}{ls:List AW}(h:BS kind ls):ls.length<=1024:=by rw [h.none];simp
theorem BS.kind{kind:Int}{ls:List AW}(h:BS kind ls):1<=kind/\kind<=3:=by
 have:=h.right;simp [ED] at this;omega
theorem BS.all{kind:Int}{ls:List AW}(h:BS kind ls):∀ v∈ls,okV kind v=true:=by rw [h.none];simp
def Gb(kind:Int):List UInt8:=[AjA kind.toNat]++Al 0++Al 0
structure ID(kind:Int)(ls:List AW)(b:List UInt8):Prop where
 ex:b=Gb kind++Af3 (crc (Gb kind))
theorem ID.one{kind:Int}{ls:List AW}{b c:List UInt8}(h:ID kind ls b)(h':ID kind ls c):b=c:=by rw [h.ex,h'.ex]
theorem AaE:Al 0=[0]:=by
 unfold Al;rfl
theorem Ec(k:Int):Gb k=[AjA k.toNat,0,0]:=by rw [Gb,AaE];rfl
theorem ID.seven{k:Int}{ls:List AW}{b:List UInt8}(h:ID k ls b):b.length=7:=by rw [h.ex,Ec];rfl
theorem ID.Ad4{k k':Int}{ls fq:List AW}{b:List UInt8}(h:ID k ls b)(h':ID k' fq b)(g:BS k ls)(g':BS k' fq):k=k':=by
 have e:=h.ex.symm.trans h'.ex;rw [Ec,Ec] at e;have e0:AjA k.toNat=AjA k'.toNat:=by simpa using congrArg (λ l:List UInt8=>l.head?) e
 have h1:=g.kind;have h2:=g'.kind;have:=congrArg UInt8.toNat e0;simp at this;omega
def ChV(kind:Int)(ls:List AW)(w w':World)(r:Value):Prop :=
 (ED kind ls=false/\r=.tuple #[.slice none 0 0,.int .i64 2]/\Below w.heap.size w w')\/(ED kind ls=true/\∃ b a c,ID kind ls b/\r=.tuple #[.slice a b.length c,.int .i64 0]/\EU w w' b a c)
section
variable {w:World}{a:Option Addr}{c:Nat}{ls:List AW}
theorem Iq(kind:Int)(h0:ls=[]):Calls Tryz.prog f.UM #[.int .i64 kind,.slice a ls.length c] w (AD λ v w'=>ChV kind ls w w' v):=by
 subst h0;apply R.KR
 delta R.A R.Ab R.B R.Dd R.Cb R.Cs R.Cv R.F R.G R.H R.I R.J R.Ks R.Li R.Lt R.N R.O R.AhN R.S R.Ae R.T R.U R.W R.Wb R.Wu R.X R.Zb R.Zs;try dsimp only [R.Ps]
 refine (QO (a:=a) (c:=c) (ls:=[]) kind (Rd.nil _ _) (by simp)).mono ?_;rintro _ w1 ⟨_,rfl,rfl,B1⟩;refine⟨_,rfl,Ap (Ao (λ hr=>?_) (λ hr=>.inl ⟨hr,rfl,B1⟩))⟩;have hk:1<=kind/\kind<=3:=BS.kind ⟨hr,by simp,rfl⟩;refine⟨λ s w2=>s=[.slice none 0 0,.int .i64 0,.int .i64 0]/\w2=w1,λ _ _=>0,⟨rfl,rfl⟩,?_⟩;rintro ba bl bc n i w2 ⟨aA,rfl⟩;cases aA;refine Aa (λ h=>by simp at h) (λ _=>?_);rw [DS (by omega) (by omega)];refine (SH.start (λ _=>False) w2).Ak λ eY bm me dC aW=>?_;have ky:=Ac B1 dC;have mR:Rd bm (some ⟨eY,0,none⟩) ([AjA kind.toNat].map Af):=by
  have:=Rd.Av (aW.get 0 rfl);have e:Value.int .u8 kind=Af (AjA kind.toNat):=by
   have:=He (x:=kind.toNat) (by omega);rw [<- this];congr 1;omega
  simpa [e] using this
 have w0:IntKind.u64.wrap 0=((0:Nat):Int):=by decide
 refine (BC (c:=1) [AjA kind.toNat] mR 0 (by omega) (by simp)).mono ?_;rintro _ cI ⟨_,rfl,a12,ob,rfl,jC⟩;refine⟨_,_,_,rfl,(BC _ jC.rd 0 (by omega) (by rw [AaE];simp)).mono ?_⟩;rintro _ bQ ⟨_,rfl,j8,j9,rfl,mB⟩;have jb:=Ac ky jC.Ag;have gC:=mB.before jb;have k4:[AjA kind.toNat]++Al 0++Al 0=Gb kind:=rfl;rw [k4] at gC ⊢;have gp:(Gb kind).length=3:=by rw [Ec];rfl
 refine⟨_,_,_,rfl,λ s cM=>s=[.slice j8 (Gb kind).length j9]/\cM=bQ,?_,?_⟩
 ·refine⟨λ s bG=>s=[.bool false]/\bG=bQ,Aa (λ h=>by simp at h) (λ _=>⟨rfl,rfl⟩),?_⟩;rintro _ bG ⟨aA,rfl⟩;cases aA;exact AN ⟨rfl,rfl⟩
 rintro ab _ cb cM ⟨aA,rfl⟩;cases aA;refine⟨λ s cR=>s=[.slice j8 (Gb kind).length j9]/\cR=cM,Aa (λ h=>by simp at h) (λ _=>⟨rfl,rfl⟩),?_⟩;rintro ab _ cb fS ⟨aA,rfl⟩;cases aA;refine (SH.start (λ _=>False) fS).Ak λ qe jX rW lg ey=>?_;have hS:=Yw (w:=jX) (a:=some ⟨qe,0,none⟩) (c:=1) [(j8,j9,Gb kind)] (by
  have:=Rd.Av (ey.get 0 rfl);simpa [C1] using this) (by
  intro p hp;rw [Akn.1 hp];exact gC.rd.grown lg) (by simp) (by
  intro p hp;rw [Akn.1 hp];simp only;omega)
 refine hS.mono ?_;rintro _ iy ⟨_,rfl,rfl,rfl⟩;have ef:([(j8,j9,Gb kind)]:List Io).flatMap (·.2.2)=Gb kind:=by simp
 rw [ef];refine⟨_,rfl,(SH.start (λ _=>False) iy).Ak λ oX jY rX oK cd=>?_⟩;have hR:=VR (crc (Gb kind)) jY oX _ (cd.get 0 rfl);have rF:=(gC.grown lg).grown oK;exact HG (m:=Af3 (crc (Gb kind))) rF.row hR (by simp [Af3];omega) λ a24 qp iC qK qB qC=>⟨_,_,_,rfl,.inr ⟨hr,_,a24,qp,⟨rfl⟩,rfl,gC.Adk (Ac lg oK) qK qB qC⟩⟩
theorem Kk(h0:ls=[]):Calls Tryz.prog f.YU #[.slice a ls.length c] w (AD λ v w'=>AhS ls v/\Below w.heap.size w w'):=by
 subst h0;apply R.NQ
 delta R.A R.Ab R.Cb R.Cf R.Ci R.E R.F R.H R.I R.Li R.Lt R.N R.Qi R.S R.Ae R.T R.W R.X R.Z;try dsimp only [R.Ps]
 refine (ST.start w).Ak λ b2 w1 _ _ S1=>Aa (λ h=>by simp at h) (λ _=>S1.Ak λ dD w9 _ _ S9=>S9.Af0 0 rfl λ cZ cN=>?_);refine⟨λ s cM=>s=[.int .i64 0]/\cM=cZ,λ _ _=>0,⟨rfl,rfl⟩,?_⟩;rintro i cM ⟨aA,rfl⟩;cases aA;refine Aa (λ h=>by simp at h) (λ _=>cN.Ak λ tU iz _ _ lh=>lh.BA 0 rfl (aD:=#[.int .i64 0]) (by simp) rfl λ jZ qM=>?_);have full:Calls Tryz.prog f.YV #[.slice a 0 c] jZ (AD λ v w'=>∃ b,v=.func (.func f.Kl) #[] #[.pointer (some ⟨b,0,none⟩)]/\ST jZ w' [It.cells b #[.slice a 0 c] ty.ET]):=by
  apply R.NR
  delta R.J R.N R.P R.S;try dsimp only [R.Ps]
  exact (ST.start jZ).Ak λ b1 w1 _ _ S1=>⟨b1,rfl,S1⟩
 refine full.mono ?_;rintro _ ld ⟨_,rfl,bI,rfl,qH⟩;have qN:=qM.join qH;refine⟨_,_,_,rfl,by kernel_rfl,λ rr aA bT hy=>?_⟩;have oQ:=qN.range rr;have oA:∀ {w} {L:Nat},w.cell? ⟨bI,0,none⟩=some (.slice a 0 c)->Calls Tryz.prog f.Kl #[.func (.yield L) #[] #[],.pointer (some ⟨bI,0,none⟩)] w (AD λ r w'=>r=.tuple #[]/\w'=w):=by
  intro w L hc;apply R.J5
  delta R.A R.Ab R.E R.F R.H R.I R.Li R.Ls R.Lt R.N R.Qi R.Ae R.T R.W R.X;try dsimp only [R.Ps]
  refine⟨_,_,_,hc,λ s w1=>s=[.int .i64 0]/\w1=w,λ _ _=>0,⟨rfl,rfl⟩,?_⟩;rintro i w1 ⟨aA,rfl⟩;cases aA;exact Aa (λ h=>by simp at h) (λ _=>⟨rfl,rfl⟩)
 refine (oA (oQ.cell 2 rfl rfl)).mono ?_;rintro _ tJ ⟨_,rfl,rfl,rfl⟩;refine⟨⟨_,rfl⟩,oQ.Kq 0 aA bT rfl λ tK oR=>⟨rfl,_,oR.cell 3 rfl rfl,oR.BA 4 rfl (aD:=#[.int .i64 0,.int .i64 0,.int .i64 0,.string ⟨#[]⟩,.int .i64 0,.int .i64 0,.string ⟨#[]⟩]) (by simp) rfl λ oH eX=>?_⟩⟩;refine⟨_,eX.cell 4 rfl rfl,_,eX.cell 4 rfl rfl,_,eX.cell 4 rfl rfl,_,eX.cell 4 rfl rfl,_,eX.cell 4 rfl rfl,_,eX.cell 4 rfl rfl,_,eX.cell 4 rfl rfl,eX.Af0 5 rfl λ pw lB=>⟨lB.get 1 rfl,?_⟩⟩;have fA:=lB.put 1 rfl (.deferred none);exact⟨_,fA.cell 5 rfl rfl,_,fA.cell 5 rfl rfl,_,fA.cell 5 rfl rfl,_,fA.cell 5 rfl rfl,_,fA.cell 5 rfl rfl,_,fA.cell 5 rfl rfl,_,fA.cell 5 rfl rfl,.inl ⟨⟨by simp,by simp⟩,rfl⟩,fA.Ag⟩
end
/-! ### the way back -/
def Aix(l:List UInt8)(w w':World)(v:Value):Prop :=
 ∃(K:Int) (ls:List AW) (a:Option Addr) (c:Nat) (e:Int),v=.tuple #[.int .i64 K,.slice a ls.length c,.int .i64 e]/\RdN w w' a (Ba ls)/\Below w.heap.size w w'/\ls.length<=4096 /\
  ((BS K ls/\ID K ls l/\e=0/\∀ K' fq,BS K' fq->ID K' fq l->K'=K/\fq=ls)\/((∀ K' fq,BS K' fq->¬ ID K' fq l)/\K=0/\ls=[]/\e=80))
theorem tU0:LO Tryz.prog ty.Ac0=some (ty.uint64,1,8,.int .u64 0):=by kernel_rfl
section
variable {w:World}{a:Option Addr}{c:Nat}{l:List UInt8}
theorem QN(K:Int)(hK:1<=K/\K<=3)(he:l=Gb K)(hl:Rd w a (l.map Af))(hc:l.length<=c) :
  Calls Tryz.prog f.YW #[.slice a l.length c] w (AD λ v w'=>∃ a1,v=.tuple #[.int .i64 K,.slice a1 0 0,.bool true]/\RdN w w' a1 []/\Below w.heap.size w w'):=by
 have h3:l.length=3:=by rw [he,Ec];rfl
 have hk:((l.getD 0 0).toNat:Int)=K:=by rw [he,Ec];simp;omega
 have t1:takeN l 1=some (0,2):=by rw [he,Ec];rfl
 have t2:takeN l 2=some (0,3):=by rw [he,Ec];rfl
 apply R.NS
 delta R.Ad R.Pj R.AcT R.Dd R.F3 R.D R.F R.G R.H R.I R.Ly R.O R.Qi R.Rs R.S R.Ae R.U R.W R.Wu R.X R.Y R.AhR;try dsimp only [R.Ps]
 refine Aa (λ h=>by omega) (λ _=>?_);refine (AK hl hc (by omega) 1).mono ?_;rintro _ w ⟨_,rfl,rfl,rfl⟩;rw [t1];refine⟨_,_,_,rfl,(AK hl hc (by omega) 2).mono ?_⟩;rintro _ w ⟨_,rfl,rfl,rfl⟩;rw [t2];refine⟨_,_,_,rfl,As (λ h=>absurd rfl h) (λ _=>As (λ h=>absurd rfl h) (λ _=>Aa (λ h=>by simp at h) (λ _=>Aa (λ h=>by simp at h) (λ _=>?_))))⟩;refine MJ tU0 (l:=0) (c:=0) (by omega) (by omega) (by omega) (by omega) λ bo w3 lM B3 u6=>?_;refine⟨_,_,_,rfl,λ s w8=>s=[.int .i64 3,.int .i64 0,.slice (some ⟨bo,0,none⟩) 0 0]/\w8=w3,Aj (λ _=>⟨rfl,rfl⟩) (λ h=>absurd rfl h),?_⟩;rintro _ e ab _ cb w8 ⟨aA,rfl⟩;cases aA;refine (SH.start (λ _=>False) w8).Adt λ w9 B9 _=>⟨⟨by omega,by omega⟩,?_⟩;have C9:=Ac B3 B9;obtain⟨p,rfl,hcell⟩:=AaT (hl.grown C9) (by omega);refine⟨⟨by omega,by omega,by omega⟩,_,hcell,?_⟩;rw [hk,wrap_i64 (n:=K) (by omega) (by omega)];have hD:Calls Tryz.prog f.SC #[.int .i64 K,.slice (BD (some p) 3 c 1) (l.length-3) (c-3),.int .i64 0] w9 (AD λ v w'=>v=.tuple #[.slice none 0 0,.bool true]/\w'=w9):=by
  apply R.J4
  delta R.Ad R.Dd R.F R.G R.H R.I R.J R.Ks R.Li R.Lt R.N R.O R.J2 R.S R.T R.W R.X;try dsimp only [R.Ps]
  refine Aj (λ _=>?_) (λ h=>absurd rfl h);rw [h3];exact⟨rfl,rfl⟩
 refine hD.mono ?_;rintro _ dJ ⟨_,rfl,rfl,rfl⟩;refine⟨_,_,_,_,rfl,As (λ h=>absurd rfl h) (λ _=>Ap (Ao (λ _=>?_) (λ h=>by cases h)))⟩;have hS:Calls Tryz.prog f.UN #[.slice (some ⟨bo,0,none⟩) 0 0,.slice none 0 0] dJ (AD λ v w'=>∃ b,v=.tuple #[.slice (some ⟨b,0,none⟩) 0 0,.bool true]/\dJ.heap.size<=b/\Below dJ.heap.size dJ w'/\Rd w' (some ⟨b,0,none⟩) []):=by
  apply R.KS
  delta R.Ad R.F R.G R.H R.I R.Li R.Lt R.Lu R.O R.Qii R.Rs R.S R.Ae R.T R.W R.X;try dsimp only [R.Ps]
  refine MJ Agy (l:=0) (c:=0) (by omega) (by omega) (by omega) (by omega) λ b w1 hb B1 mS=>?_;refine⟨_,_,_,rfl,λ s w2=>s=[.int .i64 0,.int .i64 0]/\w2=w1,λ _ _=>0,⟨rfl,rfl⟩,?_⟩;rintro _ _ w2 ⟨aA,rfl⟩;cases aA;exact Aa (λ h=>by simp at h) (λ _=>⟨b,rfl,hb,B1,Rd.nil _ _⟩)
 refine hS.mono ?_;rintro _ bm ⟨_,rfl,b,rfl,hb,dC,qJ⟩;have ky:=Ac C9 dC;obtain⟨p',gM,hcell'⟩:=AaT (hl.grown ky) (by omega);cases gM;refine⟨_,_,_,_,rfl,⟨by omega,by omega⟩,_,hcell',?_⟩;rw [hk,wrap_i64 (n:=K) (by omega) (by omega)];exact⟨some ⟨b,0,none⟩,rfl,⟨qJ,λ k hk=>by cases hk;exact Nat.le_trans C9.size hb⟩,ky⟩
theorem Po{K:Int}(hg:BS K [])(hC:ID K [] l)(hl:Rd w a (l.map Af))(hc:l.length<=c) :
  Calls Tryz.prog f.UL #[.slice a l.length c] w (AD λ v w'=>Aix l w w' v):=by
 have hs:=hC.seven;apply R.KQ
 delta R.Aao R.Dd R.Cb R.F R.H R.I R.O R.S R.W R.Y;try dsimp only [R.Ps]
 refine Aa (λ h=>by omega) (λ aM=>?_);rw [wrap_i64 (n:=(l.length:Int)-4) (by omega) (by omega),show ((l.length:Int)-4).toNat=l.length-4 by omega];refine⟨⟨by omega,by omega,by omega⟩,?_⟩;have dU:=hl.YA 0 (l.length-4) c 1 (by omega);rw [AjC,Aks,AjC,List.drop_zero,<- List.map_take] at dU;have aB:(l.take (l.length-4)).length=l.length-4:=by rw [Ajr];omega
 have he:l.take (l.length-4)=Gb K:=by
  rw [hC.ex,Ec];rfl
 have hR:=QN (c:=c) K hg.kind he dU (by omega);rw [aB] at hR;rw [Aks,Aks];refine hR.mono ?_;rintro _ w1 ⟨_,rfl,a1,rfl,R1,B1⟩;refine⟨_,_,_,_,_,rfl,(Iq (a:=a1) (c:=0) (ls:=[]) K rfl).mono ?_⟩;rintro _ w2 ⟨_,rfl,h2⟩;rcases h2 with ⟨hr,_⟩ | ⟨_,b2,a2,c2,hI,rfl,N2⟩
 ·rw [hg.right] at hr;cases hr
 have C2:=Ac B1 N2.Ag;refine⟨_,_,_,_,rfl,Ap (Ao (λ _=>?_) (λ aZ=>by cases aZ))⟩;refine As (λ h=>absurd rfl h) (λ _=>(QK N2.rd (hl.grown C2)).mono ?_);rintro _ w3 ⟨_,rfl,rfl,rfl⟩;refine⟨_,rfl,Ap (Aa (λ he=>?_) (λ he=>absurd (hI.one hC) he))⟩;exact⟨K,[],a1,0,0,rfl,R1.grown N2.Ag,C2,by simp,.inl ⟨hg,hC,rfl,λ K' fq g' h'=>⟨h'.Ad4 hC g' hg,g'.none⟩⟩⟩
end
def AP(a:Option Addr)(c:Nat)(cs:List AA):It:=It.row ty.Bt 3 a cs.length c (AO cs)
theorem Yj:LO Tryz.prog ty.Bo=some (ty.Bt,3,32,.agg #[.string ⟨#[]⟩,.int .i64 0,.bool false]):=by kernel_rfl
section
variable {w0 w:World}{H:List It}{a:Option Addr}{c:Nat}{cs:List AA}
theorem Aim(S:ST w0 w H)(n:Nat)(hn:H[n]?=some (AP a c cs)):Rd w a (AO cs):=S.rd n hn
theorem Ahq(S:ST w0 w H)(n:Nat)(hn:H[n]?=some (AP a c cs)){x:AA}{b:Nat}(hs:Rd w (some ⟨b,0,none⟩) (Hi x))(hl:cs.length+1<=1000000){f:Value->World->Prop}
  (hf:∀ a' c' w',ST w0 w' (H.set n (AP a' c' (cs++[x])))->f (.slice a' (cs++[x]).length c') w') :
  Dc Tryz.prog (Builtin.append_ #[ty.Bo,ty.Bo] ty.Bo #[.slice a cs.length c,.slice (some ⟨b,0,none⟩) 1 1]) f w:=by
 refine S.app n hn Yj rfl (by omega) (by omega) hs (mm:=1) rfl (by simp [Hi];exact⟨rfl,rfl,rfl⟩) (by omega) λ a' c' w' S'=>?_;have e1:(cs++[x]).length=cs.length+1:=by simp
 have e2:AO cs++Hi x=AO (cs++[x]):=by simp [AO]
 rw [e2] at S';have:=hf a' c' w' (by unfold AP;rw [e1];exact S');rwa [e1] at this
end
def Cd(l:List UInt8)(at_:Nat):Nat->Option (List AA × Nat)
 | 0=>some ([],at_)
 | n+1=>match E9 l (at_:Int) 24 with
  | none=>none
  | some x=>if l.length-x.2<2\/1<(l.getD (x.2+1) 0).toNat then none else
   (Cd l (x.2+2) n).map λ r=>((Dz x.1,((l.getD x.2 0).toNat:Int),(l.getD (x.2+1) 0).toNat==1) :: r.1,r.2)
def Em(l:List UInt8)(at_:Int):Option (List AA × Nat) :=
 match takeN l at_ with
 | none=>none
 | some x=>if 16<x.1 then none else match Cd l x.2 x.1 with
  | none=>none
  | some r=>if Ai r.1 then some r else none
theorem AcD{l:List UInt8}{at_:Int}{most:Nat}{s:List UInt8}{k:Nat}(h:E9 l at_ most=some (s,k)):s.length<=l.length:=by
 unfold E9 at h;split at h
 ·split at h
  ·cases h
  ·simp only [AjY,AjI] at h;obtain⟨rfl,_⟩:=h;rw [Ajr,List.length_drop];omega
 ·cases h
def Wo(o:Option (List AA × Nat))(w w':World)(v:Value):Prop :=
 match o with
 | none=>v=.tuple #[.slice none 0 0,.int .i64 0,.int .i64 52]/\Below w.heap.size w w'
 | some r=>∃ a c,v=.tuple #[.slice a r.1.length c,.int .i64 (r.2:Int),.int .i64 0]/\ST w w' [AP a c r.1]
theorem Wo.bad{o:Option (List AA × Nat)}{w w':World}(h:o=none)(B:Below w.heap.size w w'):Wo o w w' (.tuple #[.slice none 0 0,.int .i64 0,.int .i64 52]):=by
 subst h;exact⟨rfl,B⟩
section
variable {w:World}{a:Option Addr}{c:Nat}{l:List UInt8}
theorem TA(hl:Rd w a (l.map Af)){k:Nat}(h:2<=l.length-k):∃ p,a=some p/\w.cell? (p.add (k*1))=some (.int .u8 ((l.getD k 0).toNat:Int))/\w.cell? (p.add ((k+1)*1))=some (.int .u8 ((l.getD (k+1) 0).toNat:Int)):=by
 have h1:k<l.length:=by omega
 have h2:k+1<l.length:=by omega
 obtain⟨p,rfl,c1⟩:=byte_at hl h1;obtain⟨p',hp,c2⟩:=byte_at hl h2;cases hp;exact⟨p,rfl,by rw [c1];simp [Akq,h1],by rw [c2];simp [Akq,h2]⟩
theorem RY(hl:Rd w a (l.map Af))(hc:l.length<=c)(hs:l.length<=140737488355328)(at_:Int) :
  Calls Tryz.prog f.X8 #[.slice a l.length c,.int .i64 at_] w (AD λ v w'=>Wo (Em l at_) w w' v):=by
 apply R.Nd
 delta R.Ad R.Aap R.F3 R.Cb R.D R.F R.G R.H R.I R.J R.Ks R.Ly R.N R.O R.AhM R.S R.T R.U R.W R.Wu R.X;try dsimp only [R.Ps]
 refine (AK hl hc (by omega) at_).mono ?_;rintro _ w1 ⟨_,rfl,rfl,rfl⟩;cases hx:takeN l at_ with
 | none=>exact⟨_,_,_,rfl,As (λ _=>.bad (by simp [Em,hx]) (.refl _ _)) (λ h=>by cases h)⟩
 | some x =>
  obtain⟨n,at0⟩:=x;obtain⟨hn,_,_,gd,_⟩:=Cr hx;refine⟨_,_,_,rfl,As (λ h=>absurd rfl h) (λ _=>Aa (λ h=>.bad ?_ (.refl _ _)) (λ lI=>?_))⟩
  ·have:16<n:=by simp only at h;omega
   simp [Em,hx,this]
  have rC:n<=16:=by simp only at lI;omega
  have hT:Em l at_=match Cd l at0 n with
   | none=>none
   | some r=>if Ai r.1 then some r else none:=by
   have:¬ 16<n:=by omega
   simp [Em,hx,this]
  rw [hT];refine⟨λ s w2=>∃(i cD:Nat) (cs:List AA) (ca:Option Addr) (cc:Nat),s=[.int .i64 (cD:Int),.slice ca cs.length cc,.int .u64 (i:Int)]/\i<=n/\cs.length=i/\cD<=l.length/\(∀ c∈cs,c.1.size<=9223372036854775807) /\
    Cd l at0 n=((Cd l cD (n-i)).map λ r=>(cs++r.1,r.2))/\ST w1 w2 [AP ca cc cs],λ s _=>match s with
   | [_,_,.int _ i]=>n-i.toNat
   | _=>0,⟨0,at0,[],none,0,rfl,by omega,rfl,by omega,by simp,by simp,(ST.start w1).nil _ _⟩,?_⟩
  rintro _ ca _ cc _ w2 ⟨i,cD,cs,_,_,aA,hi,gE,gb,hq,ay,S⟩;cases aA;refine Aa (λ aB=>?_) (λ aM=>?_)
  ·obtain⟨m,hm⟩:∃ m,n-i=m+1:=⟨n-i-1,by simp only at aB;omega⟩;rw [hm] at ay;have bC:=hl.grown S.Ag;refine (GR bC hc (by omega) (cD:Int) 24).mono ?_;rintro _ w3 ⟨_,rfl,rfl,rfl⟩;cases ht:E9 l (cD:Int) 24 with
   | none =>
    refine⟨_,_,_,rfl,As (λ _=>.bad ?_ S.Ag) (λ h=>by cases h)⟩;rw [ay];simp [Cd,ht]
   | some x =>
    obtain⟨nm,k⟩:=x;have hk:=Yk ht;have jL:=AcD ht;refine⟨_,_,_,rfl,As (λ h=>absurd rfl h) (λ _=>?_)⟩;simp only;rw [wrap_i64 (n:=(l.length:Int)-(k:Int)) (by omega) (by omega),Ah (k:=k) (by omega)];refine Aa (λ h2=>.bad ?_ S.Ag) (λ h2=>?_)
    ·rw [ay];have:l.length-k<2:=by omega
     simp [Cd,ht,this]
    obtain⟨p,rfl,d0,d1⟩:=TA bC (k:=k) (by omega);refine⟨⟨by omega,by omega⟩,_,by rw [Ajz];exact d1,Aa (λ h3=>.bad ?_ S.Ag) (λ h3=>S.draw λ w4 B4 S=>?_)⟩
    ·rw [ay];have:l.length-k<2\/1<(l.getD (k+1) 0).toNat:=.inr (by omega);simp only [Cd,ht,if_pos this,Option.map_none]
    have sA:=bC.grown B4;obtain⟨p',gM,d0,d1⟩:=TA sA (k:=k) (by omega);cases gM;have cP:=(l.getD k 0).toNat_lt;refine⟨⟨by omega,by omega⟩,⟨by omega,by omega⟩,_,by rw [Ajz];exact d0,_,by rw [Ajz];exact d1,?_⟩;rw [wrap_i64 (n:=((l.getD k 0).toNat:Int)) (by omega) (by omega),wrap_i64 (n:=(k:Int)+2) (by omega) (by omega),A8 (n:=(i:Int)+1) (by omega) (by simp only at aB;omega)];obtain⟨x,hx⟩:∃ x:AA,x=(Dz nm,((l.getD k 0).toNat:Int),(l.getD (k+1) 0).toNat==1):=⟨_,rfl⟩;refine S.Ak λ eY w5 _ _ S=>?_;have cu:Rd w5 (some ⟨eY,0,none⟩) (Hi x):=by
     have h:=S.rdc 0 rfl;have e:(((l.getD (k+1) 0).toNat:Int)==1)=((l.getD (k+1) 0).toNat==1):=by rw [Bool.eq_iff_iff];simp;omega
     rw [e] at h;rw [hx];exact h
    refine Ahq S 1 rfl cu (by simp only at aB;omega) λ a6 c6 w6 S=>⟨_,_,_,rfl,?_⟩;refine⟨⟨i+1,k+2,cs++[x],a6,c6,?_,by simp only at aB;omega,by simp [gE],by omega,?_,?_,S.drop 1⟩,?_⟩
    ·simp only [Ajk,AjK,Akp,List.cons.injEq,Value.int.injEq,true_and,and_true];constructor <;> omega
    ·intro c hc;rcases List.mem_append.1 hc with h | h
     ·exact hq c h
     ·rw [Akn.1 h,hx];show (Dz nm).size<=_;rw [BL];omega
    ·rw [ay,show n-(i+1)=m by omega];have fE:¬ (l.length-k<2\/1<(l.getD (k+1) 0).toNat):=by omega
     simp only [Cd,ht,fE,if_false,Option.map_map];congr 1;funext r;simp [hx]
    ·show n-((i:Int)+1).toNat<n-(i:Int).toNat;simp only at aB;omega
  ·have:n-i=0:=by simp only at aM;omega
   rw [this] at ay;simp only [Cd,Option.map_some,List.append_nil] at ay;rw [ay];refine (CC (Aim S 0 rfl) (by omega) hq).mono ?_;rintro _ w7 ⟨_,rfl,rfl,B7⟩;refine⟨_,rfl,Ap (Ao (λ hR=>?_) (λ hR=>.bad (by simp [hR]) (S.grown B7).Ag))⟩;simp only [hR,if_true];exact⟨ca,cc,rfl,S.grown B7⟩
end
abbrev BN:=Option Addr × Nat × List AW
def C4(p:BN):Value:=.slice p.1 p.2.2.length p.2.1
abbrev rws(ps:List BN):List (List AW):=ps.map (·.2.2)
structure BU(w:World)(a:Option Addr)(ps:List BN):Prop where
 top:Rd w a (ps.map C4)
 each:∀ p∈ps,Rd w p.1 (Ba p.2.2)
theorem BU.grown{w w':World}{a:Option Addr}{ps:List BN}(h:BU w a ps)(B:Below w.heap.size w w'):BU w' a ps:=⟨h.top.grown B,λ p hp=>(h.each p hp).grown B⟩
theorem BU.at{w:World}{a:Option Addr}{ps:List BN}(h:BU w a ps){i:Nat}(hi:i<ps.length):∃ q,a=some q/\w.cell? (q.add (i*1))=some (.slice ps[i].1 ps[i].2.2.length ps[i].2.1)/\Rd w ps[i].1 (Ba ps[i].2.2):=by
 obtain⟨q,hq,hc⟩:=h.top i (C4 ps[i]) (by simp [hi]);exact⟨q,hq,by rw [AjC];exact hc,h.each _ (Akg hi)⟩
def A4(rows:List (List AW))(c:Nat):List AW:=rows.map λ r=>r.getD c Z0
theorem JT(rows:List (List AW))(c:Nat):(A4 rows c).length=rows.length:=by simp [A4]
theorem YX(ps:List BN){c i:Nat}(hi:i<ps.length)(hc:c<ps[i].2.2.length):A4 (rws (ps.take (i+1))) c=A4 (rws (ps.take i)) c++[ps[i].2.2[c]]:=by
 unfold A4 rws;rw [List.take_succ_eq_append_getElem hi,List.map_append,List.map_append];simp only [List.map_cons,List.map_nil,Akq,List.getElem?_eq_getElem hc,Option.getD_some]
def Nu(a:Option Addr)(c:Nat)(vs:List AW):It:=It.row ty.AX 3 a vs.length c (Ba vs)
section
variable {w0 w:World}{H:List It}{a:Option Addr}{c:Nat}{vs:List AW}
theorem Ain(S:ST w0 w H)(n:Nat)(hn:H[n]?=some (Nu a c vs)):Rd w a (Ba vs):=S.rd n hn
theorem Aev(S:ST w0 w H)(n:Nat){t:TypeId}(ht:LO Tryz.prog t=some (ty.AX,3,32,.agg #[.int .i64 0,.int .i64 0,.string ⟨#[]⟩]))(hn:H[n]?=some (Nu a c vs)){x:AW}{b:Nat}(hs:Rd w (some ⟨b,0,none⟩) (GH x))(hl:vs.length+1<=1000000){f:Value->World->Prop}
  (hf:∀ a' c' w',ST w0 w' (H.set n (Nu a' c' (vs++[x])))->f (.slice a' (vs++[x]).length c') w') :
  Dc Tryz.prog (Builtin.append_ #[t,t] t #[.slice a vs.length c,.slice (some ⟨b,0,none⟩) 1 1]) f w:=by
 refine S.app n hn ht rfl (by omega) (by omega) hs (mm:=1) rfl (by simp [GH];exact⟨rfl,rfl,rfl⟩) (by omega) λ a' c' w' S'=>?_;have e1:(vs++[x]).length=vs.length+1:=by simp
 have e2:Ba vs++GH x=Ba (vs++[x]):=by simp [Ba]
 rw [e2] at S';have:=hf a' c' w' (by unfold Nu;rw [e1];exact S');rwa [e1] at this
end
section
variable {w:World}{a:Option Addr}{c:Nat}{ps:List BN}
theorem JJ{a2:Option Addr}{c2 n:Nat}:Calls Tryz.prog f.Nh #[.slice a2 n c2,.slice a ps.length c] w (AD λ v w'=>∃ b1 b2,v=.func (.func f.E6) #[] #[.pointer (some ⟨b1,0,none⟩),.pointer (some ⟨b2,0,none⟩)] /\
  ST w w' [It.cells b2 #[.slice a ps.length c] ty.NO,It.cells b1 #[.slice a2 n c2] ty.Bo]):=by
 apply R.Hy
 delta R.J R.N R.P R.S;try dsimp only [R.Ps]
 exact (ST.start w).Ak λ b1 w1 _ _ S1=>S1.Ak λ b2 w2 _ _ S2=>⟨b1,b2,rfl,S2⟩
theorem Pn{L b1 b2 n c2:Nat}{a2:Option Addr}(hn:n<=9223372036854775807)(hm:ps.length<=900000)(hk:∀ p∈ps,p.2.2.length=n)(J:Nat->World->Prop)(aP:∀ k w,J k w->BU w a ps/\w.cell? ⟨b2,0,none⟩=some (.slice a ps.length c))
  (dP:∀ k w w',J k w->Below w.heap.size w w'->J k w') (cA:∀ k w la lc,k<n->J k w->Rd w la (Ba (A4 (rws ps) k))->J3 Tryz.prog L #[.int .i64 (k:Int),.slice la ps.length lc] (λ y w'=>y=true/\J (k+1) w') w)
  (h0:J 0 w) (hb:w.cell? ⟨b1,0,none⟩=some (.slice a2 n c2)) :
  Calls Tryz.prog f.E6 #[.func (.yield L) #[] #[],.pointer (some ⟨b1,0,none⟩),.pointer (some ⟨b2,0,none⟩)] w (AD λ _ w'=>J n w'):=by
 apply R.Gv
 delta R.A R.Ad R.F R.H R.I R.J R.Ks R.Li R.Ls R.Lt R.N R.O R.Qi R.J2 R.S R.T R.W R.X;try dsimp only [R.Ps]
 refine⟨_,_,_,hb,λ s w1=>∃ k:Nat,k<=n/\s=[.int .i64 (k:Int)]/\J k w1,λ s _=>match s with
   | [.int _ i]=>n-i.toNat
   | _=>0,⟨0,by omega,rfl,h0⟩,?_⟩
 rintro _ w1 ⟨k,bY,aA,hj⟩;cases aA;refine Aa (λ aB=>?_) (λ aM=>?_)
 ·have bX:k<n:=by omega
  refine⟨_,_,_,(aP _ _ hj).2,?_⟩;refine⟨λ s w2=>∃(i:Nat) (oa:Option Addr) (oc:Nat) (os:List AW),s=[.slice oa os.length oc,.int .i64 (i:Int)]/\i<=ps.length/\os=A4 (rws (ps.take i)) k/\ST w1 w2 [Nu oa oc os],λ s _=>match s with
   | [_,.int _ i]=>ps.length-i.toNat
   | _=>0,⟨0,none,0,[],rfl,by omega,rfl,(ST.start w1).nil _ _⟩,?_⟩
  rintro oa _ oc _ w2 ⟨i,_,_,os,aA,hi,ho,S⟩;cases aA;have gv:os.length=i:=by rw [ho,JT];simp;omega
  refine Aa (λ aB=>⟨⟨by omega,aB⟩,?_⟩) (λ aM=>?_)
  ·have aE:i<ps.length:=by omega
   have k8:k<ps[i].2.2.length:=by rw [hk _ (Akg aE)];exact bX
   obtain⟨q,rfl,hq,hv⟩:=((aP _ _ hj).1.grown S.Ag).at aE;obtain⟨p,hp,c0,c1,c2⟩:=Oz hv k8;refine⟨_,_,_,by rw [Ajz];exact hq,⟨by omega,by omega⟩,?_⟩;rw [hp];refine⟨_,by rw [Ajz];exact c0,_,by rw [Ajz];exact c1,_,by rw [Ajz];exact c2,S.Ak λ cU w2 _ _ S=>?_⟩;have cu:Rd w2 (some ⟨cU,0,none⟩) (GH ps[i].2.2[k]):=S.rdc 0 rfl;refine Aev S 1 Agy rfl cu (by omega) λ a3 c3 w3 S=>⟨_,_,_,rfl,?_⟩;rw [Ah (by omega)];refine⟨⟨i+1,a3,c3,_,rfl,by omega,by rw [YX ps aE k8,ho],S.drop 1⟩,?_⟩;show ps.length-((i+1:Nat):Int).toNat<ps.length-((i:Nat):Int).toNat;simp only [Ajz];omega
  ·have gm:i=ps.length:=by omega
   rw [List.take_of_length_le (by omega)] at ho;subst ho;rw [gv,gm,Ah (by omega)];refine (cA k w2 oa oc bX (dP _ _ _ hj S.Ag) (Ain S 0 rfl)).mono ?_;rintro y w3 ⟨rfl,h⟩;refine AN ⟨⟨k+1,by omega,rfl,h⟩,?_⟩;show n-((k+1:Nat):Int).toNat<n-((k:Nat):Int).toNat;simp only [Ajz];omega
 ·have:k=n:=by omega
  subst this;exact hj
end
structure Cw(cs:List AA)(rows:List (List AW)):Prop where
 right:Ai cs=true
 len:rows.length<=1024
 fits:∀ r∈rows,EY cs r=true
 ok:∀ r∈rows,∀ v∈r,F5 v
 none:rows=[]
section
variable {cs:List AA}{rows:List (List AW)}
theorem AdI{r:List AW}(h:EY cs r=true):r.length=cs.length:=by
 simp only [EY,Ai6,decide_eq_true_eq] at h;exact h.1
theorem Afj{r:List AW}(h:EY cs r=true){k:Nat}(h1:k<cs.length)(h2:k<r.length):N0 cs[k] r[k]=true:=by
 simp only [EY,Ai6,Mq,AjW] at h;exact h.2 (cs[k],r[k]) (Akr.2 ⟨k,by simp;omega,by simp⟩)
theorem Cw.Z4(h:Cw cs rows){r:List AW}(hr:r∈rows):r.length=cs.length:=AdI (h.fits r hr)
theorem Cw.Ji(h:Cw cs rows){k:Nat}(hk:k<cs.length):BS cs[k].2.1 (A4 rows k):=by
 have key:∀ v∈A4 rows k,okV cs[k].2.1 v=true/\F5 v:=by
  intro v hv;obtain⟨r,hr,rfl⟩:=List.mem_map.1 hv;have hl:=h.Z4 hr;have jJ:k<r.length:=by omega
  have e:r.getD k Z0=r[k]:=by simp [Akq,jJ]
  rw [e];refine⟨?_,h.ok r hr _ (Akg jJ)⟩;have:=Afj (h.fits r hr) hk jJ;simp only [N0,Ai6,Bool.or_eq_true,decide_eq_true_eq] at this;simp only [okV,Ai6,Bool.or_eq_true,decide_eq_true_eq];exact⟨this.1,this.2.imp id λ h=>h.2⟩
 obtain⟨_,h1,h2,_⟩:=F1 h.right (Akg hk);refine⟨?_,λ v hv=>(key v hv).2,by rw [h.none];rfl⟩;have h3:(A4 rows k).all (okV cs[k].2.1)=true:=AjW.2 λ v hv=>(key v hv).1;have h4:1<=cs[k].2.1/\cs[k].2.1<=3/\(A4 rows k).length<=1024:=⟨h1,h2,by rw [JT];exact h.len⟩;simp [ED,h3,h4]
end
theorem BS.Aho{k:Int}{ls:List AW}(h:BS k ls):∀ v∈ls,AG v=true/\F5 v:=by
 intro v hv;have:=h.all v hv;simp only [okV,Ai6] at this;exact⟨this.1,h.ok v hv⟩
theorem BS.AcQ{k:Int}{ls:List AW}(h:BS k ls):(AG (zmm ls).1=true/\F5 (zmm ls).1)/\(AG (zmm ls).2=true/\F5 (zmm ls).2) :=
 have h:AG Z0=true/\F5 Z0:=⟨by decide,⟨by decide,by decide⟩⟩
 ⟨h,h⟩
theorem BS.OE{k:Int}{ls:List AW}(h:BS k ls):OE ls:=⟨h.len,λ v hv=>(h.Aho v hv).1⟩
theorem MG{v:AW}(h:AG v=true)(hv:F5 v):(E3 v).length<=1040:=by
 unfold E3;split
 ·have:=AE (V2 hv.lo hv.hi);simp only [AjK];omega
 ·split
  ·simp
  ·split
   ·rename_i h3;have hs:v.2.2.size<=1024:=by
     rcases DL h with h | h | ⟨h,_⟩ | ⟨_,h⟩
     ·omega
     ·omega
     ·omega
     ·exact h
    have:=AcE hs;simp only [AjK];omega
   ·simp
theorem ID.len{k:Int}{ls:List AW}{b:List UInt8}(hg:BS k ls)(h:ID k ls b):b.length<=2000300:=by rw [h.seven];omega
def PH(n:Nat):List UInt8:=[AjA (n % 256),AjA (n / 256 % 256),AjA (n / 65536 % 256),AjA (n / 16777216 % 256)]
def CZ:List UInt8:=[83,89,68,49]
def Jg(x:List UInt8)(l:List AW):List UInt8:=Al x.length++Al (Dv l)++E3 (zmm l).1++E3 (zmm l).2
def CX(rows:List (List AW))(xs:List (List UInt8)):List UInt8:=(xs.mapIdx λ i x=>Jg x (A4 rows i)).flatten
theorem W8(rows:List (List AW))(xs:List (List UInt8))(x:List UInt8):CX rows (xs++[x])=CX rows xs++Jg x (A4 rows xs.length):=by
 unfold CX;rw [List.mapIdx_concat];simp
def Ds(cs:List AA)(rows:List (List AW))(xs:List (List UInt8)):List UInt8:=En cs++Al rows.length++CX rows xs
def J9(cs:List AA)(rows:List (List AW))(xs:List (List UInt8)):List UInt8:=CZ++xs.flatten++Ds cs rows xs++PH (Ds cs rows xs).length
def KE(p:List UInt8):List UInt8:=p++Pp p
structure CU(cs:List AA)(rows:List (List AW))(xs:List (List UInt8)):Prop where
 len:xs.length<=cs.length
 each:∀ i (h1:i<cs.length) (h2:i<xs.length),ID cs[i].2.1 (A4 rows i) xs[i]
theorem CU.nil(cs:List AA)(rows:List (List AW)):CU cs rows []:=⟨by simp,λ i _ h=>by simp at h⟩
theorem CU.snoc{cs:List AA}{rows:List (List AW)}{xs:List (List UInt8)}(h:CU cs rows xs){x:List UInt8}(h1:xs.length<cs.length)(hx:ID cs[xs.length].2.1 (A4 rows xs.length) x):CU cs rows (xs++[x]):=by
 refine⟨by simp;omega,λ i g1 g2=>?_⟩;rcases Nat.lt_or_ge i xs.length with h3 | h3
 ·rw [List.getElem_append_left h3];exact h.each i g1 h3
 ·have:i=xs.length:=by simp at g2;omega
  subst this;simp only [List.getElem_concat_length];exact hx
theorem CU.one{cs:List AA}{rows:List (List AW)}{xs ys:List (List UInt8)}(h:CU cs rows xs)(h':CU cs rows ys)(hl:xs.length=ys.length):xs=ys:=by
 refine List.ext_getElem hl λ i h1 h2=>?_;have:=h.len;exact (h.each i (by omega) h1).one (h'.each i (by omega) h2)
theorem QY{xs:List (List UInt8)}{m:Nat}(h:∀ x∈xs,x.length<=m):xs.flatten.length<=xs.length*m:=by
 induction xs with
 | nil=>simp
 | cons x xs ih =>
  have h1:=h x (by simp);have h2:=ih λ y hy=>h y (by simp [hy]);simp only [List.flatten_cons,Ajk,AjK,Nat.add_mul];omega
theorem AbY{k:Int}{x:List UInt8}{l:List AW}(hg:BS k l)(hx:x.length<=2000300):(Jg x l).length<=2100:=by
 have h1:=AE (n:=x.length) (by omega);have h2:=AE (n:=Dv l) (by have:=Oa l;have:=hg.len;omega);have h3:=MG hg.AcQ.1.1 hg.AcQ.1.2;have h4:=MG hg.AcQ.2.1 hg.AcQ.2.2;simp only [Jg,Ajk];omega
section
variable {cs:List AA}{rows:List (List AW)}{xs:List (List UInt8)}
theorem CU.lens(h:CU cs rows xs)(hs:Cw cs rows):∀ x∈xs,x.length<=2000300:=by
 intro x hx;obtain⟨i,hi,rfl⟩:=List.getElem_of_mem hx;have:=h.len;exact (h.each i (by omega) hi).len (hs.Ji (by omega))
theorem CU.flat(h:CU cs rows xs)(hs:Cw cs rows):xs.flatten.length<=33000000:=by
 have h1:=QY (h.lens hs);have h2:=h.len;have h3:=CL hs.right;have:xs.length*2000300<=16*2000300:=Nat.mul_le_mul_right _ (by omega);omega
theorem CU.Agm(h:CU cs rows xs)(hs:Cw cs rows):(CX rows xs).length<=34000:=by
 have h1:(CX rows xs).length<=(xs.mapIdx λ i x=>Jg x (A4 rows i)).length*2100:=by
  refine QY λ x hx=>?_;obtain⟨i,hi,rfl⟩:=List.mem_mapIdx.1 hx;have:=h.len;exact AbY (hs.Ji (by omega:i<cs.length)) (h.lens hs _ (Akg hi))
 rw [List.length_mapIdx] at h1;have h2:=h.len;have h3:=CL hs.right;omega
theorem CU.Vj(h:CU cs rows xs)(hs:Cw cs rows):(Ds cs rows xs).length<=35000:=by
 have h1:=h.Agm hs;have h2:=X5 hs.right;have h3:=AE (n:=rows.length) (by have:=hs.len;omega);simp only [Ds,Ajk];omega
theorem CU.Aej(h:CU cs rows xs)(hs:Cw cs rows):(J9 cs rows xs).length<=34000000:=by
 have h1:=h.Vj hs;have h2:=h.flat hs;simp only [J9,Ajk,CZ,PH,AjK,Akp];omega
end
structure FA(cs:List AA)(rows:List (List AW))(b:List UInt8):Prop where
 ex:∃ xs,xs.length=cs.length/\CU cs rows xs/\b=KE (J9 cs rows xs)
theorem FA.one{cs:List AA}{rows:List (List AW)}{b b':List UInt8}(h:FA cs rows b)(h':FA cs rows b'):b=b':=by
 obtain⟨xs,h1,h2,rfl⟩:=h.ex;obtain⟨ys,k1,k2,rfl⟩:=h'.ex;rw [h2.one k2 (by omega)]
def Z6(cs:List AA)(rows:List (List AW)):Int:=if Ai cs=false then 50 else if 1024<rows.length\/∃ r∈rows,EY cs r=false then 51 else 0
def AhP(cs:List AA)(rows:List (List AW))(v:Value):Prop :=
 (¬ Cw cs rows/\v=.tuple #[.string ⟨#[]⟩,.int .i64 (Z6 cs rows)]/\Z6 cs rows≠0)\/(Cw cs rows/\∃ b,v=.tuple #[.string (Dz b),.int .i64 0]/\FA cs rows b)
end Go.Proofs.YtegnhfeclchlmaaGreatDoor
