/-
  Texts of this claim, laid one behind the other by a program of mine (install.py): Y.Dec, Y.IntsD, Y.IntsF, Y.IntsG, Y.Ch10, Y.Sch9, Y.Pl2, Y.Pl3, Y.SortI, Y.Pl4, Y.Pl5, Y.Pl6, Y.Tr4, Y.Pl7, Y.Tr5, Y.Tr6, Y.Cmp, Y.CmpL, Y.Ch6.
-/
import Derived.Test.YtoepjfblppfabaaGreatDoorM8
import Derived.Test.YtoepjfblppfabaaGreatDoorM7
import Derived.Test.YtoepjfblppfabaaGreatDoorM3
import Derived.Test.YtoepjfblppfabaaGreatDoorM4
namespace Go.Proofs.YtoepjfblppfabaaGreatDoor
open _root_.Int renaming toNat_natCast -> AnF
open _root_.List renaming append_assoc -> AnA, drop_drop -> Aop, getElem?_eq_none -> Aoo, getElem_mem -> Aot, length -> AoO, length_append -> Anp, length_drop -> AnC, length_map -> AnS, length_nil -> AoJ, length_pos_iff -> AoP, length_set -> AoM, length_take -> Anw, map_append -> Aov, mem_append -> Aow, mem_singleton -> Aox, replicate -> AnP, replicate_succ -> AoN, take_of_length_le -> Aoy, take_succ_eq_append_getElem -> Aou
open _root_.Nat renaming le_trans -> AnJ
open _root_.Option.some renaming inj -> Aoj
open _root_.UInt8 renaming ofNat -> AnG
set_option maxRecDepth 100000
open Go.Dn Go.Proofs
open Go.RowKit (Below)
set_option linter.unusedVariables false
def CB(n:Int):Prop:=0<=n/\n<=4096
def UY(l:List UInt8)(n:Int)(w w':World)(v:Value):Prop :=
 ∃(ls:List ByteArray) (a:Option Addr) (c:Nat) (e:Int),v=.tuple #[.slice a ls.length c,.int .i64 e]/\Rd w' a (ls.map Value.string)/\Below w.heap.size w w'/\ls.length<=4096 /\
  ((¬ CB n/\ls=[]/\e=2)\/(CB n/\Hv l n.toNat ls/\e=0/\0<l.length)\/(CB n/\(∀ ms,¬ (Hv l n.toNat ms/\0<l.length))/\ls=[]/\e=70))
theorem UY.bad{l:List UInt8}{n:Int}{w w':World}(hb:Below w.heap.size w w')(hn:CB n)(h:∀ ms,¬ (Hv l n.toNat ms/\0<l.length)):UY l n w w' (.tuple #[.slice none 0 0,.int .i64 70]) :=
 ⟨[],none,0,70,rfl,Rd.nil _ _,hb,by simp,.inr (.inr ⟨hn,h,rfl,rfl⟩)⟩
theorem UY.arg{l:List UInt8}{n:Int}{w w':World}(hb:Below w.heap.size w w')(hn:¬ CB n):UY l n w w' (.tuple #[.slice none 0 0,.int .i64 2]) :=
 ⟨[],none,0,2,rfl,Rd.nil _ _,hb,by simp,.inl ⟨hn,rfl,rfl⟩⟩
theorem Hv.head{l:List UInt8}{n:Nat}{ls:List ByteArray}(h:Hv l n ls):(l.getD 0 0).toNat<=1:=by
 have:=h.ok.2.1;omega
section
variable {w:World}{a:Option Addr}{c:Nat}{l:List UInt8}
theorem GO{a2:Option Addr}{c2:Nat}{m:List UInt8}(hl:Rd w a (l.map Af))(hm:Rd w a2 (m.map Af)) :
  Calls Tryz.prog f.YZ #[.slice a l.length c,.slice a2 m.length c2] w (AB λ v w'=>w'=w/\v=.bool (decide (l=m))):=by
 apply R.NZ
 delta R.G R.Rt R.S;try dsimp only [R.Ps]
 refine CI NF rfl hl ⟨_,rfl,CI NF rfl hm ⟨_,rfl,rfl,?_⟩⟩;rw [AK];congr 1;rw [decide_eq_decide];exact⟨λ h=>by have:=congrArg bl h;rwa [Dq,Dq] at this,λ h=>by rw [h]⟩
theorem GA(hl:Rd w a (l.map Af))(h0:0<l.length):∃ p,a=some p/\w.cell? p=some (.int .u8 ((l.getD 0 0).toNat:Int)):=by
 obtain⟨p,hp,hc⟩:=byte_at hl h0;refine⟨p,hp,?_⟩;rw [Nat.zero_mul,CS] at hc;rw [hc,Kv h0]
theorem Ae7{n:Nat}{ms:List (List UInt8)}(h0:0<l.length){bs:List UInt8}{e:Int}
  (hq:(ED ((l.getD 0 0).toNat:Int) (ms.map CA)/\Fl (ms.map CA) ((l.getD 0 0).toNat:Int) bs/\e=0)\/(¬ ED ((l.getD 0 0).toNat:Int) (ms.map CA)/\bs=[]/\e=2)) (hlen:ms.length=n)
  (rM:ms=(Lm l n).getD []):(bs=l->Hv l n (ms.map CA))/\(bs≠l->∀ xs,¬ (Hv l n xs/\0<l.length)):=by
 constructor
 ·rintro rfl;rcases hq with ⟨h1,h2,_⟩ | ⟨_,h2,_⟩
  ·exact⟨by simpa using hlen,h1,h2⟩
  ·subst h2;simp at h0
 ·rintro aQ xs ⟨hx,_⟩;have hr:=hx.reads;rw [hr] at rM;simp only [Option.getD_some] at rM;have he:ms.map CA=xs:=by rw [rM,Ni]
  rw [he] at hq;rcases hq with ⟨h1,h2,_⟩ | ⟨h1,_⟩
  ·exact aQ (h2.one hx.enc)
  ·exact h1 hx.ok
theorem Tt(hl:Rd w a (l.map Af))(hc:l.length<=c)(hs:l.length<=9223372036854775807)(n:Int) :
  Calls Tryz.prog f.Ze #[.slice a l.length c,.int .i64 n] w (AB λ v w'=>UY l n w w' v):=by
 apply R.Oc
 delta R.Abg R.BL R.Cb R.Cf R.F R.G R.H R.I R.Ly R.O R.S R.U R.W R.Wu R.X R.Zb R.Zsb;try dsimp only [R.Ps]
 refine⟨λ s w1=>∃ b:Bool,s=[.bool b]/\w1=w/\(b=true↔¬ CB n),?_,?_⟩
 ·refine Aa (λ h=>⟨true,rfl,rfl,?_⟩) (λ h=>⟨_,rfl,rfl,?_⟩)
  ·unfold CB;simp;omega
  ·unfold CB;simp;omega
 rintro _ w1 ⟨b,aA,rfl,hb⟩;cases aA;refine AU (λ h=>UY.arg (.refl _ _) (hb.1 h)) (λ h=>?_);have ax:CB n:=by
  rcases Classical.em (CB n) with h1 | h1
  ·exact h1
  ·rw [hb.2 h1] at h;cases h
 obtain⟨n,rfl⟩:∃ m:Nat,n=(m:Int):=⟨n.toNat,by have:=ax.1;omega⟩;have hn:n<=4096:=by have:=ax.2;omega
 refine Az (λ h=>UY.bad (.refl _ _) ax λ ms hm=>by have:=hm.2;omega) (λ aQ=>?_);have h0:0<l.length:=by omega
 obtain⟨p,rfl,aJ⟩:=GA hl h0;have dB:=(l.getD 0 0).toNat_lt;refine⟨⟨by omega,by omega⟩,_,aJ,Aa (λ h=>UY.bad (.refl _ _) ax λ ms hm=>by have:=hm.1.head;omega) (λ hle=>?_)⟩;refine⟨λ s w5=>∃(ms:List (List UInt8)) (a':Option Addr) (c':Nat) (ok:Bool),s=[.slice a' ms.length c',.bool ok]/\Rd w5 a' (strs ms)/\Below w1.heap.size w1 w5/\((ok=false/\Lm l n=none)\/(ok=true/\Lm l n=some ms)),?_,?_⟩
 ·refine⟨⟨by omega,by omega⟩,_,aJ,Az (λ hz=>?_) (λ hz=>?_)⟩
  ·have iO:l.getD 0 0=0:=UInt8.toNat_inj.1 (by show _=0;omega);refine (MB (at_:=1)).mono ?_;rintro _ w2 ⟨_,rfl,b1,b2,rfl,S2⟩;refine⟨_,_,_,rfl,?_⟩;rw [Oi,Ar (by omega) (by omega)];refine (Rj (at_:=1) (n:=n) S2 hl hc hs hn).mono ?_;rintro _ w3 ⟨_,rfl,hM,B3⟩;unfold YI at hM;have hr:Lm l n=(AQ l 1 n).map (·.1):=by unfold Lm;rw [if_pos iO]
   cases hy:AQ l 1 n with
   | none =>
    rw [hy] at hM hr;subst hM;exact⟨_,_,_,_,_,rfl,[],none,0,false,rfl,Rd.nil _ _,B3,.inl ⟨rfl,hr⟩⟩
   | some y =>
    rw [hy] at hM hr;obtain⟨ta,tc,rfl,lx⟩:=hM;exact⟨_,_,_,_,_,rfl,y.1,ta,tc,true,rfl,lx,B3,.inr ⟨rfl,hr⟩⟩
  ·have iO:¬ l.getD 0 0=0:=λ h=>hz (by rw [h];rfl);refine (Xt hl hc hs hn).mono ?_;rintro _ w3 ⟨_,rfl,ms,a',c',ok,rfl,lx,B3,aM⟩;have hr:Lm l n=DI l n:=by unfold Lm;rw [if_neg iO]
   rw [<- hr] at aM;exact⟨_,_,_,_,rfl,ms,a',c',ok,rfl,lx,B3,aM⟩
 rintro a' _ c' _ w5 ⟨ms,_,_,ok,aA,th,B5,aM⟩;cases aA;rcases aM with ⟨rfl,hr⟩ | ⟨rfl,hr⟩
 ·refine Bo (UY.bad B5 ax ?_);rintro xs ⟨hx,_⟩;rw [AnF,] at hx;rw [hx.reads] at hr;cases hr
 have kK:=Ae4 hr;refine Aw ⟨⟨by omega,by omega⟩,?_⟩;obtain⟨p',bj,hcell5⟩:=GA (hl.grown B5) h0;cases bj;refine⟨_,hcell5,?_⟩;rw [wrap_i64 (by omega) (by omega)];have hE:=EV (c:=c') ((l.getD 0 0).toNat:Int) (ls:=ms.map CA) th (by rw [AnS];omega);rw [AnS] at hE;refine hE.mono ?_;rintro _ w6 ⟨_,rfl,h6⟩;obtain⟨bs,a6,c6,e6,rfl,hR6,B6,q6⟩:=Tz h6;have C6:=Ac B5 B6;refine⟨_,_,_,_,rfl,(GO hR6 (hl.grown C6)).mono ?_⟩;rintro _ w7 ⟨_,rfl,rfl,rfl⟩;obtain⟨g1,g2⟩:=Ae7 h0 q6 kK (by rw [hr];rfl);refine⟨_,rfl,A5 (Aa (λ he=>?_) (λ he=>UY.bad C6 ax (by rw [AnF];exact g2 he)))⟩;refine⟨ms.map CA,a',c',0,by rw [AnS],th.grown B6,C6,by rw [AnS];omega,.inr (.inl ⟨ax,by rw [AnF];exact g1 he,rfl,h0⟩)⟩
end
structure JT(w w':World)(xs:List Int)(a:Option Addr)(c:Nat):Prop where
 row:Row w' ty.int64 1 a xs.length c (xs.map DK)
 new:∀ k,AG a=some k->w.heap.size<=k
 An:Below w.heap.size w w'
theorem JT.nil(w:World):JT w w [] none 0:=⟨Row.nil _ _ _,by simp [AG],.refl _ _⟩
theorem JT.grown{w w1 w2:World}{xs:List Int}{a:Option Addr}{c:Nat}(h:JT w w1 xs a c)(hb:Below w1.heap.size w1 w2):JT w w2 xs a c:=⟨h.row.grown hb,h.new,Ac h.An hb⟩
theorem AhI:Ia Tryz.prog ty.AY=some (ty.int64,1,8,.int .i64 0):=by kernel_rfl
theorem Td{w w1:World}{a:Option Addr}{c:Nat}{xs:List Int}(h:JT w w1 xs a c)(hl:xs.length+1<=1000000){x:Int}{b:Nat}{t:TypeId}(hb:w1.heap[b]?=some (.cells #[.int .i64 x] t (0,0))){f:Value->World->Prop}
  (hf:∀ a' c' w',JT w w' (xs++[x]) a' c'->f (.slice a' (xs++[x]).length c') w'):CD Tryz.prog (Builtin.append_ #[ty.AY,ty.AY] ty.AY #[.slice a xs.length c,.slice (some ⟨b,0,none⟩) 1 1]) f w1:=by
 have aZ:Rd w1 (some ⟨b,0,none⟩) ([x].map DK):=by
  have:=Rd.Ak hb;simpa [DK] using this
 obtain⟨a5,c5,w2,aD,aG,dF,hnw⟩:=Bq (ty:=ty.AY) (mc:=1) AhI rfl (by omega) (by omega) h.row aZ (m:=1) rfl (by simp [DK];rfl) (by omega);unfold CD;rw [aD];have e:xs.length+1=(xs++[x]).length:=by simp
 rw [e] at aG ⊢;refine hf a5 c5 w2 ⟨by rw [Aov];exact aG,λ k hk=>?_,h.An.trans (dF.below h.An.size λ k hk he=>by have:=h.new k he;omega)⟩;rcases hnw k hk with h1 | h1
 ·exact h.new k h1
 ·exact AnJ h.An.size h1
def HL(f:Nat)(r:List Int):List UInt8:=if f=0 then r.flatMap E6 else Fq r
structure Gm(l:List UInt8)(n:Nat)(ls:List Int):Prop where
 len:ls.length=n
 num:∀ x∈ls,Hw x
 form:(l.getD 0 0).toNat<=3
 enc:l=DR (l.getD 0 0).toNat ls
def F2(l:List UInt8)(n:Nat)(w w':World)(v:Value):Prop :=
 ∃(ms:List Int) (a:Option Addr) (c:Nat) (ok:Bool),v=.tuple #[.slice a ms.length c,.bool ok]/\JT w w' ms a c/\(∀ x∈ms,Hw x)/\ms.length<=4096/\(ok=true->ms.length=n)/\∀ ls,Gm l n ls->ok=true/\ms=ls
theorem F2.bad{l:List UInt8}{n:Nat}{w w':World}(hb:Below w.heap.size w w')(h:∀ ls,¬ Gm l n ls):F2 l n w w' (.tuple #[.slice none 0 0,.bool false]) :=
 ⟨[],none,0,false,rfl,⟨Row.nil _ _ _,by simp [AG],hb⟩,by simp,by simp,(λ h=>by cases h),λ ls aX=>absurd aX (h ls)⟩
theorem BZ{l r:List UInt8}{at_ m:Nat}(hm:m<18446744073709551616)(h:l.drop at_=Ag m++r):takeN l (at_:Int)=some (m,at_+(Ag m).length):=by
 unfold takeN;rw [if_neg (by omega),AnF,h,OV m 0 0 r (by simpa using hm) (by omega) (by intro;rfl)];simp
theorem BT{l r d:List UInt8}{at_:Nat}(h:l.drop at_=d++r):l.drop (at_+d.length)=r:=by
 rw [<- Aop,h,List.drop_left]
structure Step(l:List UInt8)(f at_:Nat)(ls:List Int)(k many aY nx:Nat)(x:Int):Prop where
 num:f=1->takeN l (at_:Int)=some (many,aY)
 one:f=0->many=1/\aY=at_
 sgn:takeN l (aY:Int)=some (Fk x,nx)
 pos:0<many
 le:k+many<=ls.length
 take:ls.take (k+many)=ls.take k++AnP many x
 rest:l.drop nx=HL f (ls.drop (k+many))
 i64:Hw x
theorem Ajm{l:List UInt8}{f at_:Nat}{ls:List Int}{k:Nat}(hf:f<=1)(hx:∀ x∈ls,Hw x)(hn:ls.length<=4096)(hr:l.drop at_=HL f (ls.drop k))(hk:k<ls.length):∃ many aY nx x,Step l f at_ ls k many aY nx x:=by
 have hd:ls.drop k=ls[k] :: ls.drop (k+1):=List.drop_eq_getElem_cons hk;have lG:=hx _ (Aot hk);have hz:=HP lG.1 lG.2;rcases (by omega:f=0\/f=1) with rfl | rfl
 ·have e:l.drop at_=E6 ls[k]++HL 0 (ls.drop (k+1)):=by rw [hr,hd];unfold HL;rw [if_pos rfl,if_pos rfl,List.flatMap_cons]
  refine⟨1,at_,at_+(E6 ls[k]).length,ls[k],λ h=>(by omega),λ _=>⟨rfl,rfl⟩,BZ hz e,by omega,by omega,?_,BT e,lG⟩;rw [Aou hk];rfl
 ·obtain⟨t,ht⟩:∃ t,t=((ls.drop (k+1)).takeWhile (·==ls[k])).length:=⟨_,rfl⟩;have fE:t<=(ls.drop (k+1)).length:=by rw [ht];exact (List.takeWhile_sublist _).length_le
  rw [AnC] at fE;have e0:Fq (ls.drop k)=Ag (t+1)++(E6 ls[k]++Fq ((ls.drop (k+1)).drop t)):=by
   rw [hd]
   conv=>lhs;unfold Fq
   rw [ht]
  have e:l.drop at_=Ag (t+1)++(E6 ls[k]++Fq ((ls.drop (k+1)).drop t)):=by
   rw [hr];unfold HL;rw [if_neg (by omega),e0]
  have e1:=BT e;refine⟨t+1,at_+(Ag (t+1)).length,at_+(Ag (t+1)).length+(E6 ls[k]).length,ls[k],λ _=>BZ (by omega) e,λ h=>(by omega),BZ hz e1,by omega,by omega,?_,?_,lG⟩
  ·rw [List.take_add,hd,List.take_succ_cons];congr 1;rw [AoN];congr 1;have h1:(ls.drop (k+1)).take t=(ls.drop (k+1)).takeWhile (·==ls[k]):=by
    rw [ht];exact (List.prefix_iff_eq_take.1 (List.takeWhile_prefix _)).symm
   rw [h1,List.eq_replicate_iff];refine⟨ht.symm,λ y hy=>?_⟩;have:=List.all_eq_true.1 List.all_takeWhile y hy;simpa using this
  ·rw [BT e1];unfold HL;rw [if_neg (by omega),Aop];congr 2;omega
theorem Ae8{f:Nat}{r:List Int}(h:HL f r=[]):r=[]:=by
 cases r with
 | nil=>rfl
 | cons x r =>
  exfalso;unfold HL at h;split at h
  ·have:=congrArg AoO h;have hp:=AoP.2 (QQ (Fk x));simp only [List.flatMap_cons,Anp,AoJ,E6] at this;omega
  ·unfold Fq at h;have:=congrArg AoO h;have hp:=AoP.2 (QQ ((r.takeWhile (·==x)).length+1));simp only [Anp,AoJ] at this;omega
theorem AaJ{x:Nat × Nat}:Aml (some x)=.tuple #[.int .i64 (EK x.1),.int .i64 (x.2:Int),.int .i64 0]:=rfl
section
variable {w:World}{a:Option Addr}{c:Nat}{l:List UInt8}
def Tr(l:List UInt8)(f n:Nat)(out:List Int)(at_:Nat):Prop:=∀ ls,Gm l n ls->∃ k,k<=ls.length/\out=ls.take k/\l.drop at_=HL f (ls.drop k)
theorem Tr.step{f n:Nat}{out:List Int}{at_:Nat}(h:Tr l f n out at_)(hf:f<=1)(hn:n<=4096)(eF:at_<l.length){ls:List Int}(aX:Gm l n ls):∃ k many aY nx x,out=ls.take k/\k<=ls.length/\Step l f at_ ls k many aY nx x:=by
 obtain⟨k,hk,ho,hr⟩:=h ls aX;have aq:k<ls.length:=by
  rcases Nat.lt_or_ge k ls.length with h | h
  ·exact h
  ·exfalso;have:ls.drop k=[]:=List.drop_of_length_le h;rw [this] at hr;have e:HL f []=[]:=by unfold HL;split <;> simp [L6]
   rw [e] at hr;have:=congrArg AoO hr;rw [AnC,AoJ] at this;omega
 obtain⟨many,aY,nx,x,hs⟩:=Ajm hf aX.num (by have:=aX.len;omega) hr aq;exact⟨k,many,aY,nx,x,ho,hk,hs⟩
theorem Vd(hl:Rd w a (l.map Af))(hc:l.length<=c)(hs:l.length<=9223372036854775807)(h0:0<l.length){fm:Nat}(eh:fm=(l.getD 0 0).toNat)(hf:fm<=1){n:Nat}(hn:n<=4096) :
  Calls Tryz.prog f.Ji #[.slice a l.length c,.int .i64 (n:Int)] w (AB λ v w'=>F2 l n w w' v):=by
 apply R.PX
 delta R.VA R.EN R.F R.G R.H R.I R.J R.Ks R.Ly R.N R.O R.Hz R.Qsu R.S R.U R.W R.Wu R.X R.AlN;try dsimp only [R.Ps]
 have yx:Tr l fm n [] 1:=by
  intro ls aX;refine⟨0,by omega,rfl,?_⟩;have:=aX.enc;rw [<- eh] at this;rw [List.drop_zero];rcases (by omega:fm=0\/fm=1) with rfl | rfl
  ·rw [this];simp [DR,HL]
  ·rw [this];simp [DR,HL]
 refine⟨λ s w1=>∃(at_:Nat) (out:List Int) (oa:Option Addr) (oc:Nat),s=[.slice oa out.length oc,.int .i64 (at_:Int)]/\JT w w1 out oa oc/\(∀ x∈out,Hw x)/\out.length<=n/\at_<=9223372036854775807/\Tr l fm n out at_,λ s _=>match s with
   | [_,.int _ i]=>l.length-i.toNat
   | _=>0,⟨1,[],none,0,rfl,JT.nil w,by simp,by simp,by omega,yx⟩,?_⟩
 rintro oa _ oc _ w1 ⟨at_,out,_,_,aA,h1,hI,dt,xL,hT⟩;cases aA;refine Aa (λ aB=>?_) (λ aL=>?_)
 case refine_2 =>
  have pb:((out.length:Int)==(n:Int))=true->out.length=n:=λ h=>by
   have:(out.length:Int)=n:=by simpa using h
   omega
  refine⟨out,oa,oc,_,rfl,h1,hI,by omega,pb,λ ls aX=>?_⟩;obtain⟨k,hk,ho,hr⟩:=hT ls aX;have hd:l.drop at_=[]:=List.drop_of_length_le (by omega);rw [hd] at hr;have rR:=Ae8 hr.symm;have aq:ls.length<=k:=List.drop_eq_nil_iff.1 rR;have:ls.take k=ls:=Aoy aq;rw [this] at ho;subst ho;exact⟨by have:=aX.len;simp [this],rfl⟩
 have eF:at_<l.length:=by omega
 obtain⟨p,rfl,aJ⟩:=GA (hl.grown h1.An) h0;have dB:=(l.getD 0 0).toNat_lt;refine⟨λ s w3=>w3=w1/\∃(aY many:Nat) (e:Int),s=[.int .i64 (aY:Int),.int .u64 (many:Int),.int .i64 e]/\aY<=9223372036854775807/\((e≠0/\fm=1/\takeN l (at_:Int)=none)\/(e=0/\at_<=aY/\many<18446744073709551616/\((fm=1/\takeN l (at_:Int)=some (many,aY))\/(fm=0/\many=1/\aY=at_)))),?_,?_⟩
 ·refine⟨⟨by omega,by omega⟩,_,aJ,Az (λ zd=>?_) (λ aQ=>?_)⟩
  ·refine (AF (hl.grown h1.An) hc hs (at_:Int)).mono ?_;rintro _ w2 ⟨_,rfl,rfl,rfl⟩;cases hx:takeN l (at_:Int) with
   | none=>exact⟨_,_,_,rfl,rfl,0,0,20,rfl,by omega,.inl ⟨by decide,by omega,rfl⟩⟩
   | some x =>
    have hb:=AZ (n:=x.1) (k:=x.2) hx;exact⟨_,_,_,rfl,rfl,x.2,x.1,0,rfl,by omega,.inr ⟨rfl,by omega,by omega,.inl ⟨by omega,rfl⟩⟩⟩
  ·exact⟨rfl,at_,1,0,rfl,by omega,.inr ⟨rfl,by omega,by omega,.inr ⟨by omega,rfl,rfl⟩⟩⟩
 rintro _ _ e w3 ⟨rfl,aY,many,_,aA,xJ,aM⟩;cases aA;refine (EB (hl.grown h1.An) hc hs (aY:Int)).mono ?_;rintro _ w4 ⟨_,rfl,rfl,rfl⟩;have key:∀ ls,Gm l n ls->∃ k nx x,out=ls.take k/\e=0/\takeN l (aY:Int)=some (Fk x,nx)/\0<many/\k+many<=ls.length/\k<=ls.length/\ls.take (k+many)=ls.take k++AnP many x/\l.drop nx=HL fm (ls.drop (k+many)):=by
  intro ls aX;obtain⟨k,m,a1,nx,x,ho,aq,hs⟩:=hT.step hf hn eF aX;rcases aM with ⟨_,gh,bC⟩ | ⟨he,_,_,⟨gh,hso⟩ | ⟨k9,hm1,ha1⟩⟩
  ·rw [hs.num gh] at bC;cases bC
  ·have:=hs.num gh;rw [hso] at this;obtain⟨rfl,rfl⟩:=Prod.mk.injEq .. ▸ Aoj this;exact⟨k,nx,x,ho,he,hs.sgn,hs.pos,hs.le,aq,hs.take,hs.rest⟩
  ·obtain⟨q1,q2⟩:=hs.one k9;subst q1 q2 hm1 ha1;exact⟨k,nx,x,ho,he,hs.sgn,hs.pos,hs.le,aq,hs.take,hs.rest⟩
 cases hy:takeN l (aY:Int) with
 | none =>
  have bC:∀ ls,¬ Gm l n ls:=λ ls aX=>by
   obtain⟨k,nx,x,_,_,h,_⟩:=key ls aX;rw [hy] at h;cases h
  refine⟨_,_,_,rfl,Au (λ _=>F2.bad h1.An bC) (λ _=>Au (λ _=>F2.bad h1.An bC) (λ h=>absurd h (by decide)))⟩
 | some y =>
 rw [AaJ];have sS:=AZ (n:=y.1) (k:=y.2) hy;have oX:=Rl sS.1;have ew:IntKind.u64.wrap (IntKind.i64.wrap ((n:Int)-(out.length:Int)))=((n-out.length:Nat):Int):=by
  rw [wrap_i64 (by omega) (by omega),Ar (by omega) (by omega)];omega
 rw [ew];refine⟨_,_,_,rfl,Au (λ qq=>F2.bad h1.An λ ls aX=>?_) (λ qp=>Au (λ h=>absurd rfl h) (λ _=>Az (λ fW=>F2.bad h1.An λ ls aX=>?_) (λ fW=>Aa (λ ju=>F2.bad h1.An λ ls aX=>?_) (λ cV=>?_))))⟩
 ·obtain⟨_,_,_,_,h,_⟩:=key ls aX;exact qq h
 ·obtain⟨_,_,_,_,_,_,h,_⟩:=key ls aX;omega
 ·obtain⟨k,_,_,ho,_,_,_,h,_⟩:=key ls aX;have:=aX.len;have e2:out.length=k:=by rw [ho,Anw];omega
  omega
 have nC:many<=n-out.length:=by omega
 have tn:at_<y.2:=by
  rcases aM with ⟨h,_⟩ | ⟨_,h,_⟩
  ·exact absurd qp h
  ·omega
 refine⟨λ s w5=>∃(j:Nat) (o2:List Int) (oa:Option Addr) (oc:Nat),s=[.slice oa o2.length oc,.int .u64 (j:Int)]/\j<=many/\o2=out++AnP j (EK y.1)/\JT w w5 o2 oa oc,λ s _=>match s with
   | [_,.int _ i]=>many-i.toNat
   | _=>0,⟨0,out,oa,oc,rfl,by omega,by simp,h1⟩,?_⟩
 rintro sY _ sZ _ w5 ⟨j,o2,_,_,aA,hj,lA,h5⟩;cases aA;have yB:o2.length=out.length+j:=by rw [lA];simp
 refine Aa (λ dr=>?_) (λ mh=>?_)
 ·refine (SH.start (λ _=>False) w5).Aj λ b6 w6 kn B6 S6=>Td (h5.grown B6) (by omega) (S6.get 0 rfl) λ a7 c7 w7 h7=>⟨_,_,_,rfl,?_⟩;rw [show IntKind.u64.wrap ((j:Int)+1)=((j+1:Nat):Int) by rw [Ar (by omega) (by omega)];omega];refine⟨⟨j+1,_,a7,c7,rfl,by omega,?_,h7⟩,?_⟩
  ·rw [lA,List.replicate_succ',AnA]
  ·simp only [AnF];omega
 ·have xp:j=many:=by omega
  subst xp;refine⟨⟨y.2,o2,sY,sZ,rfl,h5,?_,by omega,by omega,?_⟩,?_⟩
  ·intro x hx;rw [lA] at hx;rcases Aow.1 hx with h | h
   ·exact hI x h
   ·rw [(List.mem_replicate.1 h).2];exact oX
  ·intro ls aX;obtain⟨k,nx,x,g1,_,g3,g4,g5,g6,g7,g8⟩:=key ls aX;rw [hy] at g3;have lY:=Aoj g3;have ex:EK y.1=x:=by rw [lY];exact L7
   have wZ:y.2=nx:=by rw [lY]
   refine⟨k+j,g5,?_,by rw [wZ];exact g8⟩;rw [lA,g7,g1,ex]
  ·simp only [AnF];omega
end
theorem YU{w w1:World}{a:Option Addr}{c:Nat}{xs:List Int}(h:JT w w1 xs a c)(hl:xs.length+1<=1000000){x:Int}{b:Nat}{t:TypeId}(hb:w1.heap[b]?=some (.cells #[.int .i64 x] t (0,0))){f:Value->World->Prop}
  (hf:∀ a' c' w',JT w w' (xs++[x]) a' c'->Ae (λ k=>AG a=some k) w1 w'->(∀ k,AG a'=some k->AG a=some k\/w1.heap.size<=k)->f (.slice a' (xs++[x]).length c') w'):CD Tryz.prog (Builtin.append_ #[ty.AY,ty.AY] ty.AY #[.slice a xs.length c,.slice (some ⟨b,0,none⟩) 1 1]) f w1:=by
 have aZ:Rd w1 (some ⟨b,0,none⟩) ([x].map DK):=by
  have:=Rd.Ak hb;simpa [DK] using this
 obtain⟨a5,c5,w2,aD,aG,dF,hnw⟩:=Bq (ty:=ty.AY) (mc:=1) AhI rfl (by omega) (by omega) h.row aZ (m:=1) rfl (by simp [DK];rfl) (by omega);unfold CD;rw [aD];have e:xs.length+1=(xs++[x]).length:=by simp
 rw [e] at aG ⊢;refine hf a5 c5 w2 ⟨by rw [Aov];exact aG,λ k hk=>?_,h.An.trans (dF.below h.An.size λ k hk he=>by have:=h.new k he;omega)⟩ dF hnw;rcases hnw k hk with h1 | h1
 ·exact h.new k h1
 ·exact AnJ h.An.size h1
theorem Jt{c0:UInt8}{first:Int}{s:List Nat}{l:List UInt8}(hl:l=c0 :: E4 first s)(hf:Hw first)(hx:∀ x∈s,x<18446744073709551616) :
  takeN l 1=some (Fk first,1+(E6 first).length)/\1+(E6 first).length<l.length/\(l.getD (1+(E6 first).length) 0).toNat=GZ (Mf s)/\l.drop (1+(E6 first).length+1)=Ba s (GZ (Mf s)):=by
 have lg:=PZ hx;have e:l.drop 1=Ag (Fk first)++(AnG (GZ (Mf s)) :: Ba s (GZ (Mf s))):=by rw [hl];rfl
 have e2:=BT e;have hlen:l.length=1+(E6 first).length+1+(Ba s (GZ (Mf s))).length:=by rw [hl];simp [E4];omega
 refine⟨BZ (at_:=1) (HP hf.1 hf.2) e,by omega,?_,?_⟩
 ·have:(l.drop (1+(E6 first).length))[0]?=some (AnG (GZ (Mf s))):=by
   have e3:l.drop (1+(E6 first).length)=AnG (GZ (Mf s)) :: Ba s (GZ (Mf s)):=e2;rw [e3];rfl
  rw [List.getElem?_drop,Nat.add_zero] at this;rw [List.getD,this];exact D4 (by omega)
 ·rw [<- Aop];have e3:l.drop (1+(E6 first).length)=AnG (GZ (Mf s)) :: Ba s (GZ (Mf s)):=e2;rw [e3];rfl
theorem Afq{s:List Nat}{m:Nat}(hm:s.length=m)(hn:m<=4096)(hx:∀ x∈s,x<18446744073709551616):IH (m:Int) (GZ (Mf s):Int)/\UL (Ba s (GZ (Mf s))) m (GZ (Mf s))/\BB (Ba s (GZ (Mf s))) m (GZ (Mf s))=s:=by
 have lg:=PZ hx;have aB:=(Jo s _).1 (XB (Mf s)).1;have hu:=LL aB;rw [hm] at hu;exact⟨⟨by omega,by omega,by omega,by omega⟩,⟨by rw [CH,hm],by rw [hu]⟩,hu⟩
theorem Afz{x y:Int}(hx:Hw x)(hy:Hw y):IntKind.i64.wrap (x+IntKind.i64.wrap (y-x))=y:=by
 unfold Hw at hx hy;rw [Co,Co];split <;> split <;> omega
theorem AbR{x m:Int}(hx:Hw x)(hm:Hw m)(hle:m<=x):IntKind.i64.wrap (IntKind.u64.wrap (IntKind.u64.wrap m+((x-m).toNat:Int)))=x:=by
 unfold Hw at hx hm;rw [Co,wrap_u64,wrap_u64];split <;> omega
theorem AcF{ls:List Int}{i:Nat}(h:i+1<ls.length):(CC ls)[i]?=some (Fk (IntKind.i64.wrap (ls[i+1]-ls[i]))):=by
 have hr:i<ls.length-1:=by omega
 simp only [CC,List.getElem?_map,List.getElem?_range hr,Option.map_some];rw [GV h,GV (by omega)]
theorem AbQ{ls:List Int}{i:Nat}(h:i<ls.length):(CU ls)[i]?=some ((ls[i]-HZ ls).toNat):=by simp [CU,h]
theorem AgA{α:Type}{xs ys:List α}{i:Nat}{y:α}(h:xs=ys)(hy:ys[i]?=some y)(hi:i<xs.length):xs[i]=y:=by
 subst h;rw [List.getElem?_eq_getElem hi] at hy;exact Aoj hy
def Fy(fm:Nat)(ls:List Int):Int:=if fm=2 then ls.headD 0 else HZ ls
def Q9(fm:Nat)(ls:List Int):List Nat:=if fm=2 then CC ls else CU ls
theorem QB{l:List UInt8}{n fm:Nat}{ls:List Int}(h:Gm l n ls)(eh:fm=(l.getD 0 0).toNat)(hf:fm=2\/fm=3)(hn:0<n) :
  Hw (Fy fm ls)/\(∀ x∈Q9 fm ls,x<18446744073709551616)/\l=AnG fm :: E4 (Fy fm ls) (Q9 fm ls)/\(Q9 fm ls).length=(if fm=2 then n-1 else n):=by
 have hp:0<ls.length:=by have:=h.len;omega
 have aQ:ls≠[]:=AoP.1 hp;have he:=h.enc;rw [<- eh] at he;have hlen:=h.len;rcases hf with rfl | rfl
 ·refine⟨?_,Qz,?_,?_⟩
  ·have:=EF h.num hp 0;simpa [Fp,Fy] using this
  ·rw [he];simp only [DR];rw [if_neg aQ];rfl
  ·simp [Q9,CC,hlen]
 ·refine⟨EF h.num hp _,PT h.num,?_,?_⟩
  ·rw [he];simp only [DR];rw [if_neg aQ];rfl
  ·simp [Q9,CU,hlen]
section
variable {w:World}{a:Option Addr}{c:Nat}{l:List UInt8}
theorem ZQ{u:Nat}(hu:u<18446744073709551616):Calls Tryz.prog f.AgJ #[.int .u64 (u:Int)] w (AB λ v w'=>w'=w/\v=.int .i64 (EK u)):=by
 apply R.TW
 delta R.I R.W R.Wu;try dsimp only [R.Ps]
 rw [UM hu];exact⟨rfl,rfl⟩
theorem Ve(hl:Rd w a (l.map Af))(hc:l.length<=c)(hs:l.length<=9223372036854775807)(h0:0<l.length){fm:Nat}(eh:fm=(l.getD 0 0).toNat)(hf:fm=2\/fm=3){n:Nat}(hn:n<=4096) :
  Calls Tryz.prog f.Jj #[.slice a l.length c,.int .i64 (n:Int)] w (AB λ v w'=>F2 l n w w' v):=by
 apply R.PY
 delta R.Ad R.VA R.BL R.Ci R.D R.F R.G R.H R.I R.J R.Ks R.Lu R.Ly R.N R.O R.Aia R.Rs R.S R.U R.W R.Wu R.X R.Y R.Zis;try dsimp only [R.Ps]
 refine Az (λ hz=>?_) (λ l8=>?_)
 ·have cZ:n=0:=by omega
  subst cZ;refine⟨[],none,0,_,rfl,JT.nil w,by simp,by simp,λ _=>rfl,λ ls aX=>?_⟩;have rG:ls=[]:=List.eq_nil_of_length_eq_zero aX.len;subst rG;have he:=aX.enc;rw [<- eh] at he;have h1:l.length=1:=by
   rw [he];rcases hf with rfl | rfl <;> simp [DR]
  exact⟨by simp [h1],rfl⟩
 have cZ:0<n:=by omega
 refine (EB hl hc hs 1).mono ?_;rintro _ w ⟨_,rfl,rfl,rfl⟩;cases hy:takeN l 1 with
 | none =>
  refine⟨_,_,_,rfl,Au (λ _=>F2.bad (.refl _ _) λ ls aX=>?_) (λ h=>absurd h (by decide))⟩;obtain⟨k1,k2,k3,_⟩:=QB aX eh hf cZ;have:=(Jt k3 k1 k2).1;rw [hy] at this;cases this
 | some y =>
 rw [AaJ];have sS:=AZ (n:=y.1) (k:=y.2) hy;have oX:Hw (EK y.1):=Rl sS.1;refine⟨_,_,_,rfl,Au (λ h=>absurd rfl h) (λ _=>Aa (λ ju=>F2.bad (.refl _ _) λ ls aX=>?_) (λ aB=>?_))⟩
 ·obtain⟨k1,k2,k3,_⟩:=QB aX eh hf cZ;obtain⟨q1,q2,_⟩:=Jt k3 k1 k2;rw [hy] at q1;have:=Aoj q1;have:y.2=1+(E6 (Fy fm ls)).length:=by rw [this]
  omega
 have hj:y.2<l.length:=by omega
 refine Wg AhI (c:=n) (by omega) (by omega) λ b2 w2 d' B2 R2=>⟨_,_,_,rfl,?_⟩;have h2:JT w w2 [] (some ⟨b2,0,none⟩) n:=⟨R2,λ k hk=>by cases hk;exact d',B2⟩;obtain⟨p,rfl,aJ⟩:=GA (hl.grown B2) h0;have dB:=(l.getD 0 0).toNat_lt;obtain⟨m,hm⟩:∃ m,m=(if fm=2 then n-1 else n):=⟨_,rfl⟩;obtain⟨o0,ho0⟩:∃ o:List Int,o=(if fm=2 then [EK y.1] else []):=⟨_,rfl⟩;have yA:o0.length+m=n:=by
  rw [ho0,hm];rcases hf with rfl | rfl
  ·simp;omega
  ·simp
 have rU:∀ x∈o0,Hw x:=by
  rw [ho0];split
  ·intro x hx;rw [Aox.1 hx];exact oX
  ·simp
 refine⟨λ s w5=>∃(oa:Option Addr) (oc:Nat),s=[.int .i64 (m:Int),.slice oa o0.length oc]/\JT w w5 o0 oa oc,?_,?_⟩
 ·refine⟨⟨by omega,by omega⟩,_,aJ,Az (λ he=>?_) (λ he=>?_)⟩
  ·have cH:fm=2:=by omega
   refine (SH.start (λ _=>False) w2).Aj λ b3 w3 cf B3 S3=>Td (h2.grown B3) (by simp) (S3.get 0 rfl) λ a4 c4 w4 h4=>⟨_,_,_,rfl,a4,c4,?_,?_⟩
   ·rw [wrap_i64 (by omega) (by omega),hm,ho0,if_pos cH,if_pos cH];simp;omega
   ·rw [ho0,if_pos cH];exact h4
  ·have cH:¬ fm=2:=by omega
   refine⟨some ⟨b2,0,none⟩,n,?_,?_⟩
   ·rw [hm,ho0,if_neg cH,if_neg cH];rfl
   ·rw [ho0,if_neg cH];exact h2
 rintro _ oa _ oc w5 ⟨_,_,aA,h5⟩;cases aA;refine (SH.start (λ _=>False) w5).MC λ w6 B6 _=>?_;have C6:=Ac h5.An B6;have h6:=h5.grown B6;rw [wrap_i64 (n:=(y.2:Int)+1) (by omega) (by omega),show ((y.2:Int)+1).toNat=y.2+1 by omega];refine⟨⟨by omega,by omega,by omega⟩,⟨by omega,by omega⟩,?_⟩;have me:=W9 (q:=y.2+1) (hl.grown C6) hc;obtain⟨p',bj,hcellj⟩:=byte_at (hl.grown C6) hj;cases bj;refine⟨_,by rw [AnF];exact hcellj,?_⟩;have xd:=(l[y.2]).toNat_lt;rw [wrap_i64 (n:=(l[y.2].toNat:Int)) (by omega) (by omega),<- AnC (i:=y.2+1) (l:=l)];have rK:m<=4096:=by omega
 refine (G0 me (m:Int) (l[y.2].toNat:Int) (by rw [AnC];omega)).mono ?_;rintro _ w7 ⟨_,rfl,xs,xa,xc,e,rfl,mB,B7,sQ,aM⟩;rw [AnF,AnF] at aM;have h7:=h6.grown B7;have hg:l.getD y.2 0=l[y.2]:=Kv hj;have yc:xs.length<=m/\(e=0->xs.length=m)/\∀ x∈xs,x<18446744073709551616:=by
  rcases aM with ⟨ha,_,rfl,rfl⟩ | ⟨_,rfl,he⟩
  ·refine⟨by rw [Dp];omega,λ _=>Dp _ _ _,λ x hx=>?_⟩;have:=AcM _ _ _ x hx;have lg:l[y.2].toNat<=64:=by have:=ha.2.2.2;omega
   exact Nat.lt_of_lt_of_le this (Nat.pow_le_pow_right (n:=2) (by omega) lg)
  ·refine⟨by simp,λ h=>?_,by simp⟩;rw [h] at he;split at he <;> cases he
 obtain⟨hxm1,hxm2,jA⟩:=yc;have key:∀ ls,Gm l n ls->e=0/\xs=Q9 fm ls/\EK y.1=Fy fm ls:=by
  intro ls aX;obtain⟨k1,k2,k3,k4⟩:=QB aX eh hf cZ;obtain⟨q1,q2,q3,q4⟩:=Jt k3 k1 k2;rw [hy] at q1;have uT:=Aoj q1;have oW:y.2=1+(E6 (Fy fm ls)).length:=by rw [uT]
  have sR:y.1=Fk (Fy fm ls):=by rw [uT]
  rw [<- oW,hg] at q3;rw [<- oW] at q4;rw [<- hm] at k4;obtain⟨u1,u2,u3⟩:=Afq k4 rK k2;rw [q3,q4] at aM;rcases aM with ⟨_,_,bV,he⟩ | ⟨bC,_⟩
  ·exact⟨he,by rw [bV,u3],by rw [sR];exact L7⟩
  ·exact absurd ⟨u1,u2⟩ bC
 refine⟨_,_,_,_,rfl,?_⟩;refine⟨λ s w8=>∃(i:Nat) (fi:Int) (out:List Int) (oa:Option Addr) (oc:Nat),s=[.int .i64 fi,.slice oa out.length oc,.int .i64 (i:Int)]/\i<=xs.length/\Hw fi/\out.length=o0.length+i/\(∀ x∈out,Hw x)/\JT w w8 out oa oc/\Rd w8 xa (xs.map Hr)/\(∀ k p,AG oa=some k->xa=some p->p.block≠k) /\
   (∀ ls,Gm l n ls->out=ls.take (o0.length+i)/\fi=(if fm=2 then ls.getD i 0 else Fy fm ls)),λ s _=>match s with
   | [_,_,.int _ i]=>xs.length-i.toNat
   | _=>0,⟨0,EK y.1,o0,oa,oc,rfl,by omega,oX,rfl,rU,h7,mB,λ k p hk hp=>(by have:=h6.row.lt hk;have:=sQ p hp;omega),λ ls aX=>?_⟩,?_⟩
 ·obtain⟨_,_,k3⟩:=key ls aX;have hp:0<ls.length:=by have:=aX.len;omega
  have xl:ls.headD 0=ls.getD 0 0:=by cases ls <;> rfl
  refine⟨?_,?_⟩
  ·rw [ho0];rcases hf with rfl | rfl
   ·simp only [if_pos,List.length_cons,AoJ];rw [k3];cases ls with
    | nil=>simp at hp
    | cons x r=>rfl
   ·simp
  ·rw [k3];rcases hf with rfl | rfl
   ·simp only [Fy,if_pos];exact xl
   ·rfl
 rintro fi uV _ uW _ w8 ⟨i,_,out,_,_,aA,hi,kr,dt,uF,h8,mC,gi,hT⟩;cases aA;refine Aa (λ dr=>⟨⟨by omega,dr⟩,?_⟩) (λ aL=>?_)
 ·have gA:i<xs.length:=by omega
  have hu:=jA _ (Aot gA);obtain⟨p2,iw,hcx⟩:=Ug mC gA;have uG:p2.block<w8.heap.size:=by
   have:=World.block_lt_of_cell? w8 _ hcx;rwa [Bp] at this
  subst iw;obtain⟨p3,hp3,hcell3⟩:=GA (hl.grown h8.An) h0;cases hp3;refine⟨_,by rw [AnF];exact hcx,⟨by omega,by omega⟩,_,hcell3,?_⟩;have gQ:xs.length-((i+1:Nat):Int).toNat<xs.length-((i:Nat):Int).toNat:=by
   simp only [AnF];omega
  rw [Ai (by omega)];have next:∀ {v bX:Int} {wx:World} {b:Nat} {t:TypeId},Below w8.heap.size w8 wx->wx.heap[b]?=some (.cells #[.int .i64 v] t (0,0))->Hw v->Hw bX ->
    (∀ ls,Gm l n ls->ls.take (o0.length+(i+1))=ls.take (o0.length+i)++[v]/\bX=(if fm=2 then ls.getD (i+1) 0 else Fy fm ls)) ->
    CD Tryz.prog (Builtin.append_ #[ty.AY,ty.AY] ty.AY #[.slice uV out.length uW,.slice (some ⟨b,0,none⟩) 1 1]) (λ r aW=>∃(t77:Option Addr) (np nk:Nat),r=.slice t77 np nk /\
     (∃(i_1:Nat) (fi:Int) (out:List Int) (oa:Option Addr) (oc:Nat),[Value.int .i64 bX,.slice t77 np nk,.int .i64 ((i+1:Nat):Int)]=[.int .i64 fi,.slice oa out.length oc,.int .i64 (i_1:Int)]/\i_1<=xs.length/\Hw fi/\out.length=o0.length+i_1/\(∀ x∈out,Hw x)/\JT w aW out oa oc/\Rd aW (some p2) (xs.map Hr)/\(∀ k p,AG oa=some k->some p2=some p->p.block≠k) /\
      (∀ ls,Gm l n ls->out=ls.take (o0.length+i_1)/\fi=(if fm=2 then ls.getD i_1 0 else Fy fm ls)))/\xs.length-((i+1:Nat):Int).toNat<xs.length-((i:Nat):Int).toNat) wx:=by
   intro v bX wx b t Bx hb hv qu hP;refine YU (h8.grown Bx) (by omega) hb λ pL pP aW pe dm vB=>⟨_,_,_,rfl,⟨i+1,bX,_,pL,pP,rfl,by omega,qu,by simp [dt];omega,?_,pe,?_,?_,λ ls aX=>?_⟩,gQ⟩
   ·intro x hx;rcases Aow.1 hx with h | h
    ·exact uF x h
    ·rw [Aox.1 h];exact hv
   ·exact (mC.grown Bx).keeps dm λ q hq hr=>gi _ q hr hq rfl
   ·intro k q hk hq;rcases vB k hk with h | h
    ·exact gi k q h hq
    ·have:=Bx.size;cases hq;omega
   ·obtain⟨t1,_⟩:=hT ls aX;obtain⟨g1,g2⟩:=hP ls aX;exact⟨by rw [g1,t1],g2⟩
  refine Az (λ he=>?_) (λ he=>?_)
  ·have cH:fm=2:=by omega
   have nJ:o0.length=1:=by rw [ho0,if_pos cH];rfl
   refine (ZQ hu).mono ?_;rintro _ w9 ⟨_,rfl,rfl,rfl⟩;refine⟨_,rfl,(SH.start (λ _=>False) w9).Aj λ bW cX jq eB cP=>next eB (cP.get 0 rfl) (LN _) (LN _) λ ls aX=>?_⟩;obtain⟨_,k2,_⟩:=key ls aX;obtain⟨_,t2⟩:=hT ls aX;rw [if_pos cH] at t2;have bm:(CC ls).length=ls.length-1:=by simp [CC]
   have bV:xs=CC ls:=by rw [k2];simp [Q9,cH]
   have fy:i+1<ls.length:=by rw [bV,bm] at gA;omega
   have gD:=AgA bV (AcF fy) gA;have bU:IntKind.i64.wrap (fi+EK xs[i])=ls[i+1]:=by
    rw [gD,L7,t2,GV (by omega)];exact Afz (aX.num _ (Aot _)) (aX.num _ (Aot _))
   rw [bU,nJ,if_pos cH,GV fy,show 1+(i+1)=(i+1)+1 by omega,show 1+i=i+1 by omega];exact⟨Aou fy,rfl⟩
  ·have cH:¬ fm=2:=by omega
   have ze:fm=3:=by omega
   have nJ:o0.length=0:=by rw [ho0,if_neg cH];rfl
   refine (SH.start (λ _=>False) w8).Aj λ bW cX jq eB cP=>next eB (cP.get 0 rfl) (LN _) kr λ ls aX=>?_;obtain⟨_,k2,_⟩:=key ls aX;obtain⟨_,t2⟩:=hT ls aX;rw [if_neg cH] at t2 ⊢;have bV:xs=CU ls:=by rw [k2];simp [Q9,cH]
   have fy:i<ls.length:=by rw [bV] at gA;simpa [CU] using gA
   have bB:=Aot fy;have qv:Fy fm ls=HZ ls:=by simp [Fy,cH]
   have gD:=AgA bV (AbQ fy) gA;have bU:IntKind.i64.wrap (IntKind.u64.wrap (IntKind.u64.wrap fi+(xs[i]:Int)))=ls[i]:=by
    rw [gD,t2,qv];exact AbR (aX.num _ bB) (EF aX.num (by omega) _) (Sv bB)
   rw [bU,nJ,Nat.zero_add,Nat.zero_add];exact⟨Aou fy,t2⟩
 ·have cL:i=xs.length:=by omega
  have pb:(e==0)=true->out.length=n:=λ h=>by
   have he:e=0:=by simpa using h
   have:=hxm2 he;omega
  refine⟨out,uV,uW,_,rfl,h8,uF,by omega,pb,λ ls aX=>?_⟩;obtain⟨k1,_,_⟩:=key ls aX;obtain⟨t1,_⟩:=hT ls aX;have dM:=hxm2 k1;refine⟨by simp [k1],?_⟩;rw [t1,Aoy (by have:=aX.len;omega)]
end
def Mt(l:List UInt8)(n:Int)(w w':World)(v:Value):Prop :=
 ∃(ls:List Int) (a:Option Addr) (c:Nat) (e:Int),v=.tuple #[.slice a ls.length c,.int .i64 e]/\Rd w' a (ls.map DK)/\Below w.heap.size w w'/\ls.length<=4096/\(∀ x∈ls,Hw x) /\
  ((¬ CB n/\ls=[]/\e=2)\/(CB n/\Gm l n.toNat ls/\0<l.length/\(∀ ms,Gm l n.toNat ms->ms=ls)/\e=0)\/(CB n/\(∀ ms,¬ (Gm l n.toNat ms/\0<l.length))/\ls=[]/\e=60))
theorem Mt.bad{l:List UInt8}{n:Int}{w w':World}(hb:Below w.heap.size w w')(hn:CB n)(h:∀ ms,¬ (Gm l n.toNat ms/\0<l.length)):Mt l n w w' (.tuple #[.slice none 0 0,.int .i64 60]) :=
 ⟨[],none,0,60,rfl,Rd.nil _ _,hb,by simp,by simp,.inr (.inr ⟨hn,h,rfl,rfl⟩)⟩
theorem Mt.arg{l:List UInt8}{n:Int}{w w':World}(hb:Below w.heap.size w w')(hn:¬ CB n):Mt l n w w' (.tuple #[.slice none 0 0,.int .i64 2]) :=
 ⟨[],none,0,2,rfl,Rd.nil _ _,hb,by simp,by simp,.inl ⟨hn,rfl,rfl⟩⟩
theorem Xn:enters Tryz.prog f.Ji=true:=by kernel_rfl
theorem Xo:enters Tryz.prog f.Jj=true:=by kernel_rfl
section
variable {w:World}{a:Option Addr}{c:Nat}{l:List UInt8}
theorem TS(hl:Rd w a (l.map Af))(hc:l.length<=c)(hs:l.length<=9223372036854775807)(n:Int) :
  Calls Tryz.prog f.ZN #[.slice a l.length c,.int .i64 n] w (AB λ v w'=>Mt l n w w' v):=by
 apply R.Oy
 delta R.BL R.Cb R.F R.G R.H R.I R.Ly R.O R.S R.W R.X R.Zb R.Zf;try dsimp only [R.Ps]
 refine⟨λ s w1=>∃ b:Bool,s=[.bool b]/\w1=w/\(b=true↔¬ CB n),?_,?_⟩
 ·refine Aa (λ h=>⟨true,rfl,rfl,?_⟩) (λ h=>⟨_,rfl,rfl,?_⟩)
  ·unfold CB;simp;omega
  ·unfold CB;simp;omega
 rintro _ w1 ⟨b,aA,rfl,hb⟩;cases aA;refine AU (λ h=>Mt.arg (.refl _ _) (hb.1 h)) (λ h=>?_);have ax:CB n:=by
  rcases Classical.em (CB n) with h1 | h1
  ·exact h1
  ·rw [hb.2 h1] at h;cases h
 obtain⟨n,rfl⟩:∃ m:Nat,n=(m:Int):=⟨n.toNat,by have:=ax.1;omega⟩;have hn:n<=4096:=by have:=ax.2;omega
 refine Az (λ h=>Mt.bad (.refl _ _) ax λ ms hm=>by have:=hm.2;omega) (λ aQ=>?_);have h0:0<l.length:=by omega
 obtain⟨p,rfl,aJ⟩:=GA hl h0;have dB:=(l.getD 0 0).toNat_lt;refine⟨⟨by omega,by omega⟩,_,aJ,Aa (λ h=>Mt.bad (.refl _ _) ax λ ms hm=>by have:=hm.1.form;omega) (λ hle=>?_)⟩;obtain⟨fm,eh⟩:∃ fm,fm=(l.getD 0 0).toNat:=⟨_,rfl⟩;rw [<- eh] at aJ hle;have du:∀ fn,(fn=f.Ji/\fm<=1)\/(fn=f.Jj/\(fm=2\/fm=3))->enters Tryz.prog fn=true/\Calls Tryz.prog fn #[.slice (some p) l.length c,.int .i64 (n:Int)] w1 (AB λ v w'=>F2 l n w1 w' v):=by
  rintro fn (⟨rfl,h⟩ | ⟨rfl,h⟩)
  ·exact⟨Xn,Vd hl hc hs h0 eh h hn⟩
  ·exact⟨Xo,Ve hl hc hs h0 eh h hn⟩
 refine⟨λ s w2=>w2=w1/\∃ fn,s=[.func (.func fn) #[] #[]]/\((fn=f.Ji/\fm<=1)\/(fn=f.Jj/\(fm=2\/fm=3))),?_,?_⟩
 ·refine⟨⟨by omega,by omega⟩,_,aJ,Aa (λ h=>⟨rfl,_,rfl,.inr ⟨rfl,by omega⟩⟩) (λ h=>⟨rfl,_,rfl,.inl ⟨rfl,by omega⟩⟩)⟩
 rintro _ _ _ w2 ⟨rfl,fn,aA,dq⟩;cases aA;obtain⟨hent,aj⟩:=du _ dq;rw [hent];refine aj.mono ?_;rintro _ w3 ⟨_,rfl,ms,a3,c3,ok,rfl,h3,qB,gm,rV,aE⟩;refine⟨_,_,_,_,rfl,A5 (AU (λ hk=>?_) (λ hk=>Mt.bad h3.An ax λ ls aX=>?_))⟩
 case refine_2 =>
  rw [AnF] at aX;have:=(aE ls aX.1).1;rw [this] at hk;cases hk
 have hlen:=rV hk;obtain⟨p',bj,hcell3⟩:=GA (hl.grown h3.An) h0;cases bj;rw [<- eh] at hcell3;refine⟨⟨by omega,by omega⟩,_,hcell3,?_⟩;rw [wrap_i64 (by omega) (by omega)];refine (GX (fm:Int) h3.row.rd h3.row.le qB).mono ?_;rintro _ w4 ⟨_,rfl,hE⟩;obtain⟨a4,c4,rfl,h4⟩:=QH.F9 (by omega) gm hE;have C4:=Ac h3.An h4.An;refine⟨_,_,_,_,rfl,(GO (l:=DR fm ms) (c:=c4) h4.rd (hl.grown C4)).mono ?_⟩;rintro _ w5 ⟨_,rfl,rfl,rfl⟩;refine⟨_,rfl,A5 (Aa (λ he=>?_) (λ he=>Mt.bad C4 ax λ ls aX=>he ?_))⟩
 ·refine⟨ms,a3,c3,0,rfl,h3.row.rd.grown h4.An,C4,gm,qB,.inr (.inl ⟨ax,?_,h0,?_,rfl⟩)⟩
  ·rw [AnF];exact⟨hlen,qB,by omega,by rw [<- eh];exact he.symm⟩
  ·intro ls aX;rw [AnF] at aX;exact ((aE ls aX).2).symm
 ·rw [AnF] at aX;have h1:=(aE ls aX.1).2;have h2:=aX.1.enc;rw [<- eh] at h2;rw [h1,<- h2]
end
theorem AdN:Ia Tryz.prog ty.BM=some (ty.AD,3,32,.agg #[.int .i64 0,.int .i64 0,.string ⟨#[]⟩]):=by kernel_rfl
structure SS(w w':World)(vs:List Ax)(a:Option Addr)(c:Nat):Prop where
 row:Row w' ty.AD 3 a vs.length c (AW vs)
 new:∀ k,AG a=some k->w.heap.size<=k
 An:Below w.heap.size w w'
theorem SS.nil(w:World):SS w w [] none 0:=⟨Row.nil _ _ _,by simp [AG],.refl _ _⟩
theorem SS.grown{w w1 w2:World}{xs:List Ax}{a:Option Addr}{c:Nat}(h:SS w w1 xs a c)(hb:Below w1.heap.size w1 w2):SS w w2 xs a c:=⟨h.row.grown hb,h.new,Ac h.An hb⟩
theorem Aa2(xs ys:List Ax):AW (xs++ys)=AW xs++AW ys:=by simp [AW]
theorem Te{w w1:World}{a:Option Addr}{c:Nat}{xs:List Ax}(h:SS w w1 xs a c)(hl:xs.length+1<=1000000){x:Ax}{b:Nat}{t:TypeId}(hb:w1.heap[b]?=some (.cells #[.int .i64 x.1,.int .i64 x.2.1,.string x.2.2] t (0,0))){f:Value->World->Prop}
  (hf:∀ a' c' w',SS w w' (xs++[x]) a' c'->f (.slice a' (xs++[x]).length c') w'):CD Tryz.prog (Builtin.append_ #[ty.BM,ty.BM] ty.BM #[.slice a xs.length c,.slice (some ⟨b,0,none⟩) 1 1]) f w1:=by
 have aZ:Rd w1 (some ⟨b,0,none⟩) (AW [x]):=by
  have:=Rd.Ak hb;simpa [Hs] using this
 obtain⟨a5,c5,w2,aD,aG,dF,hnw⟩:=Bq (ty:=ty.BM) (mc:=1) AdN rfl (by omega) (by omega) h.row aZ (m:=1) rfl (by simp [Hs];exact⟨rfl,rfl,rfl⟩) (by omega);unfold CD;rw [aD];have e:xs.length+1=(xs++[x]).length:=by simp
 rw [e] at aG ⊢;refine hf a5 c5 w2 ⟨by rw [Aa2];exact aG,λ k hk=>?_,h.An.trans (dF.below h.An.size λ k hk he=>by have:=h.new k he;omega)⟩;rcases hnw k hk with h1 | h1
 ·exact h.new k h1
 ·exact AnJ h.An.size h1
/-! ### the values that are not null -/
theorem AeC{kind:Int}{ls:List Ax}(hg:Bi kind ls)(h3:kind≠3):AP ls=(CW ls).map λ x=>(kind,x,E0):=by
 unfold CW;rw [List.map_map]
 conv=>lhs;rw [<- List.map_id (AP ls)]
 apply List.map_congr_left;intro v hv;obtain⟨hm,aQ⟩:=List.mem_filter.1 hv;have ar:=hg.all v hm;simp only [okV,Bool.and_eq_true,Bool.or_eq_true,decide_eq_true_eq] at ar;have dd:v.1=kind:=ar.2.resolve_right (by simpa using aQ);have hr:=ar.1;have oE:¬ v.1=3:=by rw [dd];exact h3
 have he:v.2.2=E0:=by
  unfold AL at hr;split at hr
  ·simp at hr;exact hr.2
  ·split at hr
   ·simpa using hr
   ·split at hr
    ·simp at hr;exact hr.2
    ·simp at hr
 show v=(kind,v.2.1,E0);rw [<- dd,<- he]
theorem AbS{kind:Int}{ls:List Ax}(hg:Bi kind ls)(h3:kind=3):AP ls=(Bs ls).map λ s=>(kind,0,s):=by
 unfold Bs;rw [List.map_map]
 conv=>lhs;rw [<- List.map_id (AP ls)]
 apply List.map_congr_left;intro v hv;obtain⟨hm,aQ⟩:=List.mem_filter.1 hv;have ar:=hg.all v hm;simp only [okV,Bool.and_eq_true,Bool.or_eq_true,decide_eq_true_eq] at ar;have dd:v.1=kind:=ar.2.resolve_right (by simpa using aQ);have hr:=ar.1;have oE:v.1=3:=by rw [dd];exact h3
 have he:v.2.1=0:=by
  unfold AL at hr;rw [if_neg (by omega),if_neg (by omega),if_neg (by omega),if_pos oE] at hr;simp at hr;exact hr.1
 show v=(kind,0,v.2.2);rw [<- dd,<- he]
theorem AeX{ls:List Ax}{o:List UInt8}(hg:Bi 3 ls)(h:Gp 3 ls o):Hv o (Bs ls).length (Bs ls)/\0<o.length:=by
 have key:∀(f:Int) (b:List UInt8),(0<=f/\f<=1)->Fl (Bs ls) f b->Hv b (Bs ls).length (Bs ls)/\0<b.length:=by
  intro f b hf hE;have hh:((b.getD 0 0).toNat:Int)=f:=by
   cases hE with
   | plain=>rfl
   | table t wd ht hw=>rfl
  refine⟨⟨rfl,by rw [hh];exact hg.enc f hf,by rw [hh];exact hE⟩,?_⟩;cases hE with
  | plain=>simp
  | table t wd ht hw=>simp
 cases h with
 | text h b0 b1 h0 h1 =>
  split
  ·exact key 1 b1 (by omega) h1
  ·exact key 0 b0 (by omega) h0
 | num h=>exact absurd rfl h
theorem AbZ{f:Nat}(hf:f<=3)(l:List Int):((DR f l).getD 0 0).toNat=f/\0<(DR f l).length:=by
 rcases (by omega:f=0\/f=1\/f=2\/f=3) with rfl | rfl | rfl | rfl <;> exact⟨rfl,by simp [DR]⟩
theorem Ag9{kind:Int}{ls:List Ax}{o:List UInt8}(hg:Bi kind ls)(h3:kind≠3)(h:Gp kind ls o):Gm o (CW ls).length (CW ls)/\0<o.length:=by
 cases h with
 | text h b0 b1 h0 h1=>exact absurd h h3
 | num h =>
  obtain⟨e1,e2⟩:=AbZ (Ti (CW ls)) (CW ls);exact⟨⟨rfl,hg.Ai6,by rw [e1];exact Ti _,by rw [e1]⟩,e2⟩
def AlC(kind:Int)(l:List UInt8)(n:Nat)(w w':World)(v:Value):Prop :=
 ∃(vs:List Ax) (a:Option Addr) (c:Nat) (ok:Bool),v=.tuple #[.slice a vs.length c,.bool ok]/\Rd w' a (AW vs)/\Below w.heap.size w w'/\vs.length<=4096/\(∀ v∈vs,Eb v) /\
  ∀ ls,Bi kind ls->(AP ls).length=n->(0<n->Gp kind ls l)->(n=0->l=[])->ok=true/\vs=AP ls
section
variable {w:World}{a:Option Addr}{c:Nat}{l:List UInt8}
theorem PF(kind:Int)(hl:Rd w a (l.map Af))(hc:l.length<=c)(hs:l.length<=9223372036854775807){n:Nat}(hn:n<=1024) :
  Calls Tryz.prog f.U3 #[.int .i64 kind,.slice a l.length c,.int .i64 (n:Int)] w (AB λ v w'=>AlC kind l n w w' v):=by
 apply R.L9
 delta R.Ad R.BL R.F R.G R.H R.I R.J R.Ks R.Li R.Lt R.N R.O R.Hz R.S R.T R.W R.X;try dsimp only [R.Ps]
 refine Az (λ hz=>?_) (λ l8=>Az (λ h3=>?_) (λ h3=>?_))
 ·have cZ:n=0:=by omega
  subst cZ;refine⟨[],none,0,_,rfl,Rd.nil _ _,.refl _ _,by simp,by simp,λ ls hg hf _ h0=>?_⟩;rw [h0 rfl];exact⟨rfl,(List.eq_nil_of_length_eq_zero hf).symm⟩
 ·subst h3;have cZ:0<n:=by omega
  refine (Tt hl hc hs (n:Int)).mono ?_;rintro _ w1 ⟨_,rfl,ss,a1,c1,e1,rfl,R1,B1,l1,q1⟩;have ax:CB (n:Int):=⟨by omega,by omega⟩;rw [AnF] at q1;refine⟨_,_,_,_,rfl,?_⟩;refine⟨λ s w2=>∃(i:Nat) (oa:Option Addr) (oc:Nat),s=[.slice oa ((ss.take i).map λ s=>((3:Int),(0:Int),s)).length oc,.int .i64 (i:Int)]/\i<=ss.length/\SS w1 w2 ((ss.take i).map λ s=>((3:Int),(0:Int),s)) oa oc,λ s _=>match s with
    | [_,.int _ i]=>ss.length-i.toNat
    | _=>0,⟨0,none,0,rfl,by omega,SS.nil w1⟩,?_⟩
  rintro oa _ oc _ w2 ⟨i,_,_,aA,hi,h2⟩;cases aA;refine Aa (λ aB=>⟨⟨by omega,aB⟩,?_⟩) (λ aL=>?_)
  ·have aF:i<ss.length:=by omega
   obtain⟨p,rfl,aJ⟩:=NC (R1.grown h2.An) aF;refine⟨_,by rw [AnF];exact aJ,(SH.start (λ _=>False) w2).Aj λ b3 w3 cf B3 S3=>Te (x:=(3,0,ss[i])) (h2.grown B3) (by simp;omega) (S3.get 0 rfl) λ a4 c4 w4 h4=>⟨_,_,_,rfl,?_⟩⟩;have e:(ss.take (i+1)).map (λ s=>((3:Int),(0:Int),s))=(ss.take i).map (λ s=>((3:Int),(0:Int),s))++[((3:Int),(0:Int),ss[i])]:=by
    rw [Aou aF,Aov];rfl
   rw [Ai (by omega)];refine⟨⟨i+1,a4,c4,by rw [e],by omega,by rw [e];exact h4⟩,?_⟩;simp only [AnF];omega
  ·have cL:ss.take i=ss:=Aoy (by omega);rw [cL] at h2 ⊢;refine⟨_,oa,oc,_,rfl,h2.row.rd,Ac B1 h2.An,by simp;omega,?_,λ ls hg hf ho _=>?_⟩
   ·intro v hv;obtain⟨s,_,rfl⟩:=List.mem_map.1 hv;exact⟨by simp,by simp⟩
   ·obtain⟨d1,d2⟩:=AeX hg (ho cZ);have cY:=AbS hg rfl;have fE:(Bs ls).length=n:=by rw [<- hf,cY,AnS]
    rw [fE] at d1;rcases q1 with ⟨k1,_⟩ | ⟨_,k2,rfl,_⟩ | ⟨_,k2,_⟩
    ·exact absurd ax k1
    ·rw [cY,k2.one d1];exact⟨rfl,rfl⟩
    ·exact absurd ⟨d1,d2⟩ (k2 _)
 ·have cZ:0<n:=by omega
  refine (TS hl hc hs (n:Int)).mono ?_;rintro _ w1 ⟨_,rfl,ns,a1,c1,e1,rfl,R1,B1,l1,hI,q1⟩;have ax:CB (n:Int):=⟨by omega,by omega⟩;rw [AnF] at q1;refine⟨_,_,_,_,rfl,?_⟩;refine⟨λ s w2=>∃(i:Nat) (oa:Option Addr) (oc:Nat),s=[.slice oa ((ns.take i).map λ x=>((kind:Int),(x:Int),E0)).length oc,.int .i64 (i:Int)]/\i<=ns.length/\SS w1 w2 ((ns.take i).map λ x=>((kind:Int),(x:Int),E0)) oa oc,λ s _=>match s with
    | [_,.int _ i]=>ns.length-i.toNat
    | _=>0,⟨0,none,0,rfl,by omega,SS.nil w1⟩,?_⟩
  rintro oa _ oc _ w2 ⟨i,_,_,aA,hi,h2⟩;cases aA;refine Aa (λ aB=>⟨⟨by omega,aB⟩,?_⟩) (λ aL=>?_)
  ·have aF:i<ns.length:=by omega
   obtain⟨p,rfl,aJ⟩:=Ga (R1.grown h2.An) aF;refine⟨_,by rw [AnF];exact aJ,(SH.start (λ _=>False) w2).Aj λ b3 w3 cf B3 S3=>Te (x:=(kind,ns[i],E0)) (h2.grown B3) (by simp;omega) (S3.get 0 rfl) λ a4 c4 w4 h4=>⟨_,_,_,rfl,?_⟩⟩;have e:(ns.take (i+1)).map (λ x=>((kind:Int),(x:Int),E0))=(ns.take i).map (λ x=>((kind:Int),(x:Int),E0))++[((kind:Int),(ns[i]:Int),E0)]:=by
    rw [Aou aF,Aov];rfl
   rw [Ai (by omega)];refine⟨⟨i+1,a4,c4,by rw [e],by omega,by rw [e];exact h4⟩,?_⟩;simp only [AnF];omega
  ·have cL:ns.take i=ns:=Aoy (by omega);rw [cL] at h2 ⊢;refine⟨_,oa,oc,_,rfl,h2.row.rd,Ac B1 h2.An,by simp;omega,?_,λ ls hg hf ho _=>?_⟩
   ·intro v hv;obtain⟨x,hx,rfl⟩:=List.mem_map.1 hv;exact⟨(hI x hx).1,(hI x hx).2⟩
   ·obtain⟨d1,d2⟩:=Ag9 hg h3 (ho cZ);have cY:=AeC hg h3;have fE:(CW ls).length=n:=by rw [<- hf,cY,AnS]
    rw [fE] at d1;rcases q1 with ⟨k1,_⟩ | ⟨_,_,_,k2,rfl⟩ | ⟨_,k2,_⟩
    ·exact absurd ax k1
    ·rw [cY,k2 _ d1];exact⟨rfl,rfl⟩
    ·exact absurd ⟨d1,d2⟩ (k2 _)
end
/-! ### spread -/
theorem AhV(cur:List Ax){i:Nat}(hi:i<cur.length)(v:Ax) :
  (((⟨AW cur⟩:Array Value).setIfInBounds (i*3) (.int .i64 v.1)).setIfInBounds (i*3+1) (.int .i64 v.2.1)).setIfInBounds (i*3+2) (.string v.2.2)=⟨AW (cur.set i v)⟩:=by
 apply Array.ext';simp only [Array.toList_setIfInBounds];apply List.ext_getElem?;intro j;have hl:=II cur;have bQ:=II (cur.set i v);rw [AoM] at bQ;by_cases hj:j<cur.length*3
 ·have hq:j / 3<cur.length:=by omega
  have e:j=j / 3*3+j % 3:=by omega
  have g1:=Hj cur (j / 3) (j % 3) hq (by omega);have g2:=Hj (cur.set i v) (j / 3) (j % 3) (by rw [AoM];exact hq) (by omega);rw [<- e] at g1 g2;rw [g2];simp only [List.getElem?_set,AoM,hl];by_cases dE:j / 3=i
  ·subst dE;simp only [List.getElem_set_self];rcases (by omega:j % 3=0\/j % 3=1\/j % 3=2) with h | h | h
   ·rw [h] at e ⊢;rw [if_neg (by omega),if_neg (by omega),if_pos (by omega),if_pos (by omega)];rfl
   ·rw [h] at e ⊢;rw [if_neg (by omega),if_pos (by omega),if_pos (by omega)];rfl
   ·rw [h] at e ⊢;rw [if_pos (by omega),if_pos (by omega)];rfl
  ·rw [if_neg (by omega),if_neg (by omega),if_neg (by omega),g1];rw [List.getElem_set_ne (λ h=>dE h.symm)]
 ·rw [Aoo (by simp only [AoM,hl];omega),Aoo (by rw [bQ];omega)]
theorem Afu(n:Nat):madeCells (Value.agg #[.int .i64 0,.int .i64 0,.string ⟨#[]⟩]).cells (n*3)=⟨AW (AnP n (0,0,E0))⟩:=by
 apply Array.ext';apply List.ext_getElem?;intro j;by_cases hj:j<n*3
 ·have g2:=Hj (AnP n (0,0,E0)) (j / 3) (j % 3) (by rw [List.length_replicate];omega) (by omega);have e:j / 3*3+j % 3=j:=by omega
  rw [e] at g2;rw [g2,List.getElem_replicate];have hc:(Value.agg #[.int .i64 0,.int .i64 0,.string ⟨#[]⟩]).cells=#[.int .i64 0,.int .i64 0,.string ⟨#[]⟩]:=rfl;rw [hc];have av:(#[Value.int .i64 0,.int .i64 0,.string ⟨#[]⟩]:Array Value).size=3:=rfl;rcases (by omega:j % 3=0\/j % 3=1\/j % 3=2) with h | h | h <;> simp [madeCells,hj,h,Hs]
 ·rw [Aoo (by rw [Array.length_toList,E2];omega),Aoo (by rw [II,List.length_replicate];omega)]
structure RdN(w w':World)(a:Option Addr)(xs:List Value):Prop where
 rd:Rd w' a xs
 new:∀ k,AG a=some k->w.heap.size<=k
theorem RdN.nil(w w':World):RdN w w' none []:=⟨Rd.nil _ _,λ k hk=>by cases hk⟩
theorem RdN.grown{w w' w2:World}{a:Option Addr}{xs:List Value}(h:RdN w w' a xs)(B:Below w'.heap.size w' w2):RdN w w2 a xs:=⟨h.rd.grown B,h.new⟩
theorem RdN.before{w0 w w':World}{a:Option Addr}{xs:List Value}(h:RdN w w' a xs)(B:Below w0.heap.size w0 w):RdN w0 w' a xs:=⟨h.rd,λ k hk=>AnJ B.size (h.new k hk)⟩
def AmB(bits:List Nat)(vs:List Ax)(w w':World)(v:Value):Prop :=
 ∃(os:List Ax) (a:Option Addr) (c:Nat) (ok:Bool),v=.tuple #[.slice a os.length c,.bool ok]/\RdN w w' a (AW os)/\Below w.heap.size w w'/\os.length<=4096/\(∀ v∈os,Eb v) /\
  ∀ ls,bits=Ce ls->vs=AP ls->(∀ v∈ls,v.1=0->v=(0,0,E0))->ok=true/\os=ls
theorem Yc{w:World}{b:Nat}{cs:Array Value}{t:TypeId}(hb:w.heap[b]?=some (.cells cs t (0,0))){p:Addr}{i:Nat}(hp:p=⟨b,i,none⟩){v:Value}{k:World->Prop}(hi:i<cs.size)
  (hk:∀ w',Ae (·=b) w w'->w'.heap[b]?=some (.cells (cs.setIfInBounds i v) t (0,0))->k w'):Cd p v k w:=by
 subst hp;exact Fb hb hi hk
section
variable {w:World}{a a2:Option Addr}{c c2:Nat}{bits:List Nat}{vs:List Ax}
theorem RB(hb:Rd w a (bits.map Hr))(hv:Rd w a2 (AW vs))(hn:bits.length<=4096)(nX:vs.length<=4096)(ar:∀ v∈vs,Eb v) :
  Calls Tryz.prog f.W3 #[.slice a bits.length c,.slice a2 vs.length c2] w (AB λ v w'=>AmB bits vs w w' v):=by
 apply R.MZ
 delta R.Ad R.F R.G R.H R.I R.Li R.Lt R.Lu R.O R.U0 R.Rs R.S R.Ah R.T R.W R.X;try dsimp only [R.Ps]
 refine FW AdN (l:=(bits.length:Int)) (c:=(bits.length:Int)) (by omega) (by omega) (by omega) (by omega) λ bo w1 iH B1 ib=>?_;rw [AnF,Afu] at ib;rw [AnF];have low:∀ {w':World},Ae (λ k=>k=bo) w1 w'->Below w.heap.size w w':=λ K=>B1.trans (K.below B1.size λ k hk h=>by omega);refine⟨_,_,_,rfl,λ s w2=>∃(at_ i:Nat) (cur:List Ax),s=[.int .i64 (at_:Int),.int .i64 (i:Int)]/\i<=bits.length/\at_<=vs.length/\cur.length=bits.length/\(∀ v∈cur,Eb v)/\Ae (λ k=>k=bo) w1 w2/\w2.heap[bo]?=some (.cells ⟨AW cur⟩ ty.AD (0,0)) /\
   (∀ ls,bits=Ce ls->vs=AP ls->(∀ v∈ls,v.1=0->v=(0,0,E0))->at_=(AP (ls.take i)).length/\cur=ls.take i++AnP (bits.length-i) (0,0,E0)),λ s _=>match s with
   | [_,.int _ i]=>bits.length-i.toNat
   | _=>0,⟨0,0,_,rfl,by omega,by omega,by simp,?_,.refl _ _,ib,λ ls _ _ _=>⟨rfl,by simp⟩⟩,?_⟩
 ·intro v hv;rw [(List.mem_replicate.1 hv).2];exact⟨by simp,by simp⟩
 rintro _ _ w2 ⟨at_,i,cur,aA,hi,eF,bR,k7,K2,qG,hT⟩;cases aA;have B2:=low K2;have iV:∀ {ls:List Ax},bits=Ce ls->ls.length=bits.length:=λ h=>by rw [h];simp [Ce]
 refine Aa (λ aB=>⟨⟨by omega,aB⟩,?_⟩) (λ aL=>?_)
 ·have aF:i<bits.length:=by omega
  have xm:i<cur.length:=by omega
  obtain⟨p,rfl,aJ⟩:=Ug (hb.grown B2) aF;refine⟨_,by rw [AnF];exact aJ,?_⟩;have gQ:bits.length-((i+1:Nat):Int).toNat<bits.length-((i:Nat):Int).toNat:=by
   simp only [AnF];omega
  have bit:∀ {ls:List Ax} (h:bits=Ce ls) (hl:i<ls.length),bits[i]=if ls[i].1=0 then 1 else 0:=by
   intro ls h hl;subst h;simp [Ce]
  rw [Ai (k:=i) (by omega)];refine Az (λ h1=>?_) (λ h1=>Az (λ xf=>?_) (λ aQ=>?_))
  ·refine⟨⟨at_,i+1,cur,rfl,by omega,eF,bR,k7,K2,qG,λ ls g1 g2 g3=>?_⟩,gQ⟩;obtain⟨t1,t2⟩:=hT ls g1 g2 g3;have hl:=iV g1;have eG:i<ls.length:=by omega
   have dC:=bit g1 eG;have hz:ls[i].1=0:=by
    by_cases hz:ls[i].1=0
    ·exact hz
    ·rw [if_neg hz] at dC;omega
   refine⟨by rw [t1,Ds eG,if_pos hz,List.append_nil],?_⟩;rw [t2,Aou eG,g3 _ (Aot eG) hz,AnA];congr 1;rw [show bits.length-i=(bits.length-(i+1))+1 by omega,AoN];rfl
  ·refine⟨[],none,0,false,rfl,RdN.nil _ _,B2,by simp,by simp,λ ls g1 g2 g3=>?_⟩;exfalso;obtain⟨t1,t2⟩:=hT ls g1 g2 g3;have hl:=iV g1;have eG:i<ls.length:=by omega
   have dC:=bit g1 eG;have l8:¬ ls[i].1=0:=λ hz=>by rw [if_pos hz] at dC;omega
   have hle:(AP (ls.take (i+1))).length<=(AP ls).length:=by
    unfold AP;exact ((List.take_sublist (i+1) ls).filter _).length_le
   rw [Ds eG,if_neg l8,Anp,<- t1,<- g2] at hle;simp at hle;omega
  ·have qQ:at_<vs.length:=by omega
   obtain⟨p2,iw,c0,c1,c2⟩:=FG (hv.grown B2) qQ;subst iw;refine⟨⟨by omega,by omega⟩,_,by rw [AnF];exact c0,_,by rw [AnF];exact c1,_,by rw [AnF];exact c2,⟨by omega,by omega⟩,?_⟩;rw [AnF];have av:(⟨AW cur⟩:Array Value).size=bits.length*3:=by
    show (AW cur).length=_;rw [II,bR]
   refine Yc qG (p:=(⟨bo,0,none⟩:Addr).add (i*3)) (i:=i*3) (by rw [Am];simp) (by omega) λ w3 K3 oH=>?_;refine Yc oH (p:=((⟨bo,0,none⟩:Addr).add (i*3)).add 1) (i:=i*3+1) (by rw [Am,Am];simp) (by simp only [Array.size_setIfInBounds];omega) λ w4 K4 ll=>?_;refine Yc ll (p:=((⟨bo,0,none⟩:Addr).add (i*3)).add 2) (i:=i*3+2) (by rw [Am,Am];simp) (by simp only [Array.size_setIfInBounds];omega) λ w5 K5 lp=>?_;rw [AhV cur xm] at lp;rw [Ai (by omega)];refine⟨⟨at_+1,i+1,cur.set i vs[at_],rfl,by omega,by omega,by rw [AoM];exact bR,?_,((K2.trans K3 (λ _ _ h=>h)).trans K4 (λ _ _ h=>h)).trans K5 (λ _ _ h=>h),lp,λ ls g1 g2 g3=>?_⟩,gQ⟩
   ·intro v j8;rcases List.mem_or_eq_of_mem_set j8 with h | h
    ·exact k7 v h
    ·rw [h];exact ar _ (Aot qQ)
   ·obtain⟨t1,t2⟩:=hT ls g1 g2 g3;have hl:=iV g1;have eG:i<ls.length:=by omega
    have dC:=bit g1 eG;have l8:¬ ls[i].1=0:=λ hz=>by rw [if_pos hz] at dC;omega
    have cY:=Ds eG;rw [if_neg l8] at cY;refine⟨by rw [t1,cY,Anp];rfl,?_⟩;have j9:vs[at_]=ls[i]:=by
     have fB:AP (ls.take (i+1)) <+: AP ls:=by
      unfold AP;exact (List.take_prefix (i+1) ls).filter _
     rw [cY] at fB;obtain⟨r,hr⟩:=fB;have hv?:vs[at_]?=some ls[i]:=by
      rw [g2,<- hr,AnA,t1];simp
     rw [List.getElem?_eq_getElem qQ] at hv?;exact Aoj hv?
    rw [j9,t2,Aou eG];have fE:(ls.take i).length=i:=by rw [Anw];omega
    rw [List.set_append_right _ _ (by omega),fE,Nat.sub_self,show bits.length-i=(bits.length-(i+1))+1 by omega,AoN,List.set_cons_zero,AnA];rfl
 ·refine⟨cur,some ⟨bo,0,none⟩,bits.length,_,by rw [bR],?_,B2,by omega,k7,λ ls g1 g2 g3=>?_⟩
  ·exact⟨Rd.Ak qG,λ k hk=>by cases hk;exact iH⟩
  ·obtain⟨t1,t2⟩:=hT ls g1 g2 g3;have hl:=iV g1;have cL:ls.take i=ls:=Aoy (by omega);rw [cL] at t1 t2;refine⟨by rw [g2,t1];simp,?_⟩;rw [t2,show bits.length-i=0 by omega];simp
end
def Bg(a:Option Addr)(c:Nat)(cs:List A0):It:=It.row ty.BX 3 a cs.length c (A9 cs)
theorem AaS:Ia Tryz.prog ty.Ck=some (ty.BX,3,32,.agg #[.string ⟨#[]⟩,.int .i64 0,.bool false]):=by kernel_rfl
section
variable {w0 w:World}{H:List It}{a:Option Addr}{c:Nat}{cs:List A0}
theorem Amo(S:ST w0 w H)(n:Nat)(hn:H[n]?=some (Bg a c cs)):Rd w a (A9 cs):=S.rd n hn
theorem Ak8(S:ST w0 w H)(n:Nat)(hn:H[n]?=some (Bg a c cs)){x:A0}{b:Nat}(hs:Rd w (some ⟨b,0,none⟩) (I1 x))(hl:cs.length+1<=1000000){f:Value->World->Prop}
  (hf:∀ a' c' w',ST w0 w' (H.set n (Bg a' c' (cs++[x])))->f (.slice a' (cs++[x]).length c') w') :
  CD Tryz.prog (Builtin.append_ #[ty.Ck,ty.Ck] ty.Ck #[.slice a cs.length c,.slice (some ⟨b,0,none⟩) 1 1]) f w:=by
 refine S.app n hn AaS rfl (by omega) (by omega) hs (mm:=1) rfl (by simp [I1];exact⟨rfl,rfl,rfl⟩) (by omega) λ a' c' w' S'=>?_;have e1:(cs++[x]).length=cs.length+1:=by simp
 have e2:A9 cs++I1 x=A9 (cs++[x]):=by simp [A9]
 rw [e2] at S';have:=hf a' c' w' (by unfold Bg;rw [e1];exact S');rwa [e1] at this
end
def De(l:List UInt8)(at_:Nat):Nat->Option (List A0 × Nat)
 | 0=>some ([],at_)
 | n+1=>match DX l (at_:Int) 24 with
  | none=>none
  | some x=>if l.length-x.2<2\/1<(l.getD (x.2+1) 0).toNat then none else
   (De l (x.2+2) n).map λ r=>((CA x.1,((l.getD x.2 0).toNat:Int),(l.getD (x.2+1) 0).toNat==1) :: r.1,r.2)
def Fc(l:List UInt8)(at_:Int):Option (List A0 × Nat) :=
 match takeN l at_ with
 | none=>none
 | some x=>if 16<x.1 then none else match De l x.2 x.1 with
  | none=>none
  | some r=>if Ao r.1 then some r else none
theorem Afp{l:List UInt8}{at_:Int}{most:Nat}{s:List UInt8}{k:Nat}(h:DX l at_ most=some (s,k)):s.length<=l.length:=by
 unfold DX at h;split at h
 ·split at h
  ·cases h
  ·simp only [Option.some.injEq,Prod.mk.injEq] at h;obtain⟨rfl,_⟩:=h;rw [Anw,AnC];omega
 ·cases h
def YQ(o:Option (List A0 × Nat))(w w':World)(v:Value):Prop :=
 match o with
 | none=>v=.tuple #[.slice none 0 0,.int .i64 0,.int .i64 52]/\Below w.heap.size w w'
 | some r=>∃ a c,v=.tuple #[.slice a r.1.length c,.int .i64 (r.2:Int),.int .i64 0]/\ST w w' [Bg a c r.1]
theorem YQ.bad{o:Option (List A0 × Nat)}{w w':World}(h:o=none)(B:Below w.heap.size w w'):YQ o w w' (.tuple #[.slice none 0 0,.int .i64 0,.int .i64 52]):=by
 subst h;exact⟨rfl,B⟩
section
variable {w:World}{a:Option Addr}{c:Nat}{l:List UInt8}
theorem VR(hl:Rd w a (l.map Af)){k:Nat}(h:2<=l.length-k):∃ p,a=some p/\w.cell? (p.add (k*1))=some (.int .u8 ((l.getD k 0).toNat:Int))/\w.cell? (p.add ((k+1)*1))=some (.int .u8 ((l.getD (k+1) 0).toNat:Int)):=by
 have h1:k<l.length:=by omega
 have h2:k+1<l.length:=by omega
 obtain⟨p,rfl,c1⟩:=byte_at hl h1;obtain⟨p',hp,c2⟩:=byte_at hl h2;cases hp;exact⟨p,rfl,by rw [c1];simp [List.getD,h1],by rw [c2];simp [List.getD,h2]⟩
theorem Uv(hl:Rd w a (l.map Af))(hc:l.length<=c)(hs:l.length<=140737488355328)(at_:Int) :
  Calls Tryz.prog f.AaE #[.slice a l.length c,.int .i64 at_] w (AB λ v w'=>YQ (Fc l at_) w w' v):=by
 apply R.O4
 delta R.Ad R.VB R.EN R.Cb R.D R.F R.G R.H R.I R.J R.Ks R.Ly R.N R.O R.AlI R.S R.T R.U R.W R.Wu R.X;try dsimp only [R.Ps]
 refine (AF hl hc (by omega) at_).mono ?_;rintro _ w1 ⟨_,rfl,rfl,rfl⟩;cases hx:takeN l at_ with
 | none=>exact⟨_,_,_,rfl,Au (λ _=>.bad (by simp [Fc,hx]) (.refl _ _)) (λ h=>by cases h)⟩
 | some x =>
  obtain⟨n,at0⟩:=x;obtain⟨hn,_,_,d',_⟩:=AZ hx;refine⟨_,_,_,rfl,Au (λ h=>absurd rfl h) (λ _=>Aa (λ h=>.bad ?_ (.refl _ _)) (λ lZ=>?_))⟩
  ·have:16<n:=by simp only at h;omega
   simp [Fc,hx,this]
  have wg:n<=16:=by simp only at lZ;omega
  have hT:Fc l at_=match De l at0 n with
   | none=>none
   | some r=>if Ao r.1 then some r else none:=by
   have:¬ 16<n:=by omega
   simp [Fc,hx,this]
  rw [hT];refine⟨λ s w2=>∃(i aY:Nat) (cs:List A0) (ca:Option Addr) (cc:Nat),s=[.int .i64 (aY:Int),.slice ca cs.length cc,.int .u64 (i:Int)]/\i<=n/\cs.length=i/\aY<=l.length/\(∀ c∈cs,c.1.size<=9223372036854775807) /\
    De l at0 n=((De l aY (n-i)).map λ r=>(cs++r.1,r.2))/\ST w1 w2 [Bg ca cc cs],λ s _=>match s with
   | [_,_,.int _ i]=>n-i.toNat
   | _=>0,⟨0,at0,[],none,0,rfl,by omega,rfl,by omega,by simp,by simp,(ST.start w1).nil _ _⟩,?_⟩
  rintro _ ca _ cc _ w2 ⟨i,aY,cs,_,_,aA,hi,k5,eF,hq,bL,S⟩;cases aA;refine Aa (λ aB=>?_) (λ aL=>?_)
  ·obtain⟨m,hm⟩:∃ m,n-i=m+1:=⟨n-i-1,by simp only at aB;omega⟩;rw [hm] at bL;have bQ:=hl.grown S.An;refine (Fg bQ hc (by omega) (aY:Int) 24).mono ?_;rintro _ w3 ⟨_,rfl,rfl,rfl⟩;cases ht:DX l (aY:Int) 24 with
   | none =>
    refine⟨_,_,_,rfl,Au (λ _=>.bad ?_ S.An) (λ h=>by cases h)⟩;rw [bL];simp [De,ht]
   | some x =>
    obtain⟨nm,k⟩:=x;have hk:=UJ ht;have ir:=Afp ht;refine⟨_,_,_,rfl,Au (λ h=>absurd rfl h) (λ _=>?_)⟩;simp only;rw [wrap_i64 (n:=(l.length:Int)-(k:Int)) (by omega) (by omega),Ai (k:=k) (by omega)];refine Aa (λ h2=>.bad ?_ S.An) (λ h2=>?_)
    ·rw [bL];have:l.length-k<2:=by omega
     simp [De,ht,this]
    obtain⟨p,rfl,d0,d1⟩:=VR bQ (k:=k) (by omega);refine⟨⟨by omega,by omega⟩,_,by rw [AnF];exact d1,Aa (λ h3=>.bad ?_ S.An) (λ h3=>S.draw λ w4 B4 S=>?_)⟩
    ·rw [bL];have:l.length-k<2\/1<(l.getD (k+1) 0).toNat:=.inr (by omega);simp only [De,ht,if_pos this,Option.map_none]
    have xu:=bQ.grown B4;obtain⟨p',bj,d0,d1⟩:=VR xu (k:=k) (by omega);cases bj;have dD:=(l.getD k 0).toNat_lt;refine⟨⟨by omega,by omega⟩,⟨by omega,by omega⟩,_,by rw [AnF];exact d0,_,by rw [AnF];exact d1,?_⟩;rw [wrap_i64 (n:=((l.getD k 0).toNat:Int)) (by omega) (by omega),wrap_i64 (n:=(k:Int)+2) (by omega) (by omega),Ar (n:=(i:Int)+1) (by omega) (by simp only at aB;omega)];obtain⟨x,hx⟩:∃ x:A0,x=(CA nm,((l.getD k 0).toNat:Int),(l.getD (k+1) 0).toNat==1):=⟨_,rfl⟩;refine S.Aj λ gK w5 _ _ S=>?_;have aZ:Rd w5 (some ⟨gK,0,none⟩) (I1 x):=by
     have h:=S.rdc 0 rfl;have e:(((l.getD (k+1) 0).toNat:Int)==1)=((l.getD (k+1) 0).toNat==1):=by rw [Bool.eq_iff_iff];simp;omega
     rw [e] at h;rw [hx];exact h
    refine Ak8 S 1 rfl aZ (by simp only at aB;omega) λ a6 c6 w6 S=>⟨_,_,_,rfl,?_⟩;refine⟨⟨i+1,k+2,cs++[x],a6,c6,?_,by simp only at aB;omega,by simp [k5],by omega,?_,?_,S.drop 1⟩,?_⟩
    ·simp only [Anp,List.length_cons,AoJ,List.cons.injEq,Value.int.injEq,true_and,and_true];constructor <;> omega
    ·intro c hc;rcases Aow.1 hc with h | h
     ·exact hq c h
     ·rw [Aox.1 h,hx];show (CA nm).size<=_;rw [E7];omega
    ·rw [bL,show n-(i+1)=m by omega];have cH:¬ (l.length-k<2\/1<(l.getD (k+1) 0).toNat):=by omega
     simp only [De,ht,cH,if_false,Option.map_map];congr 1;funext r;simp [hx]
    ·show n-((i:Int)+1).toNat<n-(i:Int).toNat;simp only at aB;omega
  ·have:n-i=0:=by simp only at aL;omega
   rw [this] at bL;simp only [De,Option.map_some,List.append_nil] at bL;rw [bL];refine (DA (Amo S 0 rfl) (by omega) hq).mono ?_;rintro _ w7 ⟨_,rfl,rfl,B7⟩;refine⟨_,rfl,A5 (AU (λ hR=>?_) (λ hR=>.bad (by simp [hR]) (S.grown B7).An))⟩;simp only [hR,if_true];exact⟨ca,cc,rfl,S.grown B7⟩
end
theorem Aec(l:List A0):∀ u∈A9 l,u.oneCell'=true:=by
 intro u hu;obtain⟨c,_,hc⟩:=List.mem_flatMap.1 hu;simp only [I1,List.mem_cons,List.not_mem_nil,or_false] at hc;rcases hc with rfl | rfl | rfl <;> rfl
theorem W5(l m:List A0):A9 (l++m)=A9 l++A9 m:=List.flatMap_append
structure Pl where
 cs:List A0
 q:Qu
 out:List A0
 g:Bool
def XL(p:Pl)(a0:Option Addr)(c0:Nat)(ai:Option Addr)(ci:Nat)(aw:Option Addr)(cw:Nat)(ag:Option Addr)(cg:Nat)(ao:Option Addr)(co:Nat)(a6:Option Addr)(c6:Nat):List Value :=
 [.slice a0 p.cs.length c0,.slice ai p.q.it.length ci,.slice aw p.q.wh.length cw,.slice ag p.q.gr.length cg,.slice ao p.q.od.length co,.int .i64 p.q.lim,.slice a6 p.out.length c6,.bool p.g]
section
variable {cs:List A0}{q:Qu}(h1:Ao cs=true)(h2:Acv q=true)
include h1 h2
end
section
variable {w:World}{q:Qu}{ai aw ag ao:Option Addr}{ci cw cg co:Nat}
end
section
variable {w:World}{p:Pl}{a0 ai aw ag ao a6 b0 bi bw bg bo b6:Option Addr}{c0 ci cw cg co c6 d0 di dw dg d_o d6:Nat}
end
section
variable {w:World}{p:Pl}{a0 ai aw ag ao a6:Option Addr}{c0 ci cw cg co c6:Nat}
end
end Go.Proofs.YtoepjfblppfabaaGreatDoor
namespace Go.Proofs.YtoepjfblppfabaaGreatDoor
open _root_.List renaming replicate -> AnP
set_option maxRecDepth 100000
open Go.Dn Go.Proofs
open Go.RowKit (Below)
open Go.Sort (putRow putCells Holds)
set_option linter.unusedVariables false
section
variable {w0 w:World}{H:List It}{a:Option Addr}{c:Nat}
theorem Ahw(S:ST w0 w H)(n:Nat){xs:List Int}(hn:H[n]?=some (Dk a c xs))(hl:xs.length<=1000000000):Calls Tryz.prog f.Gt #[.slice a xs.length c] w (AB λ v w'=>v=.tuple #[]/\ST w0 w' (H.set n (Dk a c (xs.mergeSort λ x y=>decide (x<=y))))):=by
 have hR:Row w ty.int 1 a xs.length c (xs.map (Value.int .i64)):=S.get n hn;have dy:H.set n (Dk a c xs)=H:=UB hn;have cu:xs=[]->Calls Tryz.prog f.Gt #[.slice a xs.length c] w (AB λ v w'=>v=.tuple #[]/\ST w0 w' (H.set n (Dk a c (xs.mergeSort λ x y=>decide (x<=y))))):=by
  rintro rfl;refine (Tryz.slices_Sort_int_none a c w).mono ?_;rintro _ w' ⟨rfl,rfl⟩;exact⟨_,rfl,rfl,by rw [List.mergeSort_nil,dy];exact S⟩
 rcases a with _ | ⟨g,o,idx⟩
 ·refine cu ?_;rcases hR.2 with ⟨_,h,_⟩ | ⟨_,_,h,_⟩
  ·exact List.eq_nil_of_length_eq_zero h
  ·cases h
 ·have mi:o=0/\idx=none:=by
   rcases hR.2 with ⟨h,_⟩ | ⟨_,_,h,_⟩
   ·cases h
   ·cases h;exact⟨rfl,rfl⟩
  obtain⟨rfl,rfl⟩:=mi;obtain⟨hH,hg,hlen,cj⟩:=PV (Value.int .i64) hR;refine (Tryz.slices_Sort_int g 0 c xs w hH hg (by omega)).mono ?_;rintro _ w' ⟨rfl,m,os,rfl⟩;have jV:(xs.mergeSort λ x y=>decide (x<=y)).length=xs.length:=List.length_mergeSort ..;refine⟨_,rfl,rfl,?_⟩;refine S.IM n hn (Qk (Value.int .i64) w g m _ os) _ ?_ (λ k hk=>.inl hk);show Row _ ty.int 1 _ _ c _;have:=XU (Value.int .i64) (m:=m) (os:=os) (xs.mergeSort λ x y=>decide (x<=y)) (k:=xs.length) hR (by omega) (by omega);rw [List.take_of_length_le (by omega)] at this;rw [jV];exact this
theorem Y7(S:ST w0 w H)(n:Nat){xs:List Int}(hn:H[n]?=some (Dk a c xs))(hl:xs.length<=1000000000):Calls Tryz.prog f.E9 #[.slice a xs.length c] w (AB λ v w'=>v=.slice a (Lib.compact xs).length c/\ST w0 w' (H.set n (Dk a c (Lib.compact xs)))):=by
 have hR:Row w ty.int 1 a xs.length c (xs.map (Value.int .i64)):=S.get n hn;have dy:H.set n (Dk a c xs)=H:=UB hn;have cu:xs=[]->Calls Tryz.prog f.E9 #[.slice a xs.length c] w (AB λ v w'=>v=.slice a (Lib.compact xs).length c/\ST w0 w' (H.set n (Dk a c (Lib.compact xs)))):=by
  rintro rfl;refine (Tryz.slices_Compact_int_empty a c w).mono ?_;rintro _ w' ⟨rfl,rfl⟩;have:Lib.compact ([]:List Int)=[]:=rfl;exact⟨_,rfl,by rw [this];rfl,by rw [this,dy];exact S⟩
 rcases a with _ | ⟨g,o,idx⟩
 ·refine cu ?_;rcases hR.2 with ⟨_,h,_⟩ | ⟨_,_,h,_⟩
  ·exact List.eq_nil_of_length_eq_zero h
  ·cases h
 ·have mi:o=0/\idx=none:=by
   rcases hR.2 with ⟨h,_⟩ | ⟨_,_,h,_⟩
   ·cases h
   ·cases h;exact⟨rfl,rfl⟩
  obtain⟨rfl,rfl⟩:=mi;obtain⟨hH,hg,hlen,cj⟩:=PV (Value.int .i64) hR;refine (Tryz.slices_Compact_int g 0 c xs w hH (by omega) (by omega)).mono ?_;rintro _ w' ⟨rfl,m,rfl⟩;have bR:(Lib.compact xs).length<=xs.length:=by
   have:=List.length_filter_le (Lib.keeps xs.toArray) (List.range xs.length);unfold Lib.compact Lib.compactUpTo;rw [List.length_map];rw [List.length_range] at this;exact this
  refine⟨_,rfl,rfl,?_⟩;have ew:putRow (Value.int .i64) (Go.Sort.ahead w m) g 0 (Lib.compact xs++AnP (xs.length-(Lib.compact xs).length) 0).toArray=Go.Sort.grow (putRow (Value.int .i64) (Go.Sort.ahead w m) g 0 (Lib.compact xs++AnP (xs.length-(Lib.compact xs).length) 0).toArray) #[]:=(AgC _).symm;rw [ew];refine S.IM n hn (Qk (Value.int .i64) w g m _ #[]) _ ?_ (λ k hk=>.inl hk);show Row _ ty.int 1 _ _ c _;have:=XU (Value.int .i64) (m:=m) (os:=#[]) (Lib.compact xs++AnP (xs.length-(Lib.compact xs).length) 0) (k:=(Lib.compact xs).length) hR (by simp;omega) (by simp);rw [List.take_left' rfl] at this;exact this
end
theorem Y8(l:List Int):(Lib.compact (l.mergeSort λ x y=>decide (x<=y))).Pairwise (·<·)/\∀ x,x∈Lib.compact (l.mergeSort λ x y=>decide (x<=y))↔x∈l:=by
 have hs:=List.pairwise_mergeSort (le:=λ x y:Int=>decide (x<=y)) (λ a b c h1 h2=>by simp only [decide_eq_true_eq] at *;omega) (λ a b=>by simp only [Bool.or_eq_true,decide_eq_true_eq];omega) l;have hp:=List.mergeSort_perm l (λ x y:Int=>decide (x<=y));obtain⟨h1,h2⟩:=Tp (λ a b:Int=>a<=b) (λ a b c h1 h2=>by omega) (λ a b h1 h2=>by omega) (l.mergeSort λ x y=>decide (x<=y)) (hs.imp λ h=>by simpa using h);exact⟨h1.imp λ h=>by omega,λ x=>(h2 x).trans hp.mem_iff⟩
end Go.Proofs.YtoepjfblppfabaaGreatDoor
namespace Go.Proofs.YtoepjfblppfabaaGreatDoor
open _root_.List renaming length_take -> Anw
open _root_.Nat renaming min_eq_left -> AoQ, mul_le_mul_right -> Anv
set_option maxRecDepth 100000
open Go.Dn Go.Proofs
open Go.RowKit (Below)
set_option linter.unusedVariables false
/-! ### plain -/
abbrev Prt:=Int × Bool × Ex
def Xz(i:Nat):List Pq->List Prt
 | []=>[]
 | x :: l=>((i:Int),false,x.2.2) :: Xz (i+1) l
def Amj(q:Qu):List Prt:=q.wh.map (λ x=>(-1,true,x))++q.gr.map (λ x=>(-1,false,x))++Xz 0 q.it
def Yb(cs:List A0)(q:Qu)(p:Prt):Except Int (List A0) :=
 if p.1<0 then
  match WE cs p.2.2 with
  | .error e=>.error e
  | .ok k=>if p.2.1=true/\k≠2/\k≠0 then .error 121 else .ok []
 else match q.it[p.1.toNat]? with
  | none=>.ok []
  | some x=>match AgN cs q p.1.toNat x with
   | .error e=>.error e
   | .ok c=>.ok [c]
def R9(cs:List A0)(q:Qu):List Prt->Except Int (List A0)
 | []=>.ok []
 | p :: l=>match Yb cs q p with
  | .error e=>.error e
  | .ok c=>match R9 cs q l with
   | .error e=>.error e
   | .ok r=>.ok (c++r)
theorem WB{cs:List A0}{q:Qu}:∀(l:List Ex) (m:List Prt),R9 cs q (l.map (λ x=>((-1,true,x):Prt))++m)=match QG cs l with | some e=>.error e | none=>R9 cs q m
 | [],m=>rfl
 | x :: l,m=>by
  simp only [List.map_cons,List.cons_append,R9,Yb,QG,WB l m];rw [if_pos (by decide)];cases hT:WE cs x with
  | error e=>rfl
  | ok k =>
   simp only [true_and];by_cases hk:k≠2/\k≠0
   ·rw [if_pos hk,if_pos hk]
   ·rw [if_neg hk,if_neg hk];cases QG cs l with
    | some e=>rfl
    | none=>simp only [List.nil_append] <;> (cases R9 cs q m <;> rfl)
theorem Wz{cs:List A0}{q:Qu}:∀(l:List Ex) (m:List Prt),R9 cs q (l.map (λ x=>((-1,false,x):Prt))++m)=match PU cs l with | some e=>.error e | none=>R9 cs q m
 | [],m=>rfl
 | x :: l,m=>by
  simp only [List.map_cons,List.cons_append,R9,Yb,PU,Wz l m];rw [if_pos (by decide)];cases hT:WE cs x with
  | error e=>rfl
  | ok k =>
   simp only [Bool.false_eq_true,false_and,if_false];cases PU cs l with
   | some e=>rfl
   | none=>simp only [List.nil_append] <;> (cases R9 cs q m <;> rfl)
theorem WA{cs:List A0}{q:Qu}:∀(l:List Pq) (i:Nat),(∀ j (h:j<l.length),q.it[i+j]?=some l[j])->R9 cs q (Xz i l)=T3 cs q i l
 | [],i,_=>rfl
 | x :: l,i,h=>by
  simp only [Xz,R9,Yb,T3];rw [if_neg (by omega),Int.toNat_natCast];have h0:=h 0 (by simp);simp only [Nat.add_zero,List.getElem_cons_zero] at h0;rw [h0,WA l (i+1) λ j hj=>by
   have:=h (j+1) (by simpa using hj);simp only [List.getElem_cons_succ] at this;rwa [show i+1+j=i+(j+1) by omega]]
  simp only;cases AgN cs q i x with
  | error e=>rfl
  | ok c=>simp only <;> (cases T3 cs q (i+1) l <;> rfl)
theorem run_make{cs:List A0}{q:Qu}(h1:Ao cs=true)(h2:Acv q=true):R9 cs q (Amj q)=AjR cs q:=by
 unfold Amj AjR;rw [if_neg (by rw [h1];decide),if_neg (by rw [h2];decide),List.append_assoc,WB,Wz,WA q.it 0 λ j h=>by rw [Nat.zero_add];exact List.getElem?_eq_getElem h];cases QG cs q.wh with
 | some e=>rfl
 | none=>cases PU cs q.gr <;> rfl
/-! ### the walk over them -/
section
variable {w0:World}{q:Qu}{ai aw ag ao:Option Addr}{ci cw cg co:Nat}
end
/-! ### an item, an expression -/
theorem Vj(w:World)(k:Int):Calls Tryz.prog f.Acl #[.int .i64 k] w (AB λ r w'=>r=.int .i64 (Ui k)/\w'=w):=by
 apply R.Qj
 delta R.F R.I;try dsimp only [R.Ps]
 exact Az (λ h=>⟨by rw [Ui,if_pos h],rfl⟩) (λ h=>⟨by rw [Ui,if_neg h],rfl⟩)
theorem Ca.take{α:Type}{C:α->List Value->Prop}{n:Nat}(hn:∀ x c,C x c->c.length=n){l:List α}{cs:List Value}(h:Ca C l cs)(i:Nat):Ca C (l.take i) (cs.take (i*n)):=by
 have hl:=Ca.len hn h;have hm:min i l.length*n=min (i*n) (l.length*n):=by
  rcases Nat.le_total i l.length with h | h
  ·rw [AoQ h,AoQ (Anv _ h)]
  ·rw [Nat.min_eq_right h,Nat.min_eq_right (Anv _ h)]
 refine Ca.of (n:=n) (by rw [Anw,Anw,hl,hm]) λ j hj=>?_;rw [Anw] at hj;have:=h.get hn j (by omega);rw [List.getElem_take];rw [List.drop_take,List.take_take,AoQ]
 ·exact this
 ·have:(j+1)*n<=i*n:=Anv _ (by omega);rw [Nat.add_mul] at this;omega
section
variable {w w0:World}{q:Qu}{ai aw ag ao:Option Addr}{ci cw cg co:Nat}{H:List It}{cs:List A0}{a0 a6:Option Addr}{c0 c6 b:Nat}{out:List A0}{g:Bool}
theorem Ab2(n:Nat){x:Pq}{a3:Option Addr}{pW jI:Nat}(S:ST w0 w H)(hn:H[n]?=some (itI jI x a3 pW)){wc:World}{y:Pq}{c:List Value}(hy:ItC (λ _=>False) wc y c) :
  Calls Tryz.prog f.La #[.agg ⟨c⟩,.pointer (some ⟨jI,0,none⟩)] w (AB λ r w'=>r=.bool (decide (y.1=x.1))/\Below w.heap.size w w'):=by
 obtain⟨ce,rfl,hx2,_⟩:=hy;obtain⟨a4,cap4,_,rfl,_⟩:=ExC.open hx2;apply R.G2
 delta R.A R.G R.I R.Lt R.N R.S R.T;try dsimp only [R.Ps]
 refine S.Aj λ b8 w1 _ B1 S1=>⟨_,S1.cell 0 rfl rfl,_,S1.cell (n+1) hn rfl,by rw [AK],B1⟩
end
end Go.Proofs.YtoepjfblppfabaaGreatDoor
namespace Go.Proofs.YtoepjfblppfabaaGreatDoor
open _root_.Int renaming toNat_natCast -> AnF
open _root_.Nat renaming zero_add -> Anu
set_option maxRecDepth 100000
open Go.Dn Go.Proofs
open Go.RowKit (Below)
set_option linter.unusedVariables false
section
variable {w w0:World}{q:Qu}{ai aw ag ao:Option Addr}{ci cw cg co:Nat}{H:List It}{cs:List A0}{a0 a6:Option Addr}{c0 c6 b:Nat}{out:List A0}
end
section
variable {w w0:World}{H:List It}
theorem My(S:ST w0 w H){a:Option Addr}{c:Nat}{l:List A0}(h:Rd w a (A9 l))(hl:l.length<=1000):Calls Tryz.prog f.Cx #[.slice a l.length c] w (AB λ v w'=>∃ a' c',v=.slice a' l.length c'/\ST w0 w' (Bg a' c' l :: H)):=by
 apply R.BG
 delta R.F R.J R.Ks R.N R.O R.S;try dsimp only [R.Ps]
 cases a with
 | none =>
  have:l=[]:=by
   cases l with
   | nil=>rfl
   | cons x l =>
    obtain⟨p,hp,_⟩:=h 0 (.string x.1) (by simp [I1]);cases hp
  subst this;exact Bo ⟨none,0,rfl,S.nil _ _⟩
 | some q =>
  refine Aw (S.empty (sz:=3) λ b2 w1 B1 S=>?_);refine S.app 0 rfl AaS rfl (by omega) (by omega) (h.grown B1) (mm:=l.length) (Y5 l) (Aec l) (by omega) λ a' c' w' S=>⟨_,_,_,rfl,a',c',by rw [Anu],?_⟩;simp only [Anu,List.nil_append] at S;exact S
theorem Aca{wc:World}{y:Pq}{c:List Value}(hy:ItC (λ _=>False) wc y c):Calls Tryz.prog f.ON #[.agg ⟨c⟩] w (AB λ r w'=>r=.bool (decide (y.2.1≠0))/\Below w.heap.size w w'):=by
 obtain⟨ce,rfl,hx2,_⟩:=hy;obtain⟨a4,cap4,_,rfl,_⟩:=ExC.open hx2;apply R.Nq
 delta R.Ab R.G R.I R.Li R.N R.S R.T;try dsimp only [R.Ps]
 exact (ST.start w).Aj λ b8 w1 _ B1 S1=>⟨_,S1.cell 0 rfl rfl,by rw [Aih],B1⟩
def XN(b c:Nat)(t:TypeId):It:=It.cells b #[.pointer (some ⟨c,0,none⟩)] t
def V5(b:Nat)(n:Int)(t:TypeId):It:=It.cells b #[.int .i64 n] t
end
section
variable {w:World}{q:Qu}{ai aw ag ao:Option Addr}{ci cw cg co:Nat}
end
def Jq(c:A0):A0:=(c.1,c.2.1,true)
abbrev Vi(a0:Option Addr)(c0:Nat)(ai:Option Addr)(ci n:Nat)(a6:Option Addr)(l6 c6:Nat):Array Value:=#[.slice a0 n c0,.slice ai n ci,Hm,Hm,Hm,.int .i64 (-1),.slice a6 l6 c6,.bool false]
abbrev Agf(cs:List A0):Prop:=∀ i j (hi:i<cs.length) (hj:j<cs.length),cs[i].1=cs[j].1->i=j
theorem Aky(w:World)(s:ByteArray)(hs:s.size<=24):ExC (λ _=>False) w (lf s) (NM s):=by
 unfold ExC lf;have h1:s.size<=maxLen:=Nat.le_trans hs (by decide);have z:i64 0:=by decide
 have o:i64 1:=by decide
 have e:E0.size<=maxLen:=Nat.zero_le _;exact⟨none,0,[],rfl,⟨Rd.nil _ _,(λ p hp=>by cases hp),Nat.le_refl _,Nat.zero_le _,λ _=>rfl⟩,⟨o,h1,z,z,e⟩,by unfold ExL;rfl⟩
theorem AgX(w:World):∀ cs:List A0,(∀ c∈cs,c.1.size<=24)->Ca (ItC (λ _=>False) w) (cs.map Ql) (JZ cs)
 | [],_=>rfl
 | c :: cs,h=>⟨Ae1 c,JZ cs,rfl,⟨NM c.1,rfl,Aky w c.1 (h c (by simp)),by have:=h c (by simp);show ByteArray.size c.1<=_;unfold maxLen;omega,by show i64 0;unfold i64;omega⟩,AgX w cs λ x hx=>h x (by simp [hx])⟩
section
variable {w0 w:World}{H:List It}{b:Nat}{a0 ai a6:Option Addr}{c0 ci c6:Nat}{cs:List A0}
theorem Ama(hl:Rd w0 ai (JZ cs))(hn:cs.length<=16)(k5:cs.length<=ci)(hk:Aab cs)(hd:Agf cs){i:Nat}(hi:i<cs.length)(h3:1<=cs[i].2.1)
  (S:ST w0 w (It.cells b (Vi a0 c0 ai ci cs.length a6 i c6) ty.Br :: Bg a6 c6 ((cs.take i).map Jq) :: H)) :
  Calls Tryz.prog f.OO #[.pointer (some ⟨b,0,none⟩),.int .i64 (i:Int),.int .i64 cs[i].2.1] w (AB λ v w'=>v=.int .i64 0/\∃ a' c',ST w0 w' (It.cells b (Vi a0 c0 ai ci cs.length a' (i+1) c') ty.Br :: Bg a' c' ((cs.take (i+1)).map Jq) :: H)):=by
 apply R.IA
 delta R.A R.Ab R.Cb R.Ci R.D R.F R.G R.I R.J R.Ks R.Lb R.Li R.Ls R.Lt R.N R.O R.P R.S R.Ah R.T R.X R.Y R.Zb R.Zi;try dsimp only [R.Ps]
 refine⟨_,_,_,S.cell 0 rfl rfl,⟨by omega,by omega⟩,?_⟩;obtain⟨p,hp,hc⟩:=Qn (hl.grown S.An) hi;subst hp;rw [AnF];have hlen:((cs.take i).map Jq).length=i:=by simp;omega
 refine ldI (i:=Ql cs[i]) hc (S.Ab8 λ jI w9 _ S9=>?_);obtain⟨K,hK⟩:∃ K,K=itI jI (Ql cs[i]) none 0 :: It.cells b (Vi a0 c0 (some p) ci cs.length a6 i c6) ty.Br :: Bg a6 c6 ((cs.take i).map Jq) :: H:=⟨_,rfl⟩;have S9:ST w0 w9 K:=by rw [hK];exact S9
 have k0:K[0]?=some (itI jI (Ql cs[i]) none 0):=by rw [hK];rfl
 have k1:K[1]?=some (It.cells b (Vi a0 c0 (some p) ci cs.length a6 i c6) ty.Br):=by rw [hK];rfl
 refine⟨λ st w=>st=[.int .i64 cs[i].2.1]/\ST w0 w K,⟨λ st w=>st=[.bool false]/\ST w0 w K,⟨_,S9.cell 0 k0 rfl,Ap rfl ⟨rfl,S9⟩⟩,?_⟩,?_⟩
 ·rintro t aW ⟨ht,cF⟩;cases ht;refine Ap rfl ⟨λ st w=>st=[.bool false]/\ST w0 w K,⟨λ st w=>st=[.bool false]/\ST w0 w K,⟨_,cF.cell 1 k1 rfl,Ap rfl ⟨rfl,cF⟩⟩,?_⟩,?_⟩
  ·rintro t bN ⟨ht,dG⟩;cases ht;refine Ap rfl ⟨_,_,_,dG.cell 1 k1 rfl,⟨by omega,by omega,by omega⟩,?_⟩;have e:i-0=((cs.map Ql).take i).length:=by simp;omega
   have bm:=(hl.grown dG.An).Yr 0 i ci 8 (by omega);rw [Nat.zero_mul,List.drop_zero,Nat.sub_zero] at bm;rw [e];refine dG.call (JJ bm (Ca.take (λ _ _ h=>ItC.len h) (AgX w0 cs λ c hc=>(hk c hc).2) i) (by rw [List.length_take,List.length_map];omega) (by kernel_rfl) (λ y=>decide (y.1=(Ql cs[i]).1)) λ w' y c B hy hc=>Ab2 0 (dG.grown B) k0 hc) λ bF _ jG=>⟨_,rfl,?_,jG⟩;congr 2;rw [List.any_eq_false];intro y hy;obtain⟨j,hj,rfl⟩:=List.mem_iff_getElem.1 hy;simp only [List.length_take,List.length_map] at hj;simp only [List.getElem_take,List.getElem_map,decide_eq_true_eq];intro he;have:=hd j i (by omega) hi he;omega
  ·rintro t ay ⟨ht,gH⟩;cases ht;exact Ap rfl ⟨_,gH.cell 0 k0 rfl,Ap rfl ⟨_,gH.cell 0 k0 rfl,Ap rfl ⟨rfl,gH⟩⟩⟩
 rintro t dY ⟨ht,dn⟩;cases ht;rw [hK] at dn;have rW:Ui cs[i].2.1=cs[i].2.1:=by unfold Ui;rw [if_neg (by omega)]
 refine dn.draw λ gF _ fh=>⟨_,_,_,fh.cell 1 rfl rfl,_,fh.cell 0 rfl rfl,fh.HC (Vj _ _) ⟨_,rfl,fh.cell 0 rfl rfl,fh.cell 1 rfl rfl,fh.Aj λ tG jD _ _ iS=>⟨iS.cell 2 rfl rfl,?_⟩⟩⟩;rw [rW] at iS;have hR:Bg a6 c6 ((cs.take i).map Jq)=It.row ty.BX 3 a6 i c6 (A9 ((cs.take i).map Jq)):=by unfold Bg;rw [hlen]
 rw [hR] at iS;refine iS.app 3 rfl AaS rfl (by omega) (by omega) (iS.rdc 0 rfl) (mm:=1) rfl (by intro u hu;simp at hu;rcases hu with rfl | rfl | rfl <;> rfl) (by omega) λ a' c' iP pB=>⟨_,_,_,rfl,?_⟩;refine pB.Cr 2 rfl (i:=6) (aC:=Vi a0 c0 (some p) ci cs.length a' (i+1) c') (by show 6<8;omega) (by simp) λ iQ eC=>⟨rfl,a',c',?_⟩;have e:Bg a' c' ((cs.take (i+1)).map Jq)=It.row ty.BX 3 a' (i+1) c' (A9 ((cs.take i).map Jq)++[.string (Ql cs[i]).1,.int .i64 cs[i].2.1,.bool true]):=by
  unfold Bg;rw [List.take_succ_eq_append_getElem hi,List.map_append,W5,List.length_append,hlen];simp [A9,I1,Jq,Ql]
 rw [e];exact eC.drop 2
theorem AkH(E:Env w0)(hl:Rd w0 ai (JZ cs))(hn:cs.length<=16)(k5:cs.length<=ci)(hk:Aab cs)(hd:Agf cs)(hR:Ao cs=true){i:Nat}(hi:i<cs.length)(hf:JN cs cs[i].1=some i)(jz:Rd w a0 (A9 cs))
  (S:ST w0 w (It.cells b (Vi a0 c0 ai ci cs.length a6 i c6) ty.Br :: Bg a6 c6 ((cs.take i).map Jq) :: H)) :
  Calls Tryz.prog f.Nr #[.pointer (some ⟨b,0,none⟩),.agg ⟨.int .i64 (i:Int) :: .bool false :: NM cs[i].1⟩] w (AB λ v w'=>v=.int .i64 0/\∃ a' c',ST w0 w' (It.cells b (Vi a0 c0 ai ci cs.length a' (i+1) c') ty.Br :: Bg a' c' ((cs.take (i+1)).map Jq) :: H)):=by
 apply R.H4
 delta R.A R.Ab R.J9 R.Ci R.D R.E R.F R.G R.I R.Lb R.Li R.Ls R.Lt R.N R.P R.S R.T R.X R.Zb R.Zi;try dsimp only [R.Ps]
 refine S.Aj λ bW w1 _ B1 S1=>?_;have eV:=jz.grown B1;obtain⟨K,hK⟩:∃ K,K=It.cells bW ⟨.int .i64 (i:Int) :: .bool false :: NM cs[i].1⟩ ty.L4 :: It.cells b (Vi a0 c0 ai ci cs.length a6 i c6) ty.Br :: Bg a6 c6 ((cs.take i).map Jq) :: H:=⟨_,rfl⟩;have S1:ST w0 w1 K:=by rw [hK];exact S1
 have k0:K[0]?=some (It.cells bW ⟨.int .i64 (i:Int) :: .bool false :: NM cs[i].1⟩ ty.L4):=by rw [hK];rfl
 have k1:K[1]?=some (It.cells b (Vi a0 c0 ai ci cs.length a6 i c6) ty.Br):=by rw [hK];rfl
 refine⟨λ st w=>st=[.int .i64 cs[i].2.1]/\ST w0 w K,⟨λ st w=>st=[.bool true]/\Rd w a0 (A9 cs)/\ST w0 w K,S1.draw λ w2 B2 S2=>⟨_,S2.cell 0 k0 rfl,Aa (λ h=>by omega) (λ _=>?_)⟩,?_⟩,?_⟩
 ·obtain⟨p,hp,hc⟩:=Qn (hl.grown S2.An) hi;subst hp;exact⟨_,_,_,S2.cell 1 k1 rfl,_,S2.cell 0 k0 rfl,⟨by omega,by omega⟩,_,by rw [AnF];exact hc 1 _ rfl,rfl,eV.grown B2,S2⟩
 ·rintro t w3 ⟨ht,mU,S3⟩;cases ht;exact Bo (S3.draw λ w4 B4 S4=>⟨_,_,_,S4.cell 1 k1 rfl,_,S4.cell 0 k0 rfl,_,S4.cell 0 k0 rfl,_,S4.cell 0 k0 rfl,_,S4.cell 0 k0 rfl,_,S4.cell 0 k0 rfl,_,_,_,S4.cell 0 k0 rfl,S4.call (AjP (E.grown S4.An) (mU.grown B4) hR (by omega) (λ c hc=>by have:=(hk c hc).2;omega) hi hf) λ w5 _ S5=>⟨_,_,rfl,Ap rfl ⟨rfl,S5⟩⟩⟩)
 rintro t w6 ⟨ht,S6⟩;cases ht;refine⟨λ st w=>st=[.bool false]/\ST w0 w K,⟨_,S6.cell 0 k0 rfl,Ap rfl ⟨rfl,S6⟩⟩,?_⟩;rintro t w7 ⟨ht,S7⟩;cases ht;rw [hK] at S7;have dd:=(EH hR (List.getElem_mem hi)).2.1;refine Ap rfl ⟨_,S7.cell 0 rfl rfl,Aa (λ _=>⟨_,S7.cell 0 rfl rfl,(Ama hl hn k5 hk hd hi dd (S7.drop 1)).mono ?_⟩) (λ h'=>absurd (show ((i:Nat):Int)>=0 by omega) h')⟩;rintro _ w8 ⟨v,rfl,rfl,h8⟩;exact⟨_,rfl,rfl,h8⟩
theorem Wf{L:Nat}{Q:Nat->List It->Prop}(hl:Rd w0 ai (JZ cs))(hn:cs.length<=16){bx:Nat}{HN:List It}
  (hy:∀ i (hi:i<cs.length) bi w' B,Q i B->ST w0 w' (itI bi (Ql cs[i]) none 0 :: It.cells bx (Yq ai cs.length ci) ty.CF :: (HN++B))->GJ Tryz.prog L #[.agg ⟨.int .i64 (i:Int) :: .bool false :: NM cs[i].1⟩] (λ y w2=>y=true/\∃ B',Q (i+1) B'/\ST w0 w2 (itI bi (Ql cs[i]) none 0 :: It.cells bx (Yq ai cs.length ci) ty.CF :: (HN++B'))) w')
  {B:List It} (h0:Q 0 B) (S:ST w0 w (It.cells bx (Yq ai cs.length ci) ty.CF :: (HN++B))) :
  Calls Tryz.prog f.H3 #[.func (.yield L) #[] #[],.pointer (some ⟨bx,0,none⟩)] w (AB λ _ w'=>∃ B',Q cs.length B'/\ST w0 w' (HN++B')):=by
 apply R.Mh
 delta R.A R.Ab R.E R.F R.G R.H R.I R.Li R.Ls R.Lt R.N R.O R.Qi R.S R.Ah R.T R.W R.X;try dsimp only [R.Ps]
 refine⟨_,_,_,S.cell 0 rfl rfl,λ st w'=>st=[.int .i64 0]/\w'=w,λ _ _=>0,⟨rfl,rfl⟩,?_⟩;rintro t w1 ⟨ht,rfl⟩;cases ht;refine Ap rfl ⟨_,_,_,S.cell 0 rfl rfl,λ st w'=>st=[.int .i64 0]/\w'=w1,λ _ _=>0,⟨rfl,rfl⟩,?_⟩;rintro t w1 ⟨ht,rfl⟩;cases ht;refine Ap rfl ⟨_,_,_,S.cell 0 rfl rfl,FO cs.length (λ i w=>∃ B',Q i B'/\ST w0 w (It.cells bx (Yq ai cs.length ci) ty.CF :: (HN++B'))) (by omega) ⟨B,h0,S⟩ λ I M i w3 hi ⟨B3,hQ,S3⟩ next=>?_⟩;refine Aa (λ aB=>⟨⟨by omega,aB⟩,?_⟩) (λ aL=>?_)
 ·have aF:i<cs.length:=by omega
  obtain⟨p,hp,hc⟩:=Qn (hl.grown S3.An) aF;subst hp;rw [AnF];refine ldI (i:=Ql cs[i]) hc (S3.Ab8 λ eQ w8 _ S8=>?_);have S8:ST w0 w8 (itI eQ (Ql cs[i]) none 0 :: It.cells bx (Yq (some p) cs.length ci) ty.CF :: (HN++B3)):=S8;refine Ald S8 0 rfl ((hy i aF eQ w8 B3 hQ S8).mono ?_);rintro y w9 ⟨rfl,B',xE,S9⟩;exact Ap rfl (next _ aF ⟨B',xE,S9.drop 1⟩)
 ·obtain rfl:i=cs.length:=by omega
  exact⟨B3,hQ,S3.drop 1⟩
end
theorem Ajv{l m:List Int}(h1:l.Pairwise (·<·))(h2:m.Pairwise (·<·))(hm:∀ x,x∈l↔x∈m):l=m:=by
 have n1:l.Nodup:=h1.imp λ h e=>by omega
 have n2:m.Nodup:=h2.imp λ h e=>by omega
 have hp:l.Perm m:=(List.perm_ext_iff_of_nodup n1 n2).2 hm;exact List.Perm.eq_of_pairwise (le:=λ a b=>a<b) (λ a b _ _ h1 h2=>absurd h2 (by omega)) h1 h2 hp
section
variable {w:World}{p:Pl}{a0 ai aw ag ao a6:Option Addr}{c0 ci cw cg co c6:Nat}
end
section
variable {w:World}{ai:Option Addr}{ci:Nat}{cs:List A0}{a1:Option Addr}{c1:Nat}
structure LQ(w:World)(cs:List A0)(a1 ai:Option Addr)(ci:Nat):Prop where
 E:Env w
 r:Rd w a1 (A9 cs)
 R:Ao cs=true
 l:Rd w ai (JZ cs)
 c:cs.length<=ci
 k:Aab cs
 d:Agf cs
 f:∀ i (hi:i<cs.length),JN cs cs[i].1=some i
theorem LQ.grown{w':World}(A:LQ w cs a1 ai ci)(B:Below w.heap.size w w'):LQ w' cs a1 ai ci:=⟨A.E.grown B,A.r.grown B,A.R,A.l.grown B,A.c,A.k,A.d,A.f⟩
theorem LQ.len(A:LQ w cs a1 ai ci):1<=cs.length/\cs.length<=16:=Be A.R
theorem LQ.nm(A:LQ w cs a1 ai ci):∀ c∈cs,c.1.size<=9223372036854775807:=λ c hc=>by have:=(A.k c hc).2;omega
abbrev qI(b:Nat)(ai:Option Addr)(n ci:Nat):It:=It.cells b (Yq ai n ci) ty.CF
abbrev pI(b:Nat)(a0:Option Addr)(c0:Nat)(ai:Option Addr)(ci n:Nat)(a6:Option Addr)(l6 c6:Nat):It:=It.cells b (Vi a0 c0 ai ci n a6 l6 c6) ty.Br
theorem AjN(A:LQ w cs a1 ai ci):Calls Tryz.prog f.Qg #[.slice a1 cs.length c1,.agg (Yq ai cs.length ci)] w (AB λ r w'=>∃ a0 c0 a6 c6,r=.tuple #[.agg (Vi a0 c0 ai ci cs.length a6 cs.length c6),.int .i64 0]/\ST w w' [Bg a0 c0 cs,Bg a6 c6 (cs.map Jq)]):=by
 apply R.R0
 delta R.A R.Ab R.Cb R.Cf R.Ci R.Cs R.D R.E R.F R.G R.H R.I R.J R.Lb R.Li R.Lp R.Ls R.Lt R.N R.O R.P R.S R.Ah R.T R.Zp;try dsimp only [R.Ps]
 obtain⟨h1,hn16⟩:=A.len;have hlen:(cs.map Ql).length=cs.length:=by simp
 refine (ST.start w).Aj λ b7 w1 _ _ S1=>S1.Aj λ b8 w2 _ _ S2=>S2.call (DA (A.r.grown S2.An) (by omega) A.nm) λ w3 _ S3=>⟨_,rfl,Ap (by rw [A.R];rfl) ?_⟩;refine AaM S3 1 rfl (AaM S3 1 rfl (S3.call (AkN (A.E.grown S3.An) (A.l.grown S3.An) h1 hn16 A.k) λ dN _ iE=>⟨_,rfl,Ap rfl ?_⟩));obtain⟨Z,hZ⟩:∃ Z,Z=It.cells b8 #[.slice none 0 0,.slice none 0 0,.slice none 0 0,.slice none 0 0,.slice none 0 0,.int .i64 0,.slice none 0 0,.bool false] ty.Ii:=⟨_,rfl⟩;have iE:ST w dN [Z,qI b7 ai cs.length ci]:=by rw [hZ];exact iE
 have mE:=JJ (c0:=ci) (A.l.grown iE.An) (AgX dN cs λ c hc=>(A.k c hc).2) (by rw [hlen];omega) (show enters Tryz.prog f.ON=true by kernel_rfl) (fi:=#[]) (ca:=#[]) (λ y=>decide (y.2.1≠0)) λ w' y c B hy hc=>Aca hc;have bC:((cs.map Ql).any λ y=>decide (y.2.1≠0))=false:=by
  rw [List.any_eq_false];intro y hy;obtain⟨c,_,rfl⟩:=List.mem_map.1 hy;simp [Ql]
 rw [bC,hlen] at mE;refine⟨_,_,_,iE.cell 1 rfl rfl,iE.call mE λ iQ _ eC=>⟨_,rfl,?_⟩⟩;refine⟨λ st w'=>∃ bq bp a' c',st=[.pointer (some ⟨bq,0,none⟩)]/\ST w w' [pI bp a' c' ai ci cs.length none 0 0,XN bq bp ty.A7,Bg a' c' cs,Z,qI b7 ai cs.length ci],eC.draw λ kZ _ S=>?_,?_⟩
 ·have iW:∀ {w'} {K:List It} (n:Nat),ST w w' K->K[n]?=some (qI b7 ai cs.length ci)->w'.cell? ⟨b7,0,none⟩=some (.slice ai cs.length ci)/\w'.cell? ⟨b7,1,none⟩=some Hm/\w'.cell? ⟨b7,2,none⟩=some Hm/\w'.cell? ⟨b7,3,none⟩=some Hm/\w'.cell? ⟨b7,4,none⟩=some (.int .i64 (-1)):=λ n S g1=>⟨S.cell n g1 rfl,S.cell n g1 rfl,S.cell n g1 rfl,S.cell n g1 rfl,S.cell n g1 rfl⟩;have fst:∀ {w'} {a' c'} {k:Nat->World->Prop},ST w w' [Bg a' c' cs,Z,qI b7 ai cs.length ci]->(∀ bq bp w',ST w w' [pI bp a' c' ai ci cs.length none 0 0,XN bq bp ty.A7,Bg a' c' cs,Z,qI b7 ai cs.length ci]->k bq w') ->
    C0 (Vi a' c' ai ci cs.length none 0 0) ty.Br (λ bp w=>C0 #[.pointer none] ty.A7 (λ bq w=>Cd ⟨bq,0,none⟩ (.pointer (some ⟨bp,0,none⟩)) (λ w=>k bq w) w) w) w':=λ S hk =>
   S.Aj λ bp w1 _ _ S1=>S1.Aj λ bq w2 _ _ S2=>S2.Cr 0 rfl (aC:=#[.pointer (some ⟨bp,0,none⟩)]) (by simp) rfl λ w3 S3=>hk bq bp w3 (S3.pull 1 rfl)
  have snd:∀ {w'} {a' c'} {bq:Nat} {k:World->Prop},ST w w' [Bg a' c' cs,It.cells bq #[.pointer none] ty.A7,Z,qI b7 ai cs.length ci]->(∀ bp w',ST w w' [pI bp a' c' ai ci cs.length none 0 0,XN bq bp ty.A7,Bg a' c' cs,Z,qI b7 ai cs.length ci]->k w') ->
    C0 (Vi a' c' ai ci cs.length none 0 0) ty.Br (λ bp w=>Cd ⟨bq,0,none⟩ (.pointer (some ⟨bp,0,none⟩)) (λ w=>k w) w) w':=λ S hk =>
   S.Aj λ bp w1 _ _ S1=>S1.Cr 2 rfl (aC:=#[.pointer (some ⟨bp,0,none⟩)]) (by simp) rfl λ w3 S3=>hk bp w3 ((S3.pull 2 rfl).pull 1 rfl)
  refine AaM S 1 rfl ⟨(My S (A.r.grown S.An) (by omega)).mono ?_,S.Aj λ zQ ue _ _ pE=>⟨iW 2 pE rfl,(My pE (A.r.grown pE.An) (by omega)).mono ?_⟩⟩
  ·rintro _ ka ⟨_,rfl,a',c',rfl,fp⟩;exact⟨_,_,_,rfl,iW 2 fp rfl,Aw ⟨_,_,_,fp.cell 2 rfl rfl,fst fp λ bq bp w' S'=>⟨bq,bp,a',c',rfl,S'⟩,fp.Aj λ zP nt _ _ pD=>⟨pD.cell 3 rfl rfl,iW 3 pD rfl,snd (pD.pull 1 rfl) λ bp w' S'=>⟨_,bp,a',c',rfl,S'⟩⟩⟩⟩
  ·rintro _ kb ⟨_,rfl,a',c',rfl,lN⟩;exact⟨_,_,_,rfl,iW 3 lN rfl,Aw ⟨_,_,_,lN.cell 3 rfl rfl,snd lN λ bp w' S'=>⟨_,bp,a',c',rfl,S'⟩⟩⟩
 rintro pp om ⟨bq,bp,a',c',aA,vU⟩;obtain rfl:pp=some ⟨bq,0,none⟩:=by simpa using aA
 refine vU.Aj λ kh yz _ _ vV=>vV.Cr 0 rfl (aC:=#[.int .i64 0]) (by simp) rfl λ oo tA=>?_;refine⟨λ _ ms w'=>∃ m a6 c6,ms=[m]/\ST w w' [pI bp a' c' ai ci cs.length a6 cs.length c6,Bg a6 c6 (cs.map Jq),V5 kh 0 ty.CE,XN bq bp ty.A7,Bg a' c' cs,It.obj m (.deferred (some [])),Z,qI b7 ai cs.length ci],?_,?_⟩
 ·have ey:Calls Tryz.prog f.Up #[.agg (Yq ai cs.length ci)] oo (AB λ v w'=>∃ b,v=.func (.func f.H3) #[] #[.pointer (some ⟨b,0,none⟩)]/\ST oo w' [qI b ai cs.length ci]):=by
   apply R.Iz
   delta R.I R.J R.N R.P R.S;try dsimp only [R.Ps]
   exact (ST.start oo).Aj λ b1 w1 _ _ S1=>⟨b1,rfl,S1⟩
  refine AaM tA 5 rfl (ey.mono ?_);rintro _ oq ⟨_,rfl,bx,rfl,vK⟩;have vW:=((tA.nil ty.BX 3).join vK);refine⟨_,_,_,rfl,by kernel_rfl,λ rr aA bJ hy=>?_⟩;have pG:=vW.range rr;obtain⟨L,hL⟩:∃ L,L=oq.heap.size+1:=⟨_,rfl⟩;obtain⟨m,hm⟩:∃ m,m=oq.heap.size:=⟨_,rfl⟩;rw [<- hL] at pG hy ⊢;rw [<- hm] at pG ⊢;have vX:ST w ((oq.alloc (.deferred (some []))).alloc (.loop rr)) (qI bx ai cs.length ci :: ([It.obj m (.deferred (some [])),Z,qI b7 ai cs.length ci]++[pI bp a' c' ai ci cs.length none 0 0,Bg none 0 [],It.obj L (.loop rr),V5 kh 0 ty.CE,XN bq bp ty.A7,Bg a' c' cs])):=by
   exact (((((((((pG.pull 7 rfl).pull 7 rfl).pull 6 rfl).pull 3 rfl).pull 6 rfl).pull 7 rfl).pull 9 rfl).pull 9 rfl).pull 8 rfl).pull 9 rfl
  refine (Wf (Q:=λ i B=>∃ a6 c6,B=[pI bp a' c' ai ci cs.length a6 i c6,Bg a6 c6 ((cs.take i).map Jq),It.obj L (.loop rr),V5 kh 0 ty.CE,XN bq bp ty.A7,Bg a' c' cs]) A.l hn16 ?_ ⟨none,0,rfl⟩ vX).mono ?_
  ·rintro i hi bi w6 _ ⟨a6,c6,rfl⟩ S;have S:=ST.Qc (B:=[]) (X:=[itI bi (Ql cs[i]) none 0,qI bx ai cs.length ci,It.obj m (.deferred (some [])),Z,qI b7 ai cs.length ci]) [pI bp a' c' ai ci cs.length a6 i c6,Bg a6 c6 ((cs.take i).map Jq),It.obj L (.loop rr),V5 kh 0 ty.CE,XN bq bp ty.A7,Bg a' c' cs] S;refine hy _ _ _ _ _ _ _ _ _ _ _ w6 (S.get 2 rfl) ?_;refine S.Ab8 λ zR w55 _ S=>S.Abm 3 rfl λ zE S=>⟨_,S.cell 5 rfl rfl,_,S.cell 0 rfl rfl,_,S.cell 0 rfl rfl,_,S.cell 0 rfl rfl,_,S.cell 0 rfl rfl,_,S.cell 0 rfl rfl,_,S.cell 0 rfl rfl,_,S.cell 0 rfl rfl,_,_,_,S.cell 0 rfl rfl,?_⟩;have jz:Rd zE a' (A9 cs):=S.rd 6 rfl;refine (AkH A.E A.l hn16 A.c A.k A.d A.R hi (A.f i hi) jz ((S.pull 2 rfl).pull 2 rfl)).mono ?_;rintro _ ot ⟨_,rfl,rfl,a5,c5,vY⟩;refine⟨_,rfl,vY.Cr 4 rfl (aC:=#[.int .i64 0]) (by simp) rfl λ ou lO=>⟨_,lO.cell 4 rfl rfl,Ap rfl (lO.QV 3 aA bJ rfl λ w' S'=>⟨rfl,_,⟨a5,c5,rfl⟩,?_⟩)⟩⟩;exact ST.AdQ (B:=[]) (X:=[itI bi (Ql cs[i]) none 0,qI bx ai cs.length ci,It.obj m (.deferred (some [])),Z,qI b7 ai cs.length ci]) [pI bp a' c' ai ci cs.length a5 (i+1) c5,Bg a5 c5 ((cs.take (i+1)).map Jq),It.obj L (.loop rr),V5 kh 0 ty.CE,XN bq bp ty.A7,Bg a' c' cs] ((S'.pull 2 rfl).drop 1)
  ·rintro _ zF ⟨_,rfl,B',⟨a6,c6,rfl⟩,fq⟩;have fq:=ST.Qc (B:=[]) (X:=[It.obj m (.deferred (some [])),Z,qI b7 ai cs.length ci]) [pI bp a' c' ai ci cs.length a6 cs.length c6,Bg a6 c6 ((cs.take cs.length).map Jq),It.obj L (.loop rr),V5 kh 0 ty.CE,XN bq bp ty.A7,Bg a' c' cs] fq;rw [List.take_length] at fq;exact⟨⟨_,rfl⟩,fq.QU 2 aA bJ rfl λ w60 vd=>.inl ⟨rfl,m,a6,c6,rfl,(vd.pull 2 rfl).drop 1⟩⟩
 rintro _ w61 ⟨m,a6,c6,rfl,gJ⟩;rw [hZ] at gJ;refine⟨_,gJ.cell 2 rfl rfl,Ap rfl ⟨_,gJ.cell 3 rfl rfl,_,_,_,gJ.cell 0 rfl rfl,_,_,_,gJ.cell 0 rfl rfl,_,_,_,gJ.cell 0 rfl rfl,_,_,_,gJ.cell 0 rfl rfl,_,_,_,gJ.cell 0 rfl rfl,_,gJ.cell 0 rfl rfl,_,_,_,gJ.cell 0 rfl rfl,_,gJ.cell 0 rfl rfl,gJ.Alf 6 rfl λ w79 vf=>?_⟩⟩;refine ST.shut (ms:=[m]) (vf.pull 5 rfl) λ w71 iT=>⟨_,_,_,iT.cell 5 rfl rfl,_,_,_,iT.cell 5 rfl rfl,_,_,_,iT.cell 5 rfl rfl,_,_,_,iT.cell 5 rfl rfl,_,_,_,iT.cell 5 rfl rfl,_,iT.cell 5 rfl rfl,_,_,_,iT.cell 5 rfl rfl,_,iT.cell 5 rfl rfl,a',c',a6,c6,rfl,?_⟩;exact ((iT.pull 1 rfl).pull 4 rfl).sub (.cons_cons _ (.cons_cons _ (List.nil_sublist _)))
end
def EL(n:Nat):List Int:=(List.range n).map λ i:Nat=>(i:Int)
theorem Lc(n:Nat):(EL n).length=n:=by simp [EL]
theorem Ws(n:Nat):EL (n+1)=EL n++[(n:Int)]:=by simp [EL,List.range_succ]
theorem Aan(n:Nat):Lib.compact ((EL n).mergeSort λ x y=>decide (x<=y))=EL n:=by
 obtain⟨h1,h2⟩:=Y8 (EL n);refine Ajv h1 ?_ h2;unfold EL;rw [List.pairwise_map];exact List.pairwise_lt_range.imp λ h=>by omega
section
variable {w:World}{ai:Option Addr}{ci:Nat}{cs:List A0}{a1:Option Addr}{c1:Nat}
abbrev pJ(b:Nat)(a0:Option Addr)(c0:Nat)(ai:Option Addr)(ci n:Nat)(a6:Option Addr)(l6 c6:Nat):It:=It.cells b (Vi a0 c0 ai ci n a6 l6 c6) ty.Ii
theorem AeR(w:World)(ai:Option Addr)(n ci:Nat):Calls Tryz.prog f.Up #[.agg (Yq ai n ci)] w (AB λ v w'=>∃ b,v=.func (.func f.H3) #[] #[.pointer (some ⟨b,0,none⟩)]/\ST w w' [qI b ai n ci]):=by
 apply R.Iz
 delta R.I R.J R.N R.P R.S;try dsimp only [R.Ps]
 exact (ST.start w).Aj λ b1 w1 _ _ S1=>⟨b1,rfl,S1⟩
theorem AkG(A:LQ w cs a1 ai ci){a0 a6:Option Addr}{c0 l6 c6:Nat}(h0:Rd w a0 (A9 cs)):Calls Tryz.prog f.Ack #[.agg (Vi a0 c0 ai ci cs.length a6 l6 c6)] w (AB λ r w'=>∃ a c,r=.slice a cs.length c/\ST w w' [Dk a c (EL cs.length)]):=by
 apply R.Qh
 delta R.A R.Ab R.Ad R.Cf R.Ci R.Cn R.Cs R.E R.F R.G R.I R.J R.Ks R.Li R.Ls R.Lt R.N R.O R.Qi R.S R.Ah R.T R.W R.X;try dsimp only [R.Ps]
 obtain⟨h1,hn16⟩:=A.len;refine (ST.start w).Aj λ b9 w1 _ _ S1=>S1.Aj λ bW w2 _ _ S2=>⟨_,_,_,S2.cell 1 rfl rfl,_,_,_,S2.cell 1 rfl rfl,_,_,_,S2.cell 1 rfl rfl,_,_,_,S2.cell 1 rfl rfl,_,S2.cell 1 rfl rfl,(AeR _ _ _ _).mono ?_⟩;rintro _ w3 ⟨_,rfl,bx,rfl,P3⟩;have S3:ST w w3 [qI bx ai cs.length ci,Dk none 0 [],It.cells bW #[.slice none 0 0] ty.GK,pJ b9 a0 c0 ai ci cs.length a6 l6 c6]:=(S2.nil ty.int 1).join P3;refine⟨_,_,_,rfl,by kernel_rfl,λ rr aA bJ hy=>?_⟩;have S4:=S3.range rr;obtain⟨L,hL⟩:∃ L,L=w3.heap.size+1:=⟨_,rfl⟩;obtain⟨m,hm⟩:∃ m,m=w3.heap.size:=⟨_,rfl⟩;rw [<- hL] at S4 hy ⊢;rw [<- hm] at S4 ⊢;have S5:ST w ((w3.alloc (.deferred (some []))).alloc (.loop rr)) (qI bx ai cs.length ci :: ([It.obj m (.deferred (some []))]++[Dk none 0 [],It.cells bW #[.slice none 0 0] ty.GK,It.obj L (.loop rr),pJ b9 a0 c0 ai ci cs.length a6 l6 c6])) :=
  (((((S4.pull 5 rfl).pull 1 rfl).pull 5 rfl).pull 5 rfl).pull 4 rfl).pull 5 rfl
 refine (Wf (Q:=λ i B=>∃ sa sc,B=[Dk sa sc (EL i),It.cells bW #[.slice sa i sc] ty.GK,It.obj L (.loop rr),pJ b9 a0 c0 ai ci cs.length a6 l6 c6]) A.l hn16 ?_ ⟨none,0,rfl⟩ S5).mono ?_
 ·rintro i hi bi w4 _ ⟨sa,sc,rfl⟩ S;have S:=ST.Qc (B:=[]) (X:=[itI bi (Ql cs[i]) none 0,qI bx ai cs.length ci,It.obj m (.deferred (some []))]) [Dk sa sc (EL i),It.cells bW #[.slice sa i sc] ty.GK,It.obj L (.loop rr),pJ b9 a0 c0 ai ci cs.length a6 l6 c6] S;refine hy _ _ _ _ _ _ _ _ _ _ _ w4 (S.get 2 rfl) ?_;refine S.Ab8 λ lU bN _ S=>S.Abm 3 rfl λ bF S=>⟨_,S.cell 0 rfl rfl,_,S.cell 0 rfl rfl,_,S.cell 0 rfl rfl,_,S.cell 0 rfl rfl,_,S.cell 0 rfl rfl,_,_,_,S.cell 0 rfl rfl,(AjQ (A.E.grown S.An) cs[i].1).mono ?_⟩;rintro _ ay ⟨_,rfl,at_,ct,rfl,vJ⟩;have gH:=S.join vJ;refine⟨_,_,_,rfl,FO 1 (λ k dY=>∃ sa sc,ST w dY (IG at_ ct [cs[i].1] :: It.cells lU ⟨.int .i64 (i:Int) :: .bool false :: NM cs[i].1⟩ ty.L4 :: Dk sa sc (EL (i+k)) :: It.cells bW #[.slice sa (i+k) sc] ty.GK :: It.obj L (.loop { rr with state:=.busy }) :: pJ b9 a0 c0 ai ci cs.length a6 l6 c6 :: ([itI bi (Ql cs[i]) none 0,qI bx ai cs.length ci,It.obj m (.deferred (some []))]++[]))) (by omega) ⟨sa,sc,gH⟩ λ I2 M2 k dY hk ⟨ng,nh,dn⟩ next=>?_⟩
  refine Aa (λ aB=>⟨⟨by omega,aB⟩,?_⟩) (λ aL=>?_)
  ·obtain rfl:k=0:=by omega
   obtain⟨ps,cU,hc⟩:=dn.rd 0 rfl 0 _ rfl;subst cU;refine⟨_,hc,_,_,_,dn.cell 5 rfl rfl,dn.call (G8 (h0.grown dn.An) (by omega) cs[i].1) λ gF _ fh=>⟨_,rfl,?_⟩⟩;rw [A.f i hi];refine Aa (λ _=>⟨_,_,_,fh.cell 3 rfl rfl,fh.Aj λ pO gG _ zH jH=>?_⟩) (λ h=>absurd (show ((i:Nat):Int)>=0 by omega) h);have jH:ST w gG (It.cells pO #[.int .i64 (i:Int)] ty.int :: IG (some ps) ct [cs[i].1] :: It.cells lU ⟨.int .i64 (i:Int) :: .bool false :: NM cs[i].1⟩ ty.L4 :: It.row ty.int 1 ng i nh ((EL i).map λ n=>Value.int .i64 n) :: It.cells bW #[.slice ng i nh] ty.GK :: It.obj L (.loop { rr with state:=.busy }) :: pJ b9 a0 c0 ai ci cs.length a6 l6 c6 :: ([itI bi (Ql cs[i]) none 0,qI bx ai cs.length ci,It.obj m (.deferred (some []))]++[])):=by
    have h:=jH;unfold Dk at h;rw [Nat.add_zero,Lc] at h;exact h
   refine jH.app 3 rfl AcG rfl (by omega) (by omega) (jH.rdc 0 rfl) (mm:=1) rfl (by intro u hu;simp at hu;rw [hu];rfl) (by omega) λ a' c' jD iS=>⟨_,_,_,rfl,iS.Cr 4 rfl (aC:=#[.slice a' (i+1) c']) (by simp) rfl λ iP pB=>next _ (by omega) ⟨a',c',?_⟩⟩;have eC:=pB.drop 1;unfold Dk;rw [Lc,Anu,Ws,List.map_append];exact eC
  ·obtain rfl:k=1:=by omega
   refine dn.QV 4 aA bJ rfl λ w' S'=>⟨rfl,_,⟨ng,nh,rfl⟩,?_⟩;exact ST.AdQ (B:=[]) (X:=[itI bi (Ql cs[i]) none 0,qI bx ai cs.length ci,It.obj m (.deferred (some []))]) [Dk ng nh (EL (i+1)),It.cells bW #[.slice ng (i+1) nh] ty.GK,It.obj L (.loop rr),pJ b9 a0 c0 ai ci cs.length a6 l6 c6] (S'.drop 2)
 ·rintro _ iQ ⟨_,rfl,B',⟨sa,sc,rfl⟩,eC⟩;have eC:=ST.Qc (B:=[]) (X:=[It.obj m (.deferred (some []))]) [Dk sa sc (EL cs.length),It.cells bW #[.slice sa cs.length sc] ty.GK,It.obj L (.loop rr),pJ b9 a0 c0 ai ci cs.length a6 l6 c6] eC;have bS:=Lc cs.length;refine⟨⟨_,rfl⟩,eC.QU 2 aA bJ rfl λ kZ gI=>⟨rfl,_,_,_,gI.cell 1 rfl rfl,?_⟩⟩;have hs:=Ahw gI 0 rfl (by omega);rw [bS] at hs;refine hs.mono ?_;rintro _ ka ⟨_,rfl,rfl,fp⟩;have bm:((EL cs.length).mergeSort λ x y=>decide (x<=y)).length=cs.length:=by rw [List.length_mergeSort];exact bS
  have hc:=Y7 fp 0 rfl (by omega);rw [Aan,bm] at hc;refine⟨rfl,_,_,_,fp.cell 1 rfl rfl,hc.mono ?_⟩;rintro _ nq ⟨_,rfl,rfl,sy⟩;refine⟨_,_,_,rfl,sy.get 4 rfl,sa,sc,by rw [bS],((sy.put 4 rfl (.deferred none))).one⟩
end
end Go.Proofs.YtoepjfblppfabaaGreatDoor
namespace Go.Proofs.YtoepjfblppfabaaGreatDoor
set_option maxRecDepth 100000
open Go.Dn Go.Proofs
open Go.RowKit (Below)
set_option linter.unusedVariables false
/-! ### the order -/
def ET(x y:Int):Int:=if x<y then -1 else if x > y then 1 else 0
def F6(a b:Ax):Int :=
 if ET a.1 b.1≠0 then ET a.1 b.1 else if ET a.2.1 b.2.1≠0 then ET a.2.1 b.2.1 else Lib.compareBytes (bl a.2.2) (bl b.2.2)
theorem QN(w:World)(x:Int):Calls Tryz.prog f.RC #[.int .i64 x] w (AB λ r w'=>r=.bool false/\w'=w):=by
 apply R.JV;exact⟨by simp,rfl⟩
theorem U6(w:World)(x y:Int):Calls Tryz.prog f.N7 #[.int .i64 x,.int .i64 y] w (AB λ r w'=>r=.int .i64 (ET x y)/\w'=w):=by
 apply R.Im
 delta R.Cb R.F R.I;try dsimp only [R.Ps]
 refine (QN w x).mono ?_;rintro _ w ⟨_,rfl,rfl,rfl⟩;refine⟨_,rfl,(QN w y).mono ?_⟩;rintro _ w ⟨_,rfl,rfl,rfl⟩;refine⟨_,rfl,Aw (Aw (Aa (λ h=>⟨?_,rfl⟩) (λ h=>Aa (λ h2=>⟨?_,rfl⟩) (λ h2=>⟨?_,rfl⟩))))⟩
 ·simp [ET,h]
 ·simp [ET,h,h2]
 ·simp [ET,h,h2]
theorem Tn(w:World)(x:Int):Calls Tryz.prog f.cmp_isNaN_int #[.int .i64 x] w (AB λ r w'=>r=.bool false/\w'=w):=by
 apply R.Mc
 delta R.G;try dsimp only [R.Ps]
 exact⟨by simp,rfl⟩
theorem Akj(x y:Int)(w:World):Calls Tryz.prog f.JL #[.int .i64 x,.int .i64 y] w λ e w'=>e=.returned (.int .i64 (ET x y))/\w'=w:=by
 have h:Calls Tryz.prog f.JL #[.int .i64 x,.int .i64 y] w (AB λ r w'=>r=.int .i64 (ET x y)/\w'=w):=by
  apply R.JU
  delta R.Cb R.F R.I;try dsimp only [R.Ps]
  refine (Tn w x).mono ?_;rintro _ w ⟨_,rfl,rfl,rfl⟩;refine⟨_,rfl,(Tn w y).mono ?_⟩;rintro _ w ⟨_,rfl,rfl,rfl⟩;refine⟨_,rfl,Aw (Aw (Aa (λ h=>⟨?_,rfl⟩) (λ h=>Aa (λ h2=>⟨?_,rfl⟩) (λ h2=>⟨?_,rfl⟩))))⟩
  ·simp [ET,h]
  ·simp [ET,h,h2]
  ·simp [ET,h,h2]
 refine h.mono ?_;rintro _ _ ⟨_,rfl,rfl,rfl⟩;exact⟨rfl,rfl⟩
theorem Aim{w:World}{b:Nat}{t:TypeId}(x y z:Int)(hb:w.heap[b]?=some (.cells #[.int .i64 x,.int .i64 y,.int .i64 z] t (0,0))) :
  Calls Tryz.prog f.Abu #[.slice (some ⟨b,0,none⟩) 3 3] w (AB λ r w'=>r=.int .i64 (if x≠0 then x else if y≠0 then y else z)/\w'=w):=by
 apply R.PJ
 delta R.Ad R.F R.I R.Li R.Qi R.W R.X;try dsimp only [R.Ps]
 have cell:∀(k:Nat) (v:Value),[Value.int .i64 x,.int .i64 y,.int .i64 z][k]?=some v->w.cell? ((⟨b,0,none⟩:Addr).add ((k:Int).toNat*1))=some v:=by
  intro k v hv;rw [Int.toNat_natCast,Nat.mul_one,Am,Nat.zero_add];simp only [World.cell?,hb];simpa using hv
 refine⟨λ s w1=>w1=w/\(s=[.int .i64 ((0:Nat):Int)]\/(s=[.int .i64 ((1:Nat):Int)]/\x=0)\/(s=[.int .i64 ((2:Nat):Int)]/\x=0/\y=0)\/(s=[.int .i64 ((3:Nat):Int)]/\x=0/\y=0/\z=0)),
  λ s _=>match s with
   | [.int _ i]=>3-i.toNat
   | _=>0,⟨rfl,.inl rfl⟩,?_⟩
 rintro i w1 ⟨rfl,hs⟩;rcases hs with hs | ⟨hs,h0⟩ | ⟨hs,h0,h1⟩ | ⟨hs,h0,h1,h2⟩
 ·cases hs;refine Bo ⟨by decide,_,cell 0 _ rfl,Au (λ h=>⟨by rw [if_pos h],rfl⟩) (λ h=>?_)⟩;rw [Ai (by omega)];exact⟨⟨rfl,.inr (.inl ⟨rfl,h⟩)⟩,show 2<3 by decide⟩
 ·cases hs;refine Bo ⟨by decide,_,cell 1 _ rfl,Au (λ h=>⟨by rw [if_neg (by omega),if_pos h],rfl⟩) (λ h=>?_)⟩;rw [Ai (by omega)];exact⟨⟨rfl,.inr (.inr (.inl ⟨rfl,h0,h⟩))⟩,show 1<2 by decide⟩
 ·cases hs;refine Bo ⟨by decide,_,cell 2 _ rfl,Au (λ h=>⟨by rw [if_neg (by omega),if_neg (by omega)],rfl⟩) (λ h=>?_)⟩;rw [Ai (by omega)];exact⟨⟨rfl,.inr (.inr (.inr ⟨rfl,h0,h1,h⟩))⟩,show 0<1 by decide⟩
 ·cases hs;exact Aw ⟨by rw [if_neg (by omega),if_neg (by omega),h2],rfl⟩
theorem IJ(w:World)(a b:Ax):Calls Tryz.prog f.Vw #[Aft a,Aft b] w (AB λ r w'=>r=.int .i64 (F6 a b)/\Below w.heap.size w w'):=by
 apply R.Mq
 delta R.A R.Ab R.Ci R.D R.I R.J R.Li R.Lt R.N R.S R.T;try dsimp only [R.Ps]
 refine (SH.start (λ _=>False) w).Aj λ b7 w1 tp B1 S1=>S1.Aj λ b8 w2 xY B2 S2=>S2.MC λ w3 B3 S3=>?_;refine⟨_,S3.cell 1 rfl rfl,_,S3.cell 0 rfl rfl,_,S3.cell 1 rfl rfl,_,S3.cell 0 rfl rfl,_,S3.cell 1 rfl rfl,_,S3.cell 0 rfl rfl,(Akj _ _ w3).mono ?_⟩;rintro _ w3 ⟨rfl,rfl⟩;refine⟨_,rfl,S3.cell 0 rfl rfl,S3.cell 1 rfl rfl,S3.cell 0 rfl rfl,S3.cell 1 rfl rfl,(U6 w3 _ _).mono ?_⟩;rintro _ w3 ⟨_,rfl,rfl,rfl⟩;refine⟨_,rfl,S3.cell 0 rfl rfl,S3.cell 1 rfl rfl,(Tryz.strings_Compare _ _ w3).mono ?_⟩;rintro _ w3 ⟨rfl,rfl⟩;refine⟨_,rfl,S3.Aj λ gK w7 mM B7 S7=>(Aim _ _ _ (S7.get 0 rfl)).mono ?_⟩;rintro _ w7 ⟨_,rfl,rfl,rfl⟩;exact⟨_,rfl,rfl,S7.below⟩
end Go.Proofs.YtoepjfblppfabaaGreatDoor
namespace Go.Dn
end Go.Dn
namespace Go.Proofs.YtoepjfblppfabaaGreatDoor
open _root_.UInt8 renaming lt_irrefl -> AoR
open Go.Dn Go.Proofs
open Go.RowKit (Below)
set_option linter.unusedVariables false
set_option maxRecDepth 20000
/-! ### orders -/
structure NP{α:Type}(f:α->α->Int):Prop where
 neg:∀ x y,f y x =-f x y
 zero:∀ x y,f x y=0↔x=y
 trans:∀ x y z,f x y<=0->f y z<=0->f x z<=0
theorem NP.strict{α:Type}{f:α->α->Int}(h:NP f)(x y z:α)(h1:f x y<0)(h2:f y z<=0):f x z<0:=by
 have h3:=h.trans x y z (by omega) h2;rcases Int.lt_or_eq_of_le h3 with h4 | h4
 ·exact h4
 ·have:=(h.zero x z).1 h4;subst this;have:=h.neg x y;omega
theorem Ady:NP ET:=by
 refine⟨λ x y=>?_,λ x y=>?_,λ x y z=>?_⟩
 ·unfold ET;split <;> split <;> (try split) <;> (try split) <;> omega
 ·unfold ET;split
  ·constructor <;> intro h <;> omega
  ·split
   ·constructor <;> intro h <;> omega
   ·constructor <;> intro h <;> omega
 ·unfold ET;intro h1 h2;split at h1 <;> split at h2 <;> split <;> (try split at h1) <;> (try split at h2) <;> (try split) <;> omega
theorem Af8:∀ x y:List UInt8,Lib.compareBytes y x =-Lib.compareBytes x y
 | [],[]=>rfl
 | [],_ :: _=>rfl
 | _ :: _,[]=>rfl
 | a :: x,b :: y=>by
  simp only [Lib.compareBytes];by_cases h1:a<b
  ·have h2:¬ b<a:=λ h=>absurd (UInt8.lt_trans h1 h) (AoR a);simp [h1,h2]
  ·by_cases h2:b<a
   ·simp [h1,h2]
   ·simp [h1,h2,Af8 x y]
theorem AhS{a b:UInt8}(h1:¬ a<b)(h2:¬ b<a):a=b:=UInt8.le_antisymm (UInt8.not_lt.1 h2) (UInt8.not_lt.1 h1)
theorem Ac2:∀ x y:List UInt8,Lib.compareBytes x y=0↔x=y
 | [],[]=>by simp [Lib.compareBytes]
 | [],_ :: _=>by simp [Lib.compareBytes]
 | _ :: _,[]=>by simp [Lib.compareBytes]
 | a :: x,b :: y=>by
  simp only [Lib.compareBytes];by_cases h1:a<b
  ·rw [if_pos h1];constructor
   ·intro h;cases h
   ·intro h;cases h;exact absurd h1 (AoR a)
  ·rw [if_neg h1];by_cases h2:b<a
   ·rw [if_pos h2];constructor
    ·intro h;cases h
    ·intro h;cases h;exact absurd h2 (AoR a)
   ·rw [if_neg h2,Ac2 x y,AhS h1 h2];simp
theorem Y1:∀ x y z:List UInt8,Lib.compareBytes x y<=0->Lib.compareBytes y z<=0->Lib.compareBytes x z<=0
 | [],_,[],_,_=>by simp [Lib.compareBytes]
 | [],_,_ :: _,_,_=>by simp [Lib.compareBytes]
 | _ :: _,[],_,h,_=>by simp [Lib.compareBytes] at h
 | _ :: _,_ :: _,[],_,h=>by simp [Lib.compareBytes] at h
 | a :: x,b :: y,c :: z,h1,h2=>by
  simp only [Lib.compareBytes] at h1 h2 ⊢;by_cases e1:a<b
  ·by_cases e2:b<c
   ·rw [if_pos (UInt8.lt_trans e1 e2)];decide
   ·rw [if_neg e2] at h2;by_cases e3:c<b
    ·rw [if_pos e3] at h2;omega
    ·have:=AhS e2 e3;subst this;rw [if_pos e1];decide
  ·rw [if_neg e1] at h1;by_cases e2:b<a
   ·rw [if_pos e2] at h1;omega
   ·have:=AhS e1 e2;subst this;rw [if_neg e2] at h1;by_cases e3:a<c
    ·rw [if_pos e3];decide
    ·rw [if_neg e3] at h2 ⊢;by_cases e4:c<a
     ·rw [if_pos e4] at h2;omega
     ·rw [if_neg e4] at h2 ⊢;exact Y1 x y z h1 h2
def Ab7{α β:Type}(f:α->α->Int)(g:β->β->Int)(x y:α × β):Int:=if f x.1 y.1≠0 then f x.1 y.1 else g x.2 y.2
theorem NP.lex{α β:Type}{f:α->α->Int}{g:β->β->Int}(hf:NP f)(hg:NP g):NP (Ab7 f g):=by
 refine⟨λ x y=>?_,λ x y=>?_,λ x y z=>?_⟩
 ·have h1:=hf.neg x.1 y.1;have h2:=hg.neg x.2 y.2;unfold Ab7;split <;> split <;> omega
 ·have h1:=hf.zero x.1 y.1;have h2:=hg.zero x.2 y.2;unfold Ab7;split
  ·rename_i h;constructor
   ·intro e;exact absurd e h
   ·intro e;rw [e] at h;exact absurd ((hf.zero _ _).2 rfl) h
  ·rename_i h;have e1:x.1=y.1:=h1.1 (by omega);rw [h2];constructor
   ·intro e;exact Prod.ext e1 e
   ·intro e;rw [e]
 ·unfold Ab7;intro a b;by_cases h1:f x.1 y.1=0
  ·have e1:=(hf.zero _ _).1 h1;rw [if_neg (by omega)] at a;rw [<- e1] at b;by_cases h2:f x.1 z.1=0
   ·rw [if_neg (by omega)] at b ⊢;exact hg.trans _ _ _ a b
   ·rw [if_pos h2] at b ⊢;exact b
  ·rw [if_pos h1] at a;by_cases h2:f y.1 z.1=0
   ·have e2:=(hf.zero _ _).1 h2;rw [<- e2,if_pos h1];exact a
   ·rw [if_pos h2] at b;have:=hf.strict x.1 y.1 z.1 (by omega) b;rw [if_pos (by omega)];omega
def Akl(a b:Ax):Int:=Ab7 ET (Ab7 ET (λ s t=>Lib.compareBytes (bl s) (bl t))) a b
theorem Ail(a b:Ax):F6 a b=Akl a b:=by
 simp only [F6,Akl,Ab7]
theorem Aja:NP (λ s t:ByteArray=>Lib.compareBytes (bl s) (bl t)) :=
 ⟨λ x y=>Af8 _ _,λ x y=>(Ac2 _ _).trans ⟨λ h=>MW h,λ h=>by rw [h]⟩,λ x y z=>Y1 _ _ _⟩
theorem L3:NP F6:=by
 have:F6=Akl:=by funext a b;exact Ail a b
 rw [this];exact Ady.lex (Ady.lex Aja)
/-! ### the laws -/
end Go.Proofs.YtoepjfblppfabaaGreatDoor
namespace Go.Dn
open _root_.List renaming getElem?_eq_some_iff -> Anj, getElem?_set_self -> Anl, set_set -> AnE
open Go.RowKit (Below)
section
variable {F:Nat->Prop}{w0 w:World}{H:List Yy}
theorem SH.IM(S:SH F w0 w H)(n:Nat){b:Nat}{cs aC:Array Value}{t:TypeId}(hn:H[n]?=some (b,cs,t)){i:Nat}{v:Value}{k:World->Prop}(hi:i<cs.size)(hc:cs.setIfInBounds i v=aC)
  (hk:∀ w',Ae (·=b) w w'->SH F w0 w' (H.set n (b,aC,t))->k w'):Cd ⟨b,i,none⟩ v k w:=by
 subst hc;exact S.AaO n hn hi hk
theorem SH.Afm(S:SH F w0 w H)(n:Nat){b:Nat}{x0 x1 x2 x3 x4 x5 x6 v0 v1 v2 v3 v4 v5 v6:Value}{t:TypeId}(hn:H[n]?=some (b,#[x0,x1,x2,x3,x4,x5,x6],t)){k:World->Prop}
  (hk:∀ w',Ae (·=b) w w'->SH F w0 w' (H.set n (b,#[v0,v1,v2,v3,v4,v5,v6],t))->k w') :
  Cd ⟨b,0,none⟩ v0 (λ w=>Cd ⟨b,1,none⟩ v1 (λ w=>Cd ⟨b,2,none⟩ v2 (λ w=>Cd ⟨b,3,none⟩ v3 (λ w=>Cd ⟨b,4,none⟩ v4 (λ w=>Cd ⟨b,5,none⟩ v5 (λ w=>Cd ⟨b,6,none⟩ v6 k w) w) w) w) w) w) w:=by
 have aB:=(Anj.1 hn).1;have tr:∀ {a c d:World},Ae (·=b) a c->Ae (·=b) c d->Ae (·=b) a d:=λ h h'=>h.trans h' (λ _ _ h=>h);refine S.IM n hn (aC:=#[v0,x1,x2,x3,x4,x5,x6]) (by simp) rfl λ w1 K1 S1=>?_;refine S1.IM n (Anl aB) (aC:=#[v0,v1,x2,x3,x4,x5,x6]) (by simp) rfl λ w2 K2 S2=>?_;rw [AnE] at S2;refine S2.IM n (Anl aB) (aC:=#[v0,v1,v2,x3,x4,x5,x6]) (by simp) rfl λ w3 K3 S3=>?_;rw [AnE] at S3;refine S3.IM n (Anl aB) (aC:=#[v0,v1,v2,v3,x4,x5,x6]) (by simp) rfl λ w4 K4 S4=>?_;rw [AnE] at S4;refine S4.IM n (Anl aB) (aC:=#[v0,v1,v2,v3,v4,x5,x6]) (by simp) rfl λ w5 K5 S5=>?_;rw [AnE] at S5;refine S5.IM n (Anl aB) (aC:=#[v0,v1,v2,v3,v4,v5,x6]) (by simp) rfl λ w6 K6 S6=>?_;rw [AnE] at S6;refine S6.IM n (Anl aB) (aC:=#[v0,v1,v2,v3,v4,v5,v6]) (by simp) rfl λ w7 K7 S7=>?_;rw [AnE] at S7;exact hk w7 (tr (tr (tr (tr (tr (tr K1 K2) K3) K4) K5) K6) K7) S7
theorem SH.AhF(S:SH F w0 w H)(n:Nat){b:Nat}{x0 x1 x2 x3 x4 x5 x6 v1 v2 v3:Value}{t:TypeId}(hn:H[n]?=some (b,#[x0,x1,x2,x3,x4,x5,x6],t)){k:World->Prop}
  (hk:∀ w',Ae (·=b) w w'->SH F w0 w' (H.set n (b,#[x0,v1,v2,v3,x4,x5,x6],t))->k w'):Cd ⟨b,1,none⟩ v1 (λ w=>Cd ⟨b,2,none⟩ v2 (λ w=>Cd ⟨b,3,none⟩ v3 k w) w) w:=by
 have aB:=(Anj.1 hn).1;have tr:∀ {a c d:World},Ae (·=b) a c->Ae (·=b) c d->Ae (·=b) a d:=λ h h'=>h.trans h' (λ _ _ h=>h);refine S.IM n hn (aC:=#[x0,v1,x2,x3,x4,x5,x6]) (by simp) rfl λ w1 K1 S1=>?_;refine S1.IM n (Anl aB) (aC:=#[x0,v1,v2,x3,x4,x5,x6]) (by simp) rfl λ w2 K2 S2=>?_;rw [AnE] at S2;refine S2.IM n (Anl aB) (aC:=#[x0,v1,v2,v3,x4,x5,x6]) (by simp) rfl λ w3 K3 S3=>?_;rw [AnE] at S3;exact hk w3 (tr (tr K1 K2) K3) S3
theorem SH.AhE(S:SH F w0 w H)(n:Nat){b:Nat}{x0 x1 x2 x3 x4 x5 x6 v4 v5 v6:Value}{t:TypeId}(hn:H[n]?=some (b,#[x0,x1,x2,x3,x4,x5,x6],t)){k:World->Prop}
  (hk:∀ w',Ae (·=b) w w'->SH F w0 w' (H.set n (b,#[x0,x1,x2,x3,v4,v5,v6],t))->k w'):Cd ⟨b,4,none⟩ v4 (λ w=>Cd ⟨b,5,none⟩ v5 (λ w=>Cd ⟨b,6,none⟩ v6 k w) w) w:=by
 have aB:=(Anj.1 hn).1;have tr:∀ {a c d:World},Ae (·=b) a c->Ae (·=b) c d->Ae (·=b) a d:=λ h h'=>h.trans h' (λ _ _ h=>h);refine S.IM n hn (aC:=#[x0,x1,x2,x3,v4,x5,x6]) (by simp) rfl λ w1 K1 S1=>?_;refine S1.IM n (Anl aB) (aC:=#[x0,x1,x2,x3,v4,v5,x6]) (by simp) rfl λ w2 K2 S2=>?_;rw [AnE] at S2;refine S2.IM n (Anl aB) (aC:=#[x0,x1,x2,x3,v4,v5,v6]) (by simp) rfl λ w3 K3 S3=>?_;rw [AnE] at S3;exact hk w3 (tr (tr K1 K2) K3) S3
end
end Go.Dn
namespace Go.Proofs.YtoepjfblppfabaaGreatDoor
open Go.Dn Go.Proofs
open Go.RowKit (Below)
set_option linter.unusedVariables false
set_option maxRecDepth 20000
abbrev Z0:Ax:=(0,0,E0)
def WJ(z:Option (Ax × Ax))(v:Ax):Option (Ax × Ax) :=
 if v.1=0 then z else match z with
 | none=>some (v,v)
 | some p=>some (if F6 v p.1<0 then v else p.1,if 0<F6 v p.2 then v else p.2)
def LP(ls:List Ax):Option (Ax × Ax):=ls.foldl WJ none
def Ht(ls:List Ax):Ax × Ax:=(LP ls).getD (Z0,Z0)
def zC(n:Int)(p:Ax × Ax):Array Value:=#[.int .i64 n,.int .i64 p.1.1,.int .i64 p.1.2.1,.string p.1.2.2,.int .i64 p.2.1,.int .i64 p.2.2.1,.string p.2.2.2]
def zV(n:Int)(p:Ax × Ax)(e:Int):Value:=.tuple #[.agg (zC n p),.int .i64 e]
theorem JI{ls:List Ax}{i:Nat}(hi:i<ls.length):LP (ls.take (i+1))=WJ (LP (ls.take i)) ls[i]:=by
 unfold LP;rw [List.take_succ_eq_append_getElem hi,List.foldl_append];rfl
theorem WI{ls:List Ax}:∀ i,i<=ls.length->((LP (ls.take i)).isNone=true↔(AP (ls.take i)).length=0)
 | 0,_=>by simp [LP,AP]
 | i+1,h=>by
  have ih:=WI (ls:=ls) i (by omega);have hi:i<ls.length:=by omega
  rw [JI hi,Ds hi];unfold WJ;by_cases h0:ls[i].1=0
  ·rw [if_pos h0,if_pos h0,List.append_nil];exact ih
  ·rw [if_neg h0,if_neg h0];cases LP (ls.take i) <;> simp
theorem Abd{ls:List Ax}{i:Nat}(hi:i<ls.length)(h0:ls[i].1≠0):Ht (ls.take (i+1))=(if (AP (ls.take i)).length=0\/F6 ls[i] (Ht (ls.take i)).1<0 then ls[i] else (Ht (ls.take i)).1,if (AP (ls.take i)).length=0\/0<F6 ls[i] (Ht (ls.take i)).2 then ls[i] else (Ht (ls.take i)).2):=by
 have hn:=WI (ls:=ls) i (by omega);unfold Ht;rw [JI hi];unfold WJ;rw [if_neg h0];cases hz:LP (ls.take i) with
 | none =>
  rw [hz] at hn;have:(AP (ls.take i)).length=0:=hn.1 rfl;simp [this]
 | some p =>
  rw [hz] at hn;have:¬ (AP (ls.take i)).length=0:=λ h=>by simpa using hn.2 h
  simp [this]
theorem Abc{ls:List Ax}{i:Nat}(hi:i<ls.length)(h0:ls[i].1=0):Ht (ls.take (i+1))=Ht (ls.take i):=by
 unfold Ht;rw [JI hi];unfold WJ;rw [if_pos h0]
theorem Acb(ls:List Ax):Av ls+(AP ls).length=ls.length:=by
 induction ls with
 | nil=>rfl
 | cons v ls ih =>
  unfold Av AP at ih ⊢;by_cases h:v.1=0
  ·simp [h];omega
  ·simp [h];omega
def LO(ls:List Ax):Prop:=ls.length<=1024/\∀ v∈ls,AL v=true
def AjG(ls:List Ax)(r:Value):Prop:=(LO ls/\r=zV (Av ls:Int) (Ht ls) 0)\/(¬ LO ls/\r=zV 0 (Z0,Z0) 2)
section
variable {w:World}{a:Option Addr}{c:Nat}{ls:List Ax}
theorem Abe{H:List Yy}{wx:World}{b2 n:Nat}{x:Int}{p:Ax × Ax}(S:SH (λ _=>False) w wx H)(hn:H[n]?=some (b2,zC x p,ty.AX))(bC:¬ LO ls) :
  Cd ⟨b2,0,none⟩ (.int .i64 0) (λ w2=>Cd ⟨b2,1,none⟩ (.int .i64 0) (λ w3=>Cd ⟨b2,2,none⟩ (.int .i64 0) (λ w4=>Cd ⟨b2,3,none⟩ (.string ⟨#[]⟩) (λ w5=>Cd ⟨b2,4,none⟩ (.int .i64 0) (λ w6=>Cd ⟨b2,5,none⟩ (.int .i64 0) (λ w7=>Cd ⟨b2,6,none⟩ (.string ⟨#[]⟩) (λ w8 =>
   ∃ r0:Int,w8.cell? ⟨b2,0,none⟩=some (.int .i64 r0)/\∃ r1:Int,w8.cell? ⟨b2,1,none⟩=some (.int .i64 r1)/\∃ r2:Int,w8.cell? ⟨b2,2,none⟩=some (.int .i64 r2)/\∃ r3:ByteArray,w8.cell? ⟨b2,3,none⟩=some (.string r3)/\∃ r4:Int,w8.cell? ⟨b2,4,none⟩=some (.int .i64 r4)/\∃ r5:Int,w8.cell? ⟨b2,5,none⟩=some (.int .i64 r5)/\∃ r6:ByteArray,w8.cell? ⟨b2,6,none⟩=some (.string r6) /\
   (λ v w'=>AjG ls v/\Below w.heap.size w w') (.tuple #[.agg #[.int .i64 r0,.int .i64 r1,.int .i64 r2,.string r3,.int .i64 r4,.int .i64 r5,.string r6],.int .i64 2]) w8) w7) w6) w5) w4) w3) w2) wx:=by
 have aB:=(List.getElem?_eq_some_iff.1 hn).1;refine S.Afm n hn λ w8 K8 S8=>?_;have kM:=List.getElem?_set_self (l:=H) (a:=(b2,(#[Value.int .i64 0,.int .i64 0,.int .i64 0,.string ⟨#[]⟩,.int .i64 0,.int .i64 0,.string ⟨#[]⟩]:Array Value),ty.AX)) aB;exact⟨_,S8.cell n kM rfl,_,S8.cell n kM rfl,_,S8.cell n kM rfl,_,S8.cell n kM rfl,_,S8.cell n kM rfl,_,S8.cell n kM rfl,_,S8.cell n kM rfl,.inr ⟨bC,rfl⟩,S8.below⟩
end
end Go.Proofs.YtoepjfblppfabaaGreatDoor
