/- Texts of this claim, laid one behind the other by a program of mine. -/
import Derived.Test.YtpnaifmmggnimaaGreatDoorM7
import Derived.Test.YtpnaifmmggnimaaGreatDoorM4
import Derived.Test.YtpnaifmmggnimaaGreatDoorM6
namespace Go.Dn
end Go.Dn
namespace Go.Proofs.YtpnaifmmggnimaaGreatDoor
open _root_.UInt8 renaming lt_irrefl -> AjQ
open Go.Dn Go.Proofs
open Go.RowKit (Below)
set_option linter.unusedVariables false
set_option maxRecDepth 20000
/-! ### orders -/
structure NU{α:Type}(f:α->α->Int):Prop where
 neg:∀ x y,f y x =-f x y
 zero:∀ x y,f x y=0↔x=y
 trans:∀ x y z,f x y<=0->f y z<=0->f x z<=0
theorem NU.strict{α:Type}{f:α->α->Int}(h:NU f)(x y z:α)(h1:f x y<0)(h2:f y z<=0):f x z<0:=by
 have h3:=h.trans x y z Omg h2;rcases Int.lt_or_eq_of_le h3 with h4 | h4
 ·exact h4
 ·have:=(h.zero x z).1 h4;subst this;have:=h.neg x y;omega
theorem OK:NU Dc:=by
 refine⟨λ x y=>?_,λ x y=>?_,λ x y z=>?_⟩
 ·unfold Dc;split <;> split <;> (try split) <;> (try split) <;> omega
 ·unfold Dc;split
  ·constructor <;> intro h <;> omega
  ·split
   ·constructor <;> intro h <;> omega
   ·constructor <;> intro h <;> omega
 ·unfold Dc;intro h1 h2;split at h1 <;> split at h2 <;> split <;> (try split at h1) <;> (try split at h2) <;> (try split) <;> omega
theorem Ado:∀ x y:List UInt8,Lib.compareBytes y x =-Lib.compareBytes x y
 | [],[]=>rfl
 | [],_ :: _=>rfl
 | _ :: _,[]=>rfl
 | a :: x,b :: y=>by
  simp only [Lib.compareBytes];by_cases h1:a<b
  ·have h2:¬ b<a:=λ h=>absurd (UInt8.lt_trans h1 h) (AjQ a);simp [h1,h2]
  ·by_cases h2:b<a
   ·simp [h1,h2]
   ·simp [h1,h2,Ado x y]
theorem Abv{a b:UInt8}(h1:¬ a<b)(h2:¬ b<a):a=b:=UInt8.le_antisymm (UInt8.not_lt.1 h2) (UInt8.not_lt.1 h1)
theorem AaR:∀ x y:List UInt8,Lib.compareBytes x y=0↔x=y
 | [],[]=>by simp [Lib.compareBytes]
 | [],_ :: _=>by simp [Lib.compareBytes]
 | _ :: _,[]=>by simp [Lib.compareBytes]
 | a :: x,b :: y=>by
  simp only [Lib.compareBytes];by_cases h1:a<b
  ·rw [if_pos h1];constructor
   ·intro h;cases h
   ·intro h;cases h;exact absurd h1 (AjQ a)
  ·rw [if_neg h1];by_cases h2:b<a
   ·rw [if_pos h2];constructor
    ·intro h;cases h
    ·intro h;cases h;exact absurd h2 (AjQ a)
   ·rw [if_neg h2,AaR x y,Abv h1 h2];simp
theorem XO:∀ x y z:List UInt8,Lib.compareBytes x y<=0->Lib.compareBytes y z<=0->Lib.compareBytes x z<=0
 | [],_,[],_,_=>by simp [Lib.compareBytes]
 | [],_,_ :: _,_,_=>by simp [Lib.compareBytes]
 | _ :: _,[],_,h,_=>by simp [Lib.compareBytes] at h
 | _ :: _,_ :: _,[],_,h=>by simp [Lib.compareBytes] at h
 | a :: x,b :: y,c :: z,h1,h2=>by
  simp only [Lib.compareBytes] at h1 h2 ⊢;by_cases e1:a<b
  ·by_cases e2:b<c
   ·rw [if_pos (UInt8.lt_trans e1 e2)];decide
   ·rw [if_neg e2] at h2;by_cases e3:c<b
    ·rw [if_pos e3] at h2;omega
    ·have:=Abv e2 e3;subst this;rw [if_pos e1];decide
  ·rw [if_neg e1] at h1;by_cases e2:b<a
   ·rw [if_pos e2] at h1;omega
   ·have:=Abv e1 e2;subst this;rw [if_neg e2] at h1;by_cases e3:a<c
    ·rw [if_pos e3];decide
    ·rw [if_neg e3] at h2 ⊢;by_cases e4:c<a
     ·rw [if_pos e4] at h2;omega
     ·rw [if_neg e4] at h2 ⊢;exact XO x y z h1 h2
def Z9{α β:Type}(f:α->α->Int)(g:β->β->Int)(x y:α × β):Int:=if f x.1 y.1≠0 then f x.1 y.1 else g x.2 y.2
theorem NU.lex{α β:Type}{f:α->α->Int}{g:β->β->Int}(hf:NU f)(hg:NU g):NU (Z9 f g):=by
 refine⟨λ x y=>?_,λ x y=>?_,λ x y z=>?_⟩
 ·have h1:=hf.neg x.1 y.1;have h2:=hg.neg x.2 y.2;unfold Z9;split <;> split <;> omega
 ·have h1:=hf.zero x.1 y.1;have h2:=hg.zero x.2 y.2;unfold Z9;split
  ·rename_i h;constructor
   ·intro e;exact absurd e h
   ·intro e;rw [e] at h;exact absurd ((hf.zero _ _).2 rfl) h
  ·rename_i h;have e1:x.1=y.1:=h1.1 Omg;rw [h2];constructor
   ·intro e;exact Prod.ext e1 e
   ·intro e;rw [e]
 ·unfold Z9;intro a b;by_cases h1:f x.1 y.1=0
  ·have e1:=(hf.zero _ _).1 h1;rw [if_neg Omg] at a;rw [<- e1] at b;by_cases h2:f x.1 z.1=0
   ·rw [if_neg Omg] at b ⊢;exact hg.trans _ _ _ a b
   ·rw [if_pos h2] at b ⊢;exact b
  ·rw [if_pos h1] at a;by_cases h2:f y.1 z.1=0
   ·have e2:=(hf.zero _ _).1 h2;rw [<- e2,if_pos h1];exact a
   ·rw [if_pos h2] at b;have:=hf.strict x.1 y.1 z.1 Omg b;rw [if_pos Omg];omega
def Agh(a b:AD):Int:=Z9 Dc (Z9 Dc (λ s t=>Lib.compareBytes (bl s) (bl t))) a b
theorem Ae8(a b:AD):DM a b=Agh a b:=by
 simp only [DM,Agh,Z9]
theorem AfB:NU (λ s t:ByteArray=>Lib.compareBytes (bl s) (bl t)) :=
 ⟨λ x y=>Ado _ _,λ x y=>(AaR _ _).trans ⟨λ h=>PM h,λ h=>by rw [h]⟩,λ x y z=>XO _ _ _⟩
theorem Jn:NU DM:=by
 have:DM=Agh:=by funext a b;exact Ae8 a b
 rw [this];exact OK.lex (OK.lex AfB)
theorem ZO(a b:AD) : -1<=DM a b/\DM a b<=1:=by
 have h1:∀ x y,-1<=Dc x y/\Dc x y<=1:=by intro x y;unfold Dc;split <;> (try split) <;> decide
 have h2:∀ x y,-1<=Lib.compareBytes x y/\Lib.compareBytes x y<=1:=by
  intro x
  induction x with
  | nil=>intro y;cases y <;> simp [Lib.compareBytes]
  | cons a x ih =>
   intro y;cases y with
   | nil=>simp [Lib.compareBytes]
   | cons b y=>simp only [Lib.compareBytes];split;decide;split;decide;exact ih y
 unfold DM;split
 ·exact h1 _ _
 ·split
  ·exact h1 _ _
  ·exact h2 _ _
theorem Ml:∀ x y:List UInt8,Op.bytesLess x y=true↔Lib.compareBytes x y<0
 | [],[]=>by simp [Op.bytesLess,Lib.compareBytes]
 | [],_ :: _=>by simp [Op.bytesLess,Lib.compareBytes]
 | _ :: _,[]=>by simp [Op.bytesLess,Lib.compareBytes]
 | a :: x,b :: y=>by
  simp only [Op.bytesLess,Lib.compareBytes,Bool.or_eq_true,decide_eq_true_eq,Bool.and_eq_true,beq_iff_eq,Ml x y];by_cases h1:a<b
  ·simp [h1]
  ·by_cases h2:b<a
   ·have:a≠b:=λ e=>by subst e;exact AjQ a h2
    simp [h1,h2,this]
   ·have:=Abv h1 h2;simp [this]
theorem XN(s t:ByteArray):Ex s t=true↔Lib.compareBytes (bl s) (bl t)<0:=by
 unfold Ex;rw [ByteArray.toList_eq,ByteArray.toList_eq];exact Ml _ _
theorem Rl{v:AD}(h:AK v=true)(h3:¬ v.1=3):v.2.2=E0:=by
 unfold AK at h;split at h
 ·simp at h;exact h.2
 ·split at h
  ·simpa using h
  ·split at h
   ·simp at h;exact h.2
   ·cases h
theorem AaS{a b:AD}(ha:AK a=true)(hb:AK b=true):DM a b=VS a b:=by
 have hs:=ZO a b;have dn:=Jn.neg a b;have key:∀ x y:AD,AK x=true->AK y=true->(IG x y=true↔DM x y<0):=by
  intro x y hx hy;by_cases h1:x.1=y.1
  ·have e0:Dc x.1 y.1=0:=(OK.zero _ _).2 h1;have c0:DM x y=if Dc x.2.1 y.2.1≠0 then Dc x.2.1 y.2.1 else Lib.compareBytes (bl x.2.2) (bl y.2.2):=by unfold DM;rw [if_neg Omg]
   have l0:IG x y=if x.1=3 then Ex x.2.2 y.2.2 else decide (x.2.1<y.2.1):=by unfold IG;rw [if_neg Omg]
   rw [c0,l0];by_cases h3:x.1=3
   ·have uS:y.1=3:=h1 ▸ h3;rw [if_pos h3];unfold AK at hx hy;simp [h3] at hx;simp [uS] at hy;have e1:Dc x.2.1 y.2.1=0:=(OK.zero _ _).2 (by rw [hx.1,hy.1]);rw [if_neg Omg];exact XN _ _
   ·rw [if_neg h3];have e2:x.2.2=E0/\y.2.2=E0:=⟨Rl hx h3,Rl hy (h1 ▸ h3)⟩;rw [e2.1,e2.2];have e3:Lib.compareBytes (bl E0) (bl E0)=0:=rfl;rw [e3];unfold Dc;split
    ·simp;omega
    ·split
     ·simp;omega
     ·simp;omega
  ·have e0:Dc x.1 y.1≠0:=λ h=>h1 ((OK.zero _ _).1 h);have c0:DM x y=Dc x.1 y.1:=by unfold DM;rw [if_pos e0]
   have l0:IG x y=decide (x.1<y.1):=by unfold IG;rw [if_pos h1]
   rw [c0,l0];unfold Dc at *;split
   ·simp;omega
   ·split
    ·simp;omega
    ·rename_i n1 n2;omega
 unfold VS;by_cases h1:IG a b=true
 ·rw [if_pos h1];have:=(key a b ha hb).1 h1;omega
 ·rw [if_neg h1];have n1:¬ DM a b<0:=λ h=>h1 ((key a b ha hb).2 h);by_cases h2:IG b a=true
  ·rw [if_pos h2];have:=(key b a hb ha).1 h2;omega
  ·rw [if_neg h2];have n2:¬ DM b a<0:=λ h=>h2 ((key b a hb ha).2 h);omega
/-! ### the laws -/
end Go.Proofs.YtpnaifmmggnimaaGreatDoor
namespace Go.Dn
open _root_.List renaming getElem?_eq_some_iff -> Aic, getElem?_set_self -> Aie, set_set -> Aip
open Go.RowKit (Below)
section
variable {F:Nat->Prop}{w0 w:World}{H:List Xm}
theorem SH.H7(S:SH F w0 w H)(n:Nat){b:Nat}{cs aC:Array Value}{t:TypeId}(hn:H[n]?=some (b,cs,t)){i:Nat}{v:Value}{k:World->Prop}(hi:i<cs.size)(hc:cs.setIfInBounds i v=aC)
  (hk:∀ w',Ak (·=b) w w'->SH F w0 w' (H.set n (b,aC,t))->k w'):DG ⟨b,i,none⟩ v k w:=by
 subst hc;exact S.Y8 n hn hi hk
theorem SH.Y7(S:SH F w0 w H)(n:Nat){b:Nat}{x0 x1 x2 x3 x4 x5 x6 v0 v1 v2 v3 v4 v5 v6:Value}{t:TypeId}(hn:H[n]?=some (b,#[x0,x1,x2,x3,x4,x5,x6],t)){k:World->Prop}
  (hk:∀ w',Ak (·=b) w w'->SH F w0 w' (H.set n (b,#[v0,v1,v2,v3,v4,v5,v6],t))->k w') :
  DG ⟨b,0,none⟩ v0 (λ w=>DG ⟨b,1,none⟩ v1 (λ w=>DG ⟨b,2,none⟩ v2 (λ w=>DG ⟨b,3,none⟩ v3 (λ w=>DG ⟨b,4,none⟩ v4 (λ w=>DG ⟨b,5,none⟩ v5 (λ w=>DG ⟨b,6,none⟩ v6 k w) w) w) w) w) w) w:=by
 have aB:=(Aic.1 hn).1;have tr:∀ {a c d:World},Ak (·=b) a c->Ak (·=b) c d->Ak (·=b) a d:=λ h h'=>h.trans h' (λ _ _ h=>h);refine S.H7 n hn (aC:=#[v0,x1,x2,x3,x4,x5,x6]) Osi rfl λ w1 K1 S1=>?_;refine S1.H7 n (Aie aB) (aC:=#[v0,v1,x2,x3,x4,x5,x6]) Osi rfl λ w2 K2 S2=>?_;rw [Aip] at S2;refine S2.H7 n (Aie aB) (aC:=#[v0,v1,v2,x3,x4,x5,x6]) Osi rfl λ w3 K3 S3=>?_;rw [Aip] at S3;refine S3.H7 n (Aie aB) (aC:=#[v0,v1,v2,v3,x4,x5,x6]) Osi rfl λ w4 K4 S4=>?_;rw [Aip] at S4;refine S4.H7 n (Aie aB) (aC:=#[v0,v1,v2,v3,v4,x5,x6]) Osi rfl λ w5 K5 S5=>?_;rw [Aip] at S5;refine S5.H7 n (Aie aB) (aC:=#[v0,v1,v2,v3,v4,v5,x6]) Osi rfl λ w6 K6 S6=>?_;rw [Aip] at S6;refine S6.H7 n (Aie aB) (aC:=#[v0,v1,v2,v3,v4,v5,v6]) Osi rfl λ w7 K7 S7=>?_;rw [Aip] at S7;exact hk w7 (tr (tr (tr (tr (tr (tr K1 K2) K3) K4) K5) K6) K7) S7
theorem SH.Xh(S:SH F w0 w H)(n:Nat){b:Nat}{x0 x1 x2 x3 x4 x5 x6 v1 v2 v3:Value}{t:TypeId}(hn:H[n]?=some (b,#[x0,x1,x2,x3,x4,x5,x6],t)){k:World->Prop}
  (hk:∀ w',Ak (·=b) w w'->SH F w0 w' (H.set n (b,#[x0,v1,v2,v3,x4,x5,x6],t))->k w'):DG ⟨b,1,none⟩ v1 (λ w=>DG ⟨b,2,none⟩ v2 (λ w=>DG ⟨b,3,none⟩ v3 k w) w) w:=by
 have aB:=(Aic.1 hn).1;have tr:∀ {a c d:World},Ak (·=b) a c->Ak (·=b) c d->Ak (·=b) a d:=λ h h'=>h.trans h' (λ _ _ h=>h);refine S.H7 n hn (aC:=#[x0,v1,x2,x3,x4,x5,x6]) Osi rfl λ w1 K1 S1=>?_;refine S1.H7 n (Aie aB) (aC:=#[x0,v1,v2,x3,x4,x5,x6]) Osi rfl λ w2 K2 S2=>?_;rw [Aip] at S2;refine S2.H7 n (Aie aB) (aC:=#[x0,v1,v2,v3,x4,x5,x6]) Osi rfl λ w3 K3 S3=>?_;rw [Aip] at S3;exact hk w3 (tr (tr K1 K2) K3) S3
theorem SH.Xg(S:SH F w0 w H)(n:Nat){b:Nat}{x0 x1 x2 x3 x4 x5 x6 v4 v5 v6:Value}{t:TypeId}(hn:H[n]?=some (b,#[x0,x1,x2,x3,x4,x5,x6],t)){k:World->Prop}
  (hk:∀ w',Ak (·=b) w w'->SH F w0 w' (H.set n (b,#[x0,x1,x2,x3,v4,v5,v6],t))->k w'):DG ⟨b,4,none⟩ v4 (λ w=>DG ⟨b,5,none⟩ v5 (λ w=>DG ⟨b,6,none⟩ v6 k w) w) w:=by
 have aB:=(Aic.1 hn).1;have tr:∀ {a c d:World},Ak (·=b) a c->Ak (·=b) c d->Ak (·=b) a d:=λ h h'=>h.trans h' (λ _ _ h=>h);refine S.H7 n hn (aC:=#[x0,x1,x2,x3,v4,x5,x6]) Osi rfl λ w1 K1 S1=>?_;refine S1.H7 n (Aie aB) (aC:=#[x0,x1,x2,x3,v4,v5,x6]) Osi rfl λ w2 K2 S2=>?_;rw [Aip] at S2;refine S2.H7 n (Aie aB) (aC:=#[x0,x1,x2,x3,v4,v5,v6]) Osi rfl λ w3 K3 S3=>?_;rw [Aip] at S3;exact hk w3 (tr (tr K1 K2) K3) S3
end
end Go.Dn
namespace Go.Proofs.YtpnaifmmggnimaaGreatDoor
open Go.Dn Go.Proofs
open Go.RowKit (Below)
set_option linter.unusedVariables false
set_option maxRecDepth 20000
abbrev Z0:AD:=(0,0,E0)
def Wk(z:Option (AD × AD))(v:AD):Option (AD × AD) :=
 if v.1=0 then z else match z with
 | none=>some (v,v)
 | some p=>some (if DM v p.1<0 then v else p.1,if 0<DM v p.2 then v else p.2)
def LC(ls:List AD):Option (AD × AD):=ls.foldl Wk none
def FM(ls:List AD):AD × AD:=(LC ls).getD (Z0,Z0)
def zC(n:Int)(p:AD × AD):Array Value:=#[.int .i64 n,.int .i64 p.1.1,.int .i64 p.1.2.1,.string p.1.2.2,.int .i64 p.2.1,.int .i64 p.2.2.1,.string p.2.2.2]
def zV(n:Int)(p:AD × AD)(e:Int):Value:=.tuple #[.agg (zC n p),.int .i64 e]
theorem JC{ls:List AD}{i:Nat}(hi:i<ls.length):LC (ls.take (i+1))=Wk (LC (ls.take i)) ls[i]:=by
 unfold LC;rw [List.take_succ_eq_append_getElem hi,List.foldl_append];rfl
theorem Wj{ls:List AD}:∀ i,i<=ls.length->((LC (ls.take i)).isNone=true↔(AV (ls.take i)).length=0)
 | 0,_=>by simp [LC,AV]
 | i+1,h=>by
  have ih:=Wj (ls:=ls) i Omg;have hi:i<ls.length:=Omg;rw [JC hi,CM hi];unfold Wk;by_cases h0:ls[i].1=0
  ·rw [if_pos h0,if_pos h0,List.append_nil];exact ih
  ·rw [if_neg h0,if_neg h0];cases LC (ls.take i) <;> simp
theorem Pz{ls:List AD}{i:Nat}(hi:i<ls.length)(h0:ls[i].1≠0):FM (ls.take (i+1))=(if (AV (ls.take i)).length=0\/DM ls[i] (FM (ls.take i)).1<0 then ls[i] else (FM (ls.take i)).1,if (AV (ls.take i)).length=0\/0<DM ls[i] (FM (ls.take i)).2 then ls[i] else (FM (ls.take i)).2):=by
 have hn:=Wj (ls:=ls) i Omg;unfold FM;rw [JC hi];unfold Wk;rw [if_neg h0];cases hz:LC (ls.take i) with
 | none =>
  rw [hz] at hn;have:(AV (ls.take i)).length=0:=hn.1 rfl;simp [this]
 | some p =>
  rw [hz] at hn;have:¬ (AV (ls.take i)).length=0:=λ h=>by simpa using hn.2 h
  simp [this]
theorem Py{ls:List AD}{i:Nat}(hi:i<ls.length)(h0:ls[i].1=0):FM (ls.take (i+1))=FM (ls.take i):=by
 unfold FM;rw [JC hi];unfold Wk;rw [if_pos h0]
theorem Aae(ls:List AD):Au ls+(AV ls).length=ls.length:=by
 induction ls with
 | nil=>rfl
 | cons v ls ih =>
  unfold Au AV at ih ⊢;by_cases h:v.1=0
  ·simp [h];omega
  ·simp [h];omega
def GD(ls:List AD):Prop:=ls.length<=1024/\∀ v∈ls,AK v=true
def XC(ls:List AD)(r:Value):Prop:=(GD ls/\r=zV (Au ls:Int) (FM ls) 0)\/(¬ GD ls/\r=zV 0 (Z0,Z0) 2)
section
variable {w:World}{a:Option Addr}{c:Nat}{ls:List AD}
theorem PA{H:List Xm}{wx:World}{b2 n:Nat}{x:Int}{p:AD × AD}(S:SH (λ _=>False) w wx H)(hn:H[n]?=some (b2,zC x p,159))(aP:¬ GD ls) :
  DG ⟨b2,0,none⟩ (.int .i64 0) (λ w2=>DG ⟨b2,1,none⟩ (.int .i64 0) (λ w3=>DG ⟨b2,2,none⟩ (.int .i64 0) (λ w4=>DG ⟨b2,3,none⟩ (.string ⟨#[]⟩) (λ w5=>DG ⟨b2,4,none⟩ (.int .i64 0) (λ w6=>DG ⟨b2,5,none⟩ (.int .i64 0) (λ w7=>DG ⟨b2,6,none⟩ (.string ⟨#[]⟩) (λ w8 =>
   ∃ r0:Int,w8.cell? ⟨b2,0,none⟩=some (.int .i64 r0)/\∃ r1:Int,w8.cell? ⟨b2,1,none⟩=some (.int .i64 r1)/\∃ r2:Int,w8.cell? ⟨b2,2,none⟩=some (.int .i64 r2)/\∃ r3:ByteArray,w8.cell? ⟨b2,3,none⟩=some (.string r3)/\∃ r4:Int,w8.cell? ⟨b2,4,none⟩=some (.int .i64 r4)/\∃ r5:Int,w8.cell? ⟨b2,5,none⟩=some (.int .i64 r5)/\∃ r6:ByteArray,w8.cell? ⟨b2,6,none⟩=some (.string r6) /\
   (λ v w'=>XC ls v/\Below w.heap.size w w') (.tuple #[.agg #[.int .i64 r0,.int .i64 r1,.int .i64 r2,.string r3,.int .i64 r4,.int .i64 r5,.string r6],.int .i64 2]) w8) w7) w6) w5) w4) w3) w2) wx:=by
 have aB:=(List.getElem?_eq_some_iff.1 hn).1;refine S.Y7 n hn λ w8 K8 S8=>?_;have o8:=List.getElem?_set_self (l:=H) (a:=(b2,(#[Value.int .i64 0,.int .i64 0,.int .i64 0,.string ⟨#[]⟩,.int .i64 0,.int .i64 0,.string ⟨#[]⟩]:Array Value),159)) aB;exact⟨_,S8.cell n o8 rfl,_,S8.cell n o8 rfl,_,S8.cell n o8 rfl,_,S8.cell n o8 rfl,_,S8.cell n o8 rfl,_,S8.cell n o8 rfl,_,S8.cell n o8 rfl,.inr ⟨aP,rfl⟩,S8.below⟩
end
end Go.Proofs.YtpnaifmmggnimaaGreatDoor
namespace Go.Proofs.YtpnaifmmggnimaaGreatDoor
open R
open _root_.Array renaming getElem?_eq_some_iff -> Ai5
open _root_.Int renaming toNat_natCast -> Ait
open _root_.List renaming append_nil -> Ajr, getElem_mem -> Ai7, length_append -> Aiq, length_drop -> AiT, length_replicate -> AjS, length_take -> Ajm, mem_append -> Ajn, mem_cons -> Aia, mem_cons_of_mem -> Ai3, mem_cons_self -> Ai2, mem_singleton -> Ajo, not_mem_nil -> Aju, replicate -> Aio, set_cons_zero -> AjR, take_succ_eq_append_getElem -> Ajl
open _root_.Nat renaming mul_one -> Aiw, sub_zero -> AjT
open _root_.Option.some renaming inj -> Ajx
set_option maxRecDepth 100000
open Go.Dn Go.Proofs
open Go.RowKit (Below)
set_option linter.unusedVariables false
theorem Aa3{α:Type}{p q:Prop}[Decidable p][Decidable (p\/q)](h:p)(x y:α):(if p\/q then x else y)=x:=if_pos (.inl h)
section
variable {w:World}{a:Option Addr}{c:Nat}{ls:List AD}
theorem Mm(hl:Rd w a (AR ls)):Cw 153 #[.slice a ls.length c] w λ v w'=>XC ls v/\Below w.heap.size w w':=by
 apply PS
 delta A Ab Cb Cf Ci E F H I Li Lt N Qi S Am T W X Z;try dsimp only [Ps]
 refine (SH.start (λ _=>False) w).An λ b2 w1 cW B1 S1=>Aa (λ gM=>?_) (λ hle=>?_)
 ·exact PA (p:=(Z0,Z0)) (x:=0) S1 (n:=0) rfl (λ h=>by have:=h.1;omega)
 have hlen:ls.length<=1024:=Omg;refine S1.An λ dN w9 kt B9 S9=>S9.Y7 0 rfl λ cd kF zr=>?_;refine⟨λ s cF=>∃ i:Nat,i<=ls.length/\s=[.int .i64 (i:Int)]/\SH (λ _=>False) w cF [(dN,zC 0 (Z0,Z0),159),(b2,zC 0 (Z0,Z0),159)]/\∀ v∈ls.take i,AK v=true,λ s _=>match s with
   | [.int _ i]=>ls.length-i.toNat
   | _=>0,⟨0,Omg,rfl,zr,Osi⟩,?_⟩
 rintro _ cF ⟨i,hi,aA,gJ,aF⟩;cases aA;refine Aa (λ aB=>⟨⟨Omg,aB⟩,?_⟩) (λ aJ=>?_)
 ·have aD:i<ls.length:=Omg;obtain⟨p,rfl,c0,c1,c2⟩:=Db (hl.grown gJ.below) aD;refine⟨_,by rw [Ait];exact c0,_,by rw [Ait];exact c1,_,by rw [Ait];exact c2,gJ.Ic λ lX gG hb17 kE oh=>?_⟩;refine⟨_,oh.cell 0 rfl rfl,_,oh.cell 0 rfl rfl,_,oh.cell 0 rfl rfl,(Ev gG ls[i]).mono ?_⟩;rintro _ gd ⟨_,rfl,rfl,j9⟩;have kZ:=oh.grown j9;refine⟨_,rfl,As (Aq (λ hr=>?_) (λ hr=>?_))⟩
  ·rw [Ae Omg];refine⟨⟨i+1,Omg,rfl,kZ.drop 1,λ v hv=>?_⟩,?_⟩
   ·rw [Ajl aD] at hv;rcases Ajn.1 hv with h | h
    ·exact aF v h
    ·rw [Ajo.1 h];exact hr
   ·simp only [Ait];omega
  ·exact PA (p:=(Z0,Z0)) (x:=0) kZ (n:=2) rfl (λ h=>by have:=h.2 _ (Ai7 aD);rw [this] at hr;cases hr)
 have bK:ls.take i=ls:=List.take_of_length_le Omg;rw [bK] at aF;have aK:GD ls:=⟨hlen,aF⟩;refine gJ.An λ ik eU hb30 fx om=>om.H7 0 rfl (aC:=#[.int .i64 0]) (show 0<1 by decide) rfl λ kW K31 zw=>Mn.mono ?_;rintro _ cR ⟨_,rfl,bI,rfl,xv⟩;have pT:SH (λ _=>False) w cR [(ik,#[.int .i64 0],3),(dN,zC 0 (Z0,Z0),159),(b2,zC 0 (Z0,Z0),159)]:=zw.grown xv.below;refine⟨_,_,_,rfl,by kernel_rfl,λ rr aA dZ hy=>?_⟩;obtain⟨W1,hW1⟩:∃ W1,W1=(cR.alloc (.deferred (some []))).alloc (.loop rr):=⟨_,rfl⟩;rw [<- hW1];have gH:Below cR.heap.size cR W1:=by rw [hW1];exact (((Below.refl _ cR).alloc (Nat.le_refl _) _).alloc Osi _)
 have sy:W1.heap.size=cR.heap.size+2:=by rw [hW1];simp
 have gm:W1.heap[cR.heap.size+1]?=some (.loop rr):=by
  rw [hW1];have:=World.alloc_heap_new (cR.alloc (.deferred (some []))) (.loop rr);rwa [World.size_alloc] at this
 have kh:W1.heap[cR.heap.size]?=some (.deferred (some [])):=by
  rw [hW1];exact (Below.heap_alloc _ _ _ Osi).trans (World.alloc_heap_new cR _)
 obtain⟨L,hLd⟩:∃ L,L=cR.heap.size+1:=⟨_,rfl⟩;rw [<- hLd] at gm hy ⊢;have l30:=pT.lt (x:=(ik,_,_)) (Ai2 ..);have l10:=pT.lt (x:=(dN,_,_)) (Ai3 _ (Ai2 ..));have l2:=pT.lt (x:=(b2,_,_)) (Ai3 _ (Ai3 _ (Ai2 ..)));have w0le:=pT.below.size;let H:Nat->List Xm:=λ q=>[(ik,#[.int .i64 ((AV (ls.take q)).length:Int)],3),(dN,zC 0 (FM (ls.take q)),159),(b2,zC 0 (Z0,Z0),159)];let J:Nat->World->Prop:=λ q wx=>SH (λ _=>False) w wx (H q)/\wx.heap[L]?=some (.loop rr)/\wx.heap[cR.heap.size]?=some (.deferred (some []));have hI:W1.cell? ⟨bI,0,none⟩=some (.slice a ls.length c):=Di ((Ak.AB (F:=λ _=>False) gH).at (xv.get 0 rfl) Osi);have bB:=Ty (w:=W1) (L:=L) (b:=bI) Omg J (λ q wx hj=>hl.grown hj.1.below) (λ q wx wy hj B=>by
   have K:=Ak.AB (F:=λ _=>False) B;exact⟨hj.1.grown B,K.at hj.2.1 Osi,K.at hj.2.2 Osi⟩) (λ q wx hq hz hj=>by
   have e1:H (q+1)=H q:=by
    have:=CM hq;rw [if_pos hz,Ajr] at this;show [(ik,#[Value.int .i64 ((AV (ls.take (q+1))).length:Int)],3),(dN,zC 0 (FM (ls.take (q+1))),159),(b2,zC 0 (Z0,Z0),159)]=_;rw [this,Py hq hz]
   exact⟨by rw [e1];exact hj.1,hj.2⟩) (by
  rintro q wx hq aQ ⟨SJ,hL,hD⟩;have ct:(AV (ls.take q)).length<=1024:=by
   have:(AV (ls.take q)).length<=(ls.take q).length:=List.length_filter_le ..;rw [Ajm] at this;omega
  have js:H (q+1)=[(ik,#[.int .i64 (((AV (ls.take q)).length+1:Nat):Int)],3),(dN,zC 0 (if (AV (ls.take q)).length=0\/DM ls[q] (FM (ls.take q)).1<0 then ls[q] else (FM (ls.take q)).1,if (AV (ls.take q)).length=0\/0<DM ls[q] (FM (ls.take q)).2 then ls[q] else (FM (ls.take q)).2),159),(b2,zC 0 (Z0,Z0),159)]:=by
   have e1:=CM hq;rw [if_neg aQ] at e1;show [(ik,#[Value.int .i64 ((AV (ls.take (q+1))).length:Int)],3),(dN,zC 0 (FM (ls.take (q+1))),159),(b2,zC 0 (Z0,Z0),159)]=_;rw [Pz hq aQ,e1,Aiq];rfl
  obtain⟨n,dm⟩:∃ n,n=(AV (ls.take q)).length:=⟨_,rfl⟩;obtain⟨mm,jr⟩:∃ mm,mm=FM (ls.take q):=⟨_,rfl⟩;have SJ':SH (λ _=>False) w wx [(ik,#[.int .i64 (n:Int)],3),(dN,zC 0 mm,159),(b2,zC 0 (Z0,Z0),159)]:=by rw [dm,jr];exact SJ
  rw [<- dm,<- jr] at js;rw [<- dm] at ct;obtain⟨v,hvd⟩:∃ v,v=ls[q]:=⟨_,rfl⟩;rw [<- hvd] at js ⊢;refine hy _ _ _ _ wx hL ?_;refine SJ'.Ic λ y5 j6 hb37 zW oo=>?_;have xq:=Ak.AB (F:=λ _=>False) zW;have q8:=xq.at hL Osi;have u':=xq.at hD Osi;refine⟨q8,?_⟩;obtain⟨wB,hwB⟩:∃ wB,wB=j6.putObj L (.loop { rr with state:=.busy }):=⟨_,rfl⟩;rw [<- hwB];have eZ:L<j6.heap.size:=(Ai5.1 q8).1;have hLx:L<wx.heap.size:=(Ai5.1 hL).1;have KB:Ak (λ k=>k=L) j6 wB:=by rw [hwB];exact AO _ _ _
  have uf:wB.heap[L]?=some (.loop { rr with state:=.busy }):=by rw [hwB];exact World.putObj_heap_same eZ
  have hDB:=KB.at u' (show ¬ cR.heap.size=L by omega);have SB:SH (λ _=>False) w wB [(y5,#[.int .i64 v.1,.int .i64 v.2.1,.string v.2.2],120),(ik,#[.int .i64 (n:Int)],3),(dN,zC 0 mm,159),(b2,zC 0 (Z0,Z0),159)]:=oo.kept KB (by
   intro y hy;simp only [Aia,Aju,or_false] at hy;rcases hy with rfl | rfl | rfl | rfl <;> simp only <;> omega) (λ k hk h=>Omg)
  let G:World->AD->AD->Int->Prop:=λ wy mn mx m=>SH (λ _=>False) w wy [(y5,#[.int .i64 v.1,.int .i64 v.2.1,.string v.2.2],120),(ik,#[.int .i64 m],3),(dN,zC 0 (mn,mx),159),(b2,zC 0 (Z0,Z0),159)]/\wy.heap[L]?=some (.loop { rr with state:=.busy })/\wy.heap[cR.heap.size]?=some (.deferred (some []));have fv:∀ {wy wz:World} {b:Nat},Ak (·=b) wy wz->b≠L->b≠cR.heap.size->wy.heap[L]?=some (.loop { rr with state:=.busy })/\wy.heap[cR.heap.size]?=some (.deferred (some []))->wz.heap[L]?=some (.loop { rr with state:=.busy })/\wz.heap[cR.heap.size]?=some (.deferred (some [])) :=
   λ K h1 h2 h=>⟨K.at h.1 (λ e=>h1 e.symm),K.at h.2 (λ e=>h2 e.symm)⟩
  have lg:∀ {wy wz:World} {mn mx:AD} {m:Int},G wy mn mx m->Below wy.heap.size wy wz->G wz mn mx m:=λ h B=>by
   have K:=Ak.AB (F:=λ _=>False) B;exact⟨h.1.grown B,K.at h.2.1 Osi,K.at h.2.2 Osi⟩
  have fin:∀ {wy:World} {mn mx:AD},G wy mn mx (n:Int)->mn=(if n=0\/DM v mm.1<0 then v else mm.1)->mx=(if n=0\/0<DM v mm.2 then v else mm.2) ->
    ∃ t50:Int,wy.cell? ⟨ik,0,none⟩=some (.int .i64 t50)/\DG ⟨ik,0,none⟩ (.int .i64 (IntKind.i64.wrap (t50+1))) (λ w50=>FO rr L (λ y w'=>y=true/\(SH (λ _=>False) w w' (H (q+1))/\w'.heap[L]?=some (.loop rr)/\w'.heap[cR.heap.size]?=some (.deferred (some [])))) none w50) wy:=by
   rintro wy mn mx ⟨Sy,Ly⟩ rfl rfl;refine⟨_,Sy.cell 1 rfl rfl,?_⟩;rw [Ae Omg];refine Sy.H7 1 rfl (aC:=#[.int .i64 ((n+1:Nat):Int)]) (show 0<1 by decide) rfl λ wz Kz Sz=>?_;obtain⟨Lz,Dz⟩:=fv Kz Omg Omg Ly;refine⟨Lz,rfl,?_⟩;rw [Il aA dZ];have lz:L<wz.heap.size:=(Ai5.1 Lz).1;have KP:=AO wz L (.loop rr);refine⟨?_,World.putObj_heap_same lz,KP.at Dz (show ¬ cR.heap.size=L by omega)⟩;rw [js];exact (Sz.drop 1).kept KP (by
    intro y hy;simp only [List.set_cons_succ,AjR,List.drop_succ_cons,List.drop_zero,Aia,Aju,or_false] at hy;rcases hy with rfl | rfl | rfl <;> simp only <;> omega) (λ k hk h=>Omg)
  have GB:G wB mm.1 mm.2 (n:Int):=⟨SB,uf,hDB⟩;refine⟨λ s pO=>s=[]/\G pO (if n=0\/DM v mm.1<0 then v else mm.1) mm.2 (n:Int),?_,?_⟩
  ·refine⟨_,GB.1.cell 1 rfl rfl,Ap (λ h0=>?_) (λ h0=>?_)⟩
   ·have cY:n=0:=Omg;refine⟨_,GB.1.cell 0 rfl rfl,_,GB.1.cell 0 rfl rfl,_,GB.1.cell 0 rfl rfl,GB.1.Xh 2 rfl λ rh tJ tX=>⟨rfl,?_⟩⟩;rw [Aa3 cY];exact⟨tX,fv tJ Omg Omg GB.2⟩
   ·have cY:¬ n=0:=Omg;refine⟨_,GB.1.cell 0 rfl rfl,_,GB.1.cell 0 rfl rfl,_,GB.1.cell 0 rfl rfl,_,GB.1.cell 2 rfl rfl,_,GB.1.cell 2 rfl rfl,_,GB.1.cell 2 rfl rfl,(IY wB v mm.1).mono ?_⟩;rintro _ mJ ⟨_,rfl,rfl,zX⟩;have oe:=lg GB zX;refine⟨_,rfl,Aa (λ hc=>⟨_,oe.1.cell 0 rfl rfl,_,oe.1.cell 0 rfl rfl,_,oe.1.cell 0 rfl rfl,oe.1.Xh 2 rfl λ rh tJ tX=>⟨rfl,?_⟩⟩) (λ hc=>⟨rfl,?_⟩)⟩
    ·rw [if_pos (.inr hc)];exact⟨tX,fv tJ Omg Omg oe.2⟩
    ·rw [if_neg Omg];exact oe
  rintro pO ⟨_,iJ⟩;refine⟨_,iJ.1.cell 1 rfl rfl,Ap (λ h0=>?_) (λ h0=>?_)⟩
  ·have cY:n=0:=Omg;refine⟨_,iJ.1.cell 0 rfl rfl,_,iJ.1.cell 0 rfl rfl,_,iJ.1.cell 0 rfl rfl,iJ.1.Xg 2 rfl λ w49 tL tY=>fin (mx:=v) ⟨tY,fv tL Omg Omg iJ.2⟩ rfl (by rw [Aa3 cY])⟩
  ·have cY:¬ n=0:=Omg;refine⟨_,iJ.1.cell 0 rfl rfl,_,iJ.1.cell 0 rfl rfl,_,iJ.1.cell 0 rfl rfl,_,iJ.1.cell 2 rfl rfl,_,iJ.1.cell 2 rfl rfl,_,iJ.1.cell 2 rfl rfl,(IY pO v mm.2).mono ?_⟩;rintro _ w51 ⟨_,rfl,rfl,zZ⟩;have og:=lg iJ zZ;refine⟨_,rfl,Aa (λ hc=>⟨_,og.1.cell 0 rfl rfl,_,og.1.cell 0 rfl rfl,_,og.1.cell 0 rfl rfl,og.1.Xg 2 rfl λ w49 tL tY=>fin (mx:=v) ⟨tY,fv tL Omg Omg og.2⟩ rfl (by rw [if_pos (.inr Omg)])⟩) (λ hc=>fin og rfl (by rw [if_neg Omg]))⟩)
  ⟨pT.grown gH,gm,kh⟩ hI
 refine bB.mono ?_;rintro _ xk ⟨_,rfl,SJ,ue,ua⟩;have SJ':SH (λ _=>False) w xk [(ik,#[.int .i64 ((AV ls).length:Int)],3),(dN,zC 0 (FM ls),159),(b2,zC 0 (Z0,Z0),159)]:=by
  have:=SJ;simp only [H,List.take_length] at this;exact this
 refine⟨⟨_,rfl⟩,none,by rw [Il aA dZ];exact ue,rfl,?_⟩;obtain⟨xl,hw58⟩:∃ xl,xl=xk.putObj L (.loop { rr with state:=.exhausted,pending:=none }):=⟨_,rfl⟩;rw [<- hw58];have xr:Ak (λ k=>k=L) xk xl:=by rw [hw58];exact AO _ _ _
 have xw:=SJ'.kept xr (by
  intro y hy;simp only [Aia,Aju,or_false] at hy;rcases hy with rfl | rfl | rfl <;> simp only <;> omega) (λ k hk h=>Omg)
 have ub:=xr.at ua (show ¬ cR.heap.size=L by omega);have yr:=Aae ls;have en:IntKind.i64.wrap ((ls.length:Int)-((AV ls).length:Int))=(Au ls:Int):=by rw [wrap_i64 Omg Omg];omega
 refine⟨_,xw.cell 0 rfl rfl,?_⟩;rw [en];refine xw.H7 1 rfl (aC:=zC (Au ls:Int) (FM ls)) (show 0<7 by decide) rfl λ w59 zh lV=>?_;refine⟨_,lV.cell 1 rfl rfl,_,lV.cell 1 rfl rfl,_,lV.cell 1 rfl rfl,_,lV.cell 1 rfl rfl,_,lV.cell 1 rfl rfl,_,lV.cell 1 rfl rfl,_,lV.cell 1 rfl rfl,lV.Y7 2 rfl λ zQ xt zx=>?_⟩;have uc:=xt.at (zh.at ub (show ¬ cR.heap.size=dN by omega)) (show ¬ cR.heap.size=b2 by omega);have KP:=AO zQ cR.heap.size (.deferred none);have SP:=zx.kept KP (by
  intro y hy;simp only [List.set_cons_succ,AjR,Aia,Aju,or_false] at hy;rcases hy with rfl | rfl | rfl <;> simp only <;> omega) (λ k hk h=>Omg)
 exact⟨uc,_,SP.cell 2 rfl rfl,_,SP.cell 2 rfl rfl,_,SP.cell 2 rfl rfl,_,SP.cell 2 rfl rfl,_,SP.cell 2 rfl rfl,_,SP.cell 2 rfl rfl,_,SP.cell 2 rfl rfl,.inl ⟨aK,rfl⟩,SP.below⟩
end
theorem Uz:AK Z0=true:=Ode
theorem Wi{ls:List AD}(h:∀ v∈ls,AK v=true):∀ i,i<=ls.length->AK (FM (ls.take i)).1=true/\AK (FM (ls.take i)).2=true
 | 0,_=>⟨Uz,Uz⟩
 | i+1,hi=>by
  have aD:i<ls.length:=Omg;obtain⟨h1,h2⟩:=Wi h i Omg;by_cases h0:ls[i].1=0
  ·rw [Py aD h0];exact⟨h1,h2⟩
  ·rw [Pz aD h0];have hv:=h _ (Ai7 aD);refine⟨?_,?_⟩
   ·simp only;split
    ·exact hv
    ·exact h1
   ·simp only;split
    ·exact hv
    ·exact h2
theorem Ad6{ls:List AD}{i:Nat}{p:AD->Prop}(aD:i<ls.length)(aF:∀ v∈ls.take i,p v)(hr:p ls[i]):∀ v∈ls.take (i+1),p v:=by
 intro v hv;rw [Ajl aD] at hv;rcases Ajn.1 hv with h | h
 ·exact aF v h
 ·rw [Ajo.1 h];exact hr
section
variable {w:World}{a:Option Addr}{c:Nat}{ls:List AD}
theorem UY(hl:Rd w a (AR ls)):Cw 110 #[.slice a ls.length c] w λ v w'=>XC ls v/\Below w.heap.size w w':=by
 apply QH
 delta A Ab Cb Ci D E F G H I Li Lt N Qbi Am T W X Z;try dsimp only [Ps]
 refine (SH.start (λ _=>False) w).An λ b2 w1 cW B1 S1=>Aa (λ gM=>?_) (λ hle=>?_)
 ·exact PA (p:=(Z0,Z0)) (x:=0) S1 (n:=0) rfl (λ h=>by have:=h.1;omega)
 have hlen:ls.length<=1024:=Omg;refine S1.An λ dN w9 kt B9 S9=>?_;refine⟨λ s cF=>∃ i:Nat,i<=ls.length/\s=[.bool (decide ((AV (ls.take i)).length=0)),.int .i64 (i:Int)]/\SH (λ _=>False) w cF [(dN,zC (Au (ls.take i):Int) (FM (ls.take i)),159),(b2,zC 0 (Z0,Z0),159)]/\∀ v∈ls.take i,AK v=true,λ s _=>match s with
   | [_,.int _ i]=>ls.length-i.toNat
   | _=>0,⟨0,Omg,rfl,S9,Osi⟩,?_⟩
 rintro _ _ cF ⟨i,hi,aA,gJ,aF⟩;cases aA;have br:=CW (ls.take i);rw [Ajm] at br;refine Aa (λ aB=>⟨⟨Omg,aB⟩,?_⟩) (λ aJ=>?_)
 ·have aD:i<ls.length:=Omg;obtain⟨p,rfl,c0,c1,c2⟩:=Db (hl.grown gJ.below) aD;refine⟨_,by rw [Ait];exact c0,_,by rw [Ait];exact c1,_,by rw [Ait];exact c2,(Fv cF ls[i]).mono ?_⟩;rintro _ fG ⟨_,rfl,rfl,zR⟩;have gg:=gJ.grown zR;refine⟨_,rfl,As (Aq (λ hr=>?_) (λ hr=>?_))⟩
  case refine_2=>exact PA (p:=(Z0,Z0)) (x:=0) gg (n:=1) rfl (λ h=>by have:=h.2 _ (Ai7 aD);rw [this] at hr;cases hr)
  obtain⟨p',hp',d0,d1,d2⟩:=Db (hl.grown gg.below) aD;cases hp';have jQ:=Ad6 aD aF hr;rw [Ae (k:=i) Omg];have cP:ls.length-((i+1:Nat):Int).toNat<ls.length-((i:Nat):Int).toNat:=by
   simp only [Ait];omega
  refine⟨⟨Omg,aB⟩,_,by rw [Ait];exact d0,Ap (λ hz=>?_) (λ aQ=>?_)⟩
  ·refine⟨_,gg.cell 0 rfl rfl,?_⟩;rw [Ae Omg];refine gg.H7 0 rfl (aC:=zC ((Au (ls.take i)+1:Nat):Int) (FM (ls.take i))) (show 0<7 by decide) rfl λ ie K26 zu=>⟨⟨i+1,Omg,?_,?_,jQ⟩,cP⟩
   ·rw [CM aD,if_pos hz,Ajr]
   ·rw [Fj aD,if_pos hz,Py aD hz];exact zu
  ·obtain⟨n,dm⟩:∃ n,n=(AV (ls.take i)).length:=⟨_,rfl⟩;obtain⟨mm,jr⟩:∃ mm,mm=FM (ls.take i):=⟨_,rfl⟩;obtain⟨nu,ix⟩:∃ nu,nu=Au (ls.take i):=⟨_,rfl⟩;have wP:=Wi (ls:=ls.take (i+1)) jQ i (by rw [Ajm];omega);have htt:(ls.take (i+1)).take i=ls.take i:=by rw [List.take_take];congr 1;omega
   rw [htt,<- jr] at wP;have af:=Pz aD aQ;have nW:(AV (ls.take (i+1))).length=n+1:=by rw [CM aD,if_neg aQ,Aiq,dm];rfl
   have qy:Au (ls.take (i+1))=nu:=by rw [Fj aD,if_neg aQ,ix];rfl
   rw [<- dm,<- jr] at af;rw [<- ix,<- jr] at gg;rw [<- dm];obtain⟨v,hvd⟩:∃ v,v=ls[i]:=⟨_,rfl⟩;rw [<- hvd] at hr af;have sk:∀ {wx:World},Below w.heap.size w wx->wx.cell? (p.add (i*3))=some (.int .i64 v.1)/\wx.cell? ((p.add (i*3)).add 1)=some (.int .i64 v.2.1)/\wx.cell? ((p.add (i*3)).add 2)=some (.string v.2.2):=λ B=>by
    obtain⟨q,hq,e0,e1,e2⟩:=Db (hl.grown B) aD;cases hq;rw [hvd];exact⟨e0,e1,e2⟩
   refine gg.EL λ lS od pR=>⟨⟨Omg,aB⟩,?_⟩;obtain⟨e0,e1,e2⟩:=sk pR.below;refine⟨_,by rw [Ait];exact e0,_,by rw [Ait];exact e1,_,by rw [Ait];exact e2,_,pR.cell 0 rfl rfl,_,pR.cell 0 rfl rfl,_,pR.cell 0 rfl rfl,(Lc lS v mm.1).mono ?_⟩;rintro _ oZ ⟨_,rfl,rfl,zT⟩;have zv:=pR.grown zT;refine⟨_,rfl,zv.EL λ kV B29 pS=>⟨⟨Omg,aB⟩,?_⟩⟩;obtain⟨e0,e1,e2⟩:=sk pS.below;refine⟨_,by rw [Ait];exact e0,_,by rw [Ait];exact e1,_,by rw [Ait];exact e2,_,pS.cell 0 rfl rfl,_,pS.cell 0 rfl rfl,_,pS.cell 0 rfl rfl,(Lc kV v mm.2).mono ?_⟩;rintro _ eU ⟨_,rfl,rfl,fx⟩;have om:=pS.grown fx;rw [<- AaS hr wP.1,<- AaS hr wP.2];have fin:∀ {wy:World} {mn mx:AD},SH (λ _=>False) w wy [(dN,zC (nu:Int) (mn,mx),159),(b2,zC 0 (Z0,Z0),159)]->mn=(if n=0\/DM v mm.1<0 then v else mm.1)->mx=(if n=0\/0<DM v mm.2 then v else mm.2) ->
     (∃ j:Nat,j<=ls.length/\[Value.bool false,.int .i64 ((i+1:Nat):Int)]=[.bool (decide ((AV (ls.take j)).length=0)),.int .i64 (j:Int)]/\SH (λ _=>False) w wy [(dN,zC (Au (ls.take j):Int) (FM (ls.take j)),159),(b2,zC 0 (Z0,Z0),159)]/\∀ v∈ls.take j,AK v=true)/\ls.length-((i+1:Nat):Int).toNat<ls.length-((i:Nat):Int).toNat:=by
    rintro wy mn mx Sy rfl rfl;refine⟨⟨i+1,Omg,?_,?_,jQ⟩,cP⟩
    ·rw [nW];simp
    ·rw [qy,af];exact Sy
   refine⟨_,rfl,λ s j6=>s=[]/\SH (λ _=>False) w j6 [(dN,zC (nu:Int) (if n=0\/DM v mm.1<0 then v else mm.1,mm.2),159),(b2,zC 0 (Z0,Z0),159)],?_,?_⟩
   ·obtain⟨e0,e1,e2⟩:=sk om.below;refine Aa (λ h0=>⟨⟨Omg,aB⟩,_,by rw [Ait];exact e0,_,by rw [Ait];exact e1,_,by rw [Ait];exact e2,om.Xh 0 rfl λ j0 tH mU=>⟨rfl,?_⟩⟩)
     (λ h0=>Aa (λ hc=>⟨⟨Omg,aB⟩,_,by rw [Ait];exact e0,_,by rw [Ait];exact e1,_,by rw [Ait];exact e2,om.Xh 0 rfl λ j0 tH mU=>⟨rfl,?_⟩⟩) (λ hc=>⟨rfl,?_⟩))
    ·rw [if_pos (.inl h0)];exact mU
    ·rw [if_pos (.inr hc)];exact mU
    ·rw [if_neg Omg];exact om
   rintro j6 ⟨_,oo⟩;obtain⟨e0,e1,e2⟩:=sk oo.below;refine Aa (λ h0=>⟨⟨Omg,aB⟩,_,by rw [Ait];exact e0,_,by rw [Ait];exact e1,_,by rw [Ait];exact e2,oo.Xg 0 rfl λ j0 tH mU=>fin (mx:=v) mU rfl (by rw [if_pos (.inl h0)])⟩)
     (λ h0=>Aa (λ hc=>⟨⟨Omg,aB⟩,_,by rw [Ait];exact e0,_,by rw [Ait];exact e1,_,by rw [Ait];exact e2,oo.Xg 0 rfl λ j0 tH mU=>fin (mx:=v) mU rfl (by rw [if_pos (.inr Omg)])⟩) (λ hc=>fin oo rfl (by rw [if_neg Omg])))
 ·have bK:ls.take i=ls:=List.take_of_length_le Omg;rw [bK] at aF gJ;have aK:GD ls:=⟨hlen,aF⟩;refine⟨_,gJ.cell 0 rfl rfl,_,gJ.cell 0 rfl rfl,_,gJ.cell 0 rfl rfl,_,gJ.cell 0 rfl rfl,_,gJ.cell 0 rfl rfl,_,gJ.cell 0 rfl rfl,_,gJ.cell 0 rfl rfl,gJ.Y7 1 rfl λ zQ xt SP=>?_⟩;exact⟨_,SP.cell 1 rfl rfl,_,SP.cell 1 rfl rfl,_,SP.cell 1 rfl rfl,_,SP.cell 1 rfl rfl,_,SP.cell 1 rfl rfl,_,SP.cell 1 rfl rfl,_,SP.cell 1 rfl rfl,.inl ⟨aK,rfl⟩,SP.below⟩
end
theorem XC.open{ls:List AD}{r:Value}(h:XC ls r):∃ n p e,r=zV n p e/\((GD ls/\n=(Au ls:Int)/\p=FM ls/\e=0)\/(¬ GD ls/\e=2)):=by
 rcases h with ⟨h,rfl⟩ | ⟨h,rfl⟩
 ·exact⟨_,_,_,rfl,.inl ⟨h,rfl,rfl,rfl⟩⟩
 ·exact⟨_,_,_,rfl,.inr ⟨h,rfl⟩⟩
structure Af9(ls:List AD)(i:Nat):Prop where
 all:∀ v∈ls.take i,v.1≠0->0<=DM v (FM (ls.take i)).1/\DM v (FM (ls.take i)).2<=0
 some:0<(AV (ls.take i)).length->((FM (ls.take i)).1∈ls.take i/\(FM (ls.take i)).1.1≠0)/\((FM (ls.take i)).2∈ls.take i/\(FM (ls.take i)).2.1≠0)
 none:(AV (ls.take i)).length=0->FM (ls.take i)=(Z0,Z0)
theorem XR(v:AD):DM v v=0:=(Jn.zero v v).2 rfl
theorem Aca{ls:List AD}(h:(AV ls).length=0):∀ v∈ls,v.1=0:=by
 intro v hv;have hf:AV ls=[]:=List.eq_nil_of_length_eq_zero h;unfold AV at hf;have:=List.filter_eq_nil_iff.1 hf v hv;simpa using this
theorem within{ls:List AD}:∀ i,i<=ls.length->Af9 ls i
 | 0,_=>⟨Osi,by simp [AV],λ _=>rfl⟩
 | i+1,hi=>by
  have aD:i<ls.length:=Omg;obtain⟨h1,h2,h3⟩:=within (ls:=ls) i Omg;have dD:∀ v,v∈ls.take i->v∈ls.take (i+1):=λ v hv=>by rw [Ajl aD];exact List.mem_append_left _ hv
  have cG:ls[i]∈ls.take (i+1):=by rw [Ajl aD];exact List.mem_append_right _ (Ajo.2 rfl)
  by_cases h0:ls[i].1=0
  ·have ef:AV (ls.take (i+1))=AV (ls.take i):=by rw [CM aD,if_pos h0,Ajr]
   have ez:=Py aD h0;refine⟨?_,?_,?_⟩
   ·rw [ez];intro v hv aQ;rw [Ajl aD] at hv;rcases Ajn.1 hv with h | h
    ·exact h1 v h aQ
    ·rw [Ajo.1 h] at aQ;exact absurd h0 aQ
   ·rw [ef,ez];intro hp;obtain⟨⟨a1,a2⟩,b1,b2⟩:=h2 hp;exact⟨⟨dD _ a1,a2⟩,dD _ b1,b2⟩
   ·rw [ef,ez];exact h3
  ·have ez:=Pz aD h0;have ef:(AV (ls.take (i+1))).length=(AV (ls.take i)).length+1:=by rw [CM aD,if_neg h0,Aiq];rfl
   obtain⟨mm,jr⟩:∃ mm,mm=FM (ls.take i):=⟨_,rfl⟩;obtain⟨n,hn⟩:∃ n,n=(AV (ls.take i)).length:=⟨_,rfl⟩;rw [<- jr,<- hn] at ez h2;rw [<- jr] at h1;rw [<- hn] at ef;have min_le:0<=DM ls[i] (if n=0\/DM ls[i] mm.1<0 then ls[i] else mm.1):=by
    split
    ·rw [XR];exact Int.le_refl _
    ·omega
   have max_le:DM ls[i] (if n=0\/0<DM ls[i] mm.2 then ls[i] else mm.2)<=0:=by
    split
    ·rw [XR];exact Int.le_refl _
    ·omega
   have old:∀ v∈ls.take i,v.1≠0->¬ n=0:=λ v hv aQ h=>aQ (Aca (by rw [<- hn];exact h) v hv);refine⟨?_,?_,λ h=>Omg⟩
   ·rw [ez];intro v hv aQ;rw [Ajl aD] at hv;rcases Ajn.1 hv with h | h
    ·obtain⟨k1,k2⟩:=h1 v h aQ;have cY:=old v h aQ;refine⟨?_,?_⟩
     ·simp only;split
      ·rename_i hc;have dV:DM ls[i] mm.1<0:=hc.resolve_left cY;have k1':DM mm.1 v<=0:=by have:=Jn.neg v mm.1;omega
       have:=Jn.strict _ _ _ dV k1';have:=Jn.neg ls[i] v;omega
      ·exact k1
     ·simp only;split
      ·rename_i hc;have dV:0<DM ls[i] mm.2:=hc.resolve_left cY;have:DM mm.2 ls[i]<=0:=by have:=Jn.neg ls[i] mm.2;omega
       exact Jn.trans _ _ _ k2 this
      ·exact k2
    ·rw [Ajo.1 h];exact⟨min_le,max_le⟩
   ·rw [ez];intro _;refine⟨?_,?_⟩
    ·simp only;split
     ·exact⟨cG,h0⟩
     ·rename_i hc;obtain⟨⟨a1,a2⟩,_⟩:=h2 Omg;exact⟨dD _ a1,a2⟩
    ·simp only;split
     ·exact⟨cG,h0⟩
     ·rename_i hc;obtain⟨_,b1,b2⟩:=h2 Omg;exact⟨dD _ b1,b2⟩
structure EJ(K:Int)(ls:List AD)(l:List UInt8):Prop where
 DN:Bb K ls
 ex:∃ o,(Au ls<ls.length->DR K ls o)/\(¬ Au ls<ls.length->o=[])/\l=Fi K ls++DB ls++o
theorem Vl{ls:List AD}(h:Au ls=0):AY ls=Aio ls.length 0:=by
 unfold AY;rw [List.eq_replicate_iff];refine⟨Osi,λ b hb=>?_⟩;obtain⟨v,hv,rfl⟩:=List.mem_map.1 hb;unfold Au at h;have:=(List.countP_eq_zero.1 h) v hv;rw [if_neg (by simpa using this)]
theorem XL{ls:List AD}(h:Au ls=ls.length):AY ls=Aio ls.length 1:=by
 unfold AY;rw [List.eq_replicate_iff];refine⟨Osi,λ b hb=>?_⟩;obtain⟨v,hv,rfl⟩:=List.mem_map.1 hb;unfold Au at h;have:=(List.countP_eq_length.1 h) v hv;rw [if_pos (by simpa using this)]
theorem Bb.null{K:Int}{ls:List AD}(h:Bb K ls):∀ v∈ls,v.1=0->v=(0,0,E0):=by
 intro v hv h0;have aK:=h.all v hv;simp only [okV,Bool.and_eq_true] at aK;have hr:=aK.1;unfold AK at hr;rw [if_pos h0] at hr;simp at hr;obtain⟨v1,v2,v3⟩:=v;simp only at h0 hr;rw [h0,hr.1,hr.2]
theorem Rf(ls:List AD):Au ls+(AV ls).length=ls.length:=by
 induction ls with
 | nil=>rfl
 | cons v ls ih =>
  unfold Au AV at ih ⊢;by_cases h:v.1=0
  ·simp [h];omega
  ·simp [h];omega
structure Mi(K:Int)(ls:List AD)(l:List UInt8)(aL aX:Nat)(o:List UInt8):Prop where
 kind:((l.getD 0 0).toNat:Int)=K
 n1:takeN l 1=some (ls.length,aL)
 n2:takeN l (aL:Int)=some (Au ls,aX)
 rest:l.drop aX=DB ls++o
 oth:Au ls<ls.length->DR K ls o
 none:¬ Au ls<ls.length->o=[]
theorem EJ.q{K:Int}{ls:List AD}{l:List UInt8}(h:EJ K ls l):∃ aL aX o,Mi K ls l aL aX o:=by
 obtain⟨o,h1,h2,rfl⟩:=h.ex;have hlen:=h.DN.len;have hk:=h.DN.kind;have br:=CW ls;have e1:(Fi K ls++DB ls++o).drop 1=Af ls.length++(Af (Au ls)++(DB ls++o)):=by simp [Fi]
 have e2:=CJ e1;have e3:=CJ e2;refine⟨_,_,o,?_,Bo (at_:=1) Omg e1,Bo Omg e2,e3,h1,h2⟩;have:((Fi K ls++DB ls++o).getD 0 0)=UInt8.ofNat K.toNat:=by simp [Fi]
 rw [this,EC Omg];omega
def J9(l:List UInt8)(w w':World)(v:Value):Prop :=
 ∃(K:Int) (os:List AD) (a:Option Addr) (c:Nat) (ok:Bool),v=.tuple #[.int .i64 K,.slice a os.length c,.bool ok]/\Vh w w' a (AR os)/\Below w.heap.size w w'/\os.length<=4096/\(∀ v∈os,BM v) /\
  ∀ K' ls,EJ K' ls l->ok=true/\K=K'/\os=ls
theorem J9.bad{l:List UInt8}{w w':World}(hb:Below w.heap.size w w')(h:∀ K ls,¬ EJ K ls l):J9 l w w' (.tuple #[.int .i64 0,.slice none 0 0,.bool false]) :=
 ⟨0,[],none,0,false,rfl,Vh.nil _ _,hb,Osi,Osi,λ K ls aM=>absurd aM (h K ls)⟩
section
variable {w:World}{a:Option Addr}{c:Nat}{l:List UInt8}
theorem UI(hl:Rd w a (l.map Ag))(hc:l.length<=c)(hs:l.length<=9223372036854775807) :
  Cw 198 #[.slice a l.length c] w λ v w'=>J9 l w w' v:=by
 apply PW
 delta Ad LV ZE AM Bz D F G H I Ly O Qi Rs S Am U W Wu X Y AgV;try dsimp only [Ps]
 refine Aa (λ h=>J9.bad (.refl _ _) λ K ls hp=>?_) (λ iU=>?_)
 ·obtain⟨_,_,_,q⟩:=hp.q;have:=AA q.n1;omega
 have h0:0<l.length:=Omg;refine (AL hl hc hs 1).mono ?_;rintro _ w ⟨_,rfl,rfl,rfl⟩;obtain⟨n,aL,e1,hv1,cK,cJ⟩:∃(n aL:Nat) (e1:Int),KM (takeN l 1)=.tuple #[.int .u64 (n:Int),.int .i64 (aL:Int),.int .i64 e1]/\(n<18446744073709551616/\aL<=l.length)/\(∀ K ls,EJ K ls l->e1=0/\n=ls.length/\takeN l 1=some (n,aL)):=by
  cases hx:takeN l 1 with
  | none =>
   refine⟨0,0,20,rfl,Omg,λ K ls hp=>?_⟩;obtain⟨_,_,_,q⟩:=hp.q;have:=q.n1;rw [hx] at this;cases this
  | some x =>
   have hb:=AA (n:=x.1) (k:=x.2) hx;refine⟨x.1,x.2,0,rfl,Omg,λ K ls hp=>?_⟩;obtain⟨_,_,_,q⟩:=hp.q;have:=q.n1;rw [hx] at this;have:=Ajx this;exact⟨rfl,by rw [this],rfl⟩
 rw [hv1];refine⟨_,_,_,rfl,(AL hl hc hs (aL:Int)).mono ?_⟩;rintro _ w ⟨_,rfl,rfl,rfl⟩;obtain⟨no,aX,e2,iX,cW,hP2⟩:∃(no aX:Nat) (e2:Int),KM (takeN l (aL:Int))=.tuple #[.int .u64 (no:Int),.int .i64 (aX:Int),.int .i64 e2]/\(no<18446744073709551616/\aX<=l.length)/\(∀ K ls,EJ K ls l->e2=0/\no=Au ls/\∃ o,Mi K ls l aL aX o):=by
  have step:∀ K ls,EJ K ls l->∃ aX o,Mi K ls l aL aX o:=by
   intro K ls hp;obtain⟨a1,a2,o,q⟩:=hp.q;have h1:=(cJ K ls hp).2.2;have h2:=q.n1;rw [h1] at h2;obtain rfl:aL=a1:=by have:=Ajx h2;simpa using congrArg Prod.snd this
   exact⟨a2,o,q⟩
  cases hx:takeN l (aL:Int) with
  | none =>
   refine⟨0,0,20,rfl,Omg,λ K ls hp=>?_⟩;obtain⟨_,_,q⟩:=step K ls hp;have:=q.n2;rw [hx] at this;cases this
  | some x =>
   have hb:=AA (n:=x.1) (k:=x.2) hx;refine⟨x.1,x.2,0,rfl,Omg,λ K ls hp=>?_⟩;obtain⟨a2,o,q⟩:=step K ls hp;have:=q.n2;rw [hx] at this;have rM:=Ajx this;obtain rfl:x.2=a2:=by rw [rM]
   exact⟨rfl,by rw [rM],o,q⟩
 rw [iX];refine⟨_,_,_,rfl,Ai (λ h=>J9.bad (.refl _ _) λ K ls hp=>h (cJ K ls hp).1) (λ vY=>Ai (λ h=>J9.bad (.refl _ _) λ K ls hp=>h (hP2 K ls hp).1) (λ nQ=>Aa (λ h=>J9.bad (.refl _ _) λ K ls hp=>?_) (λ fB=>Aa (λ h=>J9.bad (.refl _ _) λ K ls hp=>?_) (λ iA=>?_))))⟩
 ·have:=(cJ K ls hp).2.1;have:=hp.DN.len;omega
 ·have:=(cJ K ls hp).2.1;have:=(hP2 K ls hp).2.1;have:=CW ls;omega
 have hn:n<=1024:=Omg;have aP:no<=n:=Omg;refine DS tU (l:=(n:Int)) (c:=(n:Int)) Omg Omg Omg Omg λ bo w3 fW B3 iK=>?_;rw [Ait] at iK ⊢;have jO:w3.heap[bo]?=some (.cells ⟨Aio n (.int .u64 0)⟩ 92 (0,0)):=by
  have e:madeCells (Value.int .u64 0).cells (n*1)=⟨Aio n (.int .u64 0)⟩:=by
   apply Array.ext';rw [D5 _ rfl,Aiw]
  rw [<- e];exact iK
 refine⟨_,_,_,rfl,λ s w8=>∃(bH:Nat) (e:Int) (bits:List Nat) (ab:Option Addr) (cb:Nat),s=[.int .i64 (bH:Int),.int .i64 e,.slice ab bits.length cb]/\Rd w8 ab (bits.map EI)/\Below w.heap.size w w8/\bits.length<=4096/\bH<=l.length /\
   (∀ K ls,EJ K ls l->e=0/\bits=AY ls/\∃ o,Mi K ls l aL aX o/\l.drop bH=o),?_,?_⟩
 ·have rep:∀(k:Nat) (x:Nat),(Aio k x).map EI=Aio k (.int .u64 (x:Int)):=λ k x=>by rw [List.map_replicate];rfl
  refine Ap (λ hz=>?_) (λ hz=>Ap (λ aF=>?_) (λ jq=>?_))
  ·refine⟨aX,e1,Aio n 0,some ⟨bo,0,none⟩,n,by rw [AjS],?_,B3,by simp;omega,cW.2,λ K ls hp=>?_⟩
   ·have:=Rd.Al jO;rw [rep];exact this
   ·obtain⟨_,gU,o,q⟩:=hP2 K ls hp;have dA:=(cJ K ls hp).2.1;have eM:Au ls=0:=Omg;refine⟨vY,by rw [Vl eM,dA],o,q,?_⟩;rw [q.rest];unfold DB;rw [if_neg Omg];rfl
  ·refine⟨λ s w4=>∃ i:Nat,i<=n/\s=[.int .i64 (i:Int)]/\Ak (λ k=>k=bo) w3 w4/\w4.heap[bo]?=some (.cells ⟨Aio i (.int .u64 1)++Aio (n-i) (.int .u64 0)⟩ 92 (0,0)),λ s _=>match s with
     | [.int _ i]=>n-i.toNat
     | _=>0,⟨0,Omg,rfl,.refl _ _,by simpa using jO⟩,?_⟩
   rintro _ w4 ⟨i,hi,aA,K4,q9⟩;cases aA;refine Aa (λ aB=>⟨⟨Omg,aB⟩,?_⟩) (λ aJ=>?_)
   ·rw [Ait];unfold Av;simp only;refine Un q9 (p:=(⟨bo,0,none⟩:Addr).add (i*1)) (i:=i) (by rw [Ax];simp) (by show i<(_++_:List Value).length;simp;omega) λ w5 K5 fS=>?_;rw [Ae Omg];refine⟨⟨i+1,Omg,rfl,K4.trans K5 (λ _ _ h=>h),?_⟩,?_⟩
    ·have e:(⟨Aio i (.int .u64 1)++Aio (n-i) (.int .u64 0)⟩:Array Value).setIfInBounds i (.int .u64 1)=⟨Aio (i+1) (.int .u64 1)++Aio (n-(i+1)) (.int .u64 0)⟩:=by
      apply Array.ext';simp only [Array.toList_setIfInBounds];rw [List.set_append_right _ _ Osi,AjS,Nat.sub_self,show n-i=(n-(i+1))+1 by omega,List.replicate_succ (n:=n-(i+1)),AjR,List.replicate_succ' (n:=i),List.append_assoc];rfl
     rw [e] at fS;exact fS
    ·simp only [Ait];omega
   ·have cG:i=n:=Omg;subst cG;rw [Nat.sub_self,List.replicate_zero,Ajr] at q9;refine⟨aX,e1,Aio i 1,some ⟨bo,0,none⟩,i,by rw [AjS],?_,B3.trans (K4.below B3.size λ k hk h=>Omg),by simp;omega,cW.2,λ K ls hp=>?_⟩
    ·have:=Rd.Al q9;rw [rep];exact this
    ·obtain⟨_,gU,o,q⟩:=hP2 K ls hp;have dA:=(cJ K ls hp).2.1;have eM:Au ls=ls.length:=Omg;refine⟨vY,by rw [XL eM,dA],o,q,?_⟩;rw [q.rest];unfold DB;rw [if_neg Omg];rfl
  ·rw [wrap_i64 (n:=(n:Int)) Omg Omg];refine (Jq w3 (n:Int) 1).mono ?_;rintro _ w6 ⟨_,rfl,rfl,rfl⟩;rw [if_pos ⟨Omg,Omg,Omg,Omg⟩];obtain⟨sz,ao⟩:∃ sz,sz=Dl n 1:=⟨_,rfl⟩;have xP:sz=(n+7) / 8:=by rw [ao];unfold Dl;rw [Aiw]
   have uO:((n:Int)*1+7) / 8=(sz:Int):=Omg;rw [uO,wrap_i64 (n:=(l.length:Int)-(aX:Int)) Omg Omg];have dk:∀ K ls,EJ K ls l->∃ o,Mi K ls l aL aX o/\l.drop aX=AZ (AY ls) 1++o/\(AZ (AY ls) 1).length=sz:=by
    intro K ls hp;obtain⟨_,gU,o,q⟩:=hP2 K ls hp;have dA:=(cJ K ls hp).2.1;refine⟨o,q,?_,?_⟩
    ·rw [q.rest];unfold DB;rw [if_pos Omg]
    ·rw [BP,ao,dA];simp [AY]
   refine⟨_,_,rfl,Aa (λ h=>J9.bad B3 λ K ls hp=>?_) (λ aJ=>?_)⟩
   ·obtain⟨o,_,e,e2⟩:=dk K ls hp;have:=congrArg List.length e;rw [AiT,Aiq] at this;omega
   rw [wrap_i64 (n:=(aX:Int)+(sz:Int)) Omg Omg];refine⟨⟨Omg,Omg,Omg⟩,?_⟩;rw [Ait,show ((aX:Int)+(sz:Int)).toNat=aX+sz by omega,Nat.add_sub_cancel_left];have bF:=(hl.grown B3).NQ aX (aX+sz) c 1 Omg;rw [Aiw,Aiw,Nat.add_sub_cancel_left,<- List.map_drop,<- List.map_take] at bF;have oI:((l.drop aX).take sz).length=sz:=by rw [Ajm,AiT];omega
   have hU:=Hs (c:=c-aX) bF (n:Int) 1 Omg;rw [oI] at hU;refine hU.mono ?_;rintro _ w7 ⟨_,rfl,xs,xa,xc,e,rfl,gq,B7,oQ,aH⟩;have C7:=Ac B3 B7;have dE:xs.length<=4096:=by
    rcases aH with ⟨_,_,rfl,_⟩ | ⟨_,rfl,_⟩
    ·rw [Cd];omega
    ·simp
   refine⟨_,_,_,_,rfl,aX+sz,e,xs,xa,xc,rfl,gq,C7,dE,Omg,λ K ls hp=>?_⟩;obtain⟨o,q,e3,e4⟩:=dk K ls hp;have dA:=(cJ K ls hp).2.1;have an:(AY ls).length=n:=by rw [dA];simp [AY]
   have cZ:(l.drop aX).take sz=AZ (AY ls) 1:=by rw [e3,<- e4,List.take_left]
   have cp:=H0 (Sn ls);rw [an] at cp;rw [cZ,Ait,show (1:Int).toNat=1 from rfl] at aH;have aK:Gm (n:Int) 1/\QY (AZ (AY ls) 1) n 1:=⟨⟨Omg,Omg,Omg,Omg⟩,⟨by rw [BP,an],by rw [cp]⟩⟩;rcases aH with ⟨_,_,bU,he⟩ | ⟨hno2,_⟩
   ·exact⟨he,by rw [bU,cp],o,q,by rw [<- e4,<- List.drop_drop,e3,List.drop_left]⟩
   ·exact absurd aK hno2
 rintro _ e ab _ cb w8 ⟨bH,_,bits,_,_,aA,sJ,B8,an,uq,oz⟩;cases aA;refine (SH.start (λ _=>False) w8).EL λ w9 B9 _=>⟨⟨Omg,Omg⟩,?_⟩;have C9:=Ac B8 B9;have iP:=I6 (q:=bH) (hl.grown C9) hc;obtain⟨p,rfl,aE⟩:=Dr (hl.grown C9) h0;have bZ:=(l.getD 0 0).toNat_lt;refine⟨⟨Omg,Omg,Omg⟩,_,aE,?_⟩;have en:IntKind.i64.wrap (IntKind.u64.wrap ((n:Int)-(no:Int)))=((n-no:Nat):Int):=by rw [Aj Omg Omg,wrap_i64 Omg Omg];omega
 rw [en,wrap_i64 (n:=((l.getD 0 0).toNat:Int)) Omg Omg,Ait,<- AiT (i:=bH) (l:=l)];refine (PT ((l.getD 0 0).toNat:Int) iP (by rw [AiT];omega) (by rw [AiT];omega) (n:=n-no) Omg).mono ?_;rintro _ bX ⟨_,rfl,vs,xx,yA,ok,rfl,rj,bu,iY,gX,hD⟩;have mN:=Ac C9 bu;have gA:∀ K ls,EJ K ls l->ok=true/\vs=AV ls:=by
  intro K ls hp;obtain⟨_,_,o,q,ho⟩:=oz K ls hp;have dA:=(cJ K ls hp).2.1;have gU:=(hP2 K ls hp).2.1;have yr:=Rf ls;refine hD ls (by rw [q.kind];exact hp.DN) Omg (λ h=>?_) (λ h=>?_)
  ·rw [q.kind,ho];exact q.oth Omg
  ·rw [ho];exact q.none Omg
 refine⟨_,_,_,_,rfl,Ai (λ h=>J9.bad mN λ K ls hp=>h (oz K ls hp).1) (λ he=>As (Aq (λ aK=>?_) (λ aK=>J9.bad mN λ K ls hp=>?_)))⟩
 case refine_2 =>
  have:=(gA K ls hp).1;rw [this] at aK;cases aK
 refine (RE ((sJ.grown B9).grown bu) rj an iY gX).mono ?_;rintro _ aZ ⟨_,rfl,os,pU,pg,ok2,rfl,tR,cH,cC,lG,hS⟩;have jA:=Ac mN cH;obtain⟨p',hp',hcell'⟩:=Dr (hl.grown jA) h0;cases hp';refine⟨_,_,_,_,rfl,⟨Omg,Omg⟩,_,hcell',?_⟩;rw [wrap_i64 (n:=((l.getD 0 0).toNat:Int)) Omg Omg];refine⟨_,os,pU,pg,ok2,rfl,tR.before mN,jA,cC,lG,λ K ls hp=>?_⟩;obtain⟨_,bg,o,q,_⟩:=oz K ls hp;obtain⟨s1,s2⟩:=hS ls bg (gA K ls hp).2 hp.DN.null;exact⟨s1,q.kind,s2⟩
end
theorem J4.read{K:Int}{ls:List AD}{b:List UInt8}(hg:Bb K ls)(h:J4 K ls b):EJ K ls (b.take (b.length-4))/\5<=b.length/\b=b.take (b.length-4)++Uo (crc (b.take (b.length-4))):=by
 obtain⟨o,h1,h2,rfl⟩:=h.ex;have hs:∀ x,(Uo x).length=4:=λ x=>rfl;have eO:1<=(Fi K ls).length:=by simp [Fi]
 have e:(Fi K ls++DB ls++o++Uo (crc (Fi K ls++DB ls++o))).take ((Fi K ls++DB ls++o++Uo (crc (Fi K ls++DB ls++o))).length-4)=Fi K ls++DB ls++o:=by
  rw [Aiq,hs,Nat.add_sub_cancel,List.take_left]
 rw [e];refine⟨⟨hg,o,h1,h2,rfl⟩,?_,rfl⟩;simp only [Aiq,hs];omega
def PE(l:List UInt8)(w w':World)(v:Value):Prop :=
 ∃(K:Int) (ls:List AD) (a:Option Addr) (c:Nat) (e:Int),v=.tuple #[.int .i64 K,.slice a ls.length c,.int .i64 e]/\Vh w w' a (AR ls)/\Below w.heap.size w w'/\ls.length<=4096 /\
  ((Bb K ls/\J4 K ls l/\e=0/\∀ K' cE,Bb K' cE->J4 K' cE l->K'=K/\cE=ls)\/((∀ K' cE,Bb K' cE->¬ J4 K' cE l)/\K=0/\ls=[]/\e=80))
theorem PE.bad{l:List UInt8}{w w':World}(hb:Below w.heap.size w w')(h:∀ K' cE,Bb K' cE->¬ J4 K' cE l):PE l w w' (.tuple #[.int .i64 0,.slice none 0 0,.int .i64 80]) :=
 ⟨0,[],none,0,80,rfl,Vh.nil _ _,hb,Osi,.inr ⟨h,rfl,rfl,rfl⟩⟩
section
variable {w:World}{a:Option Addr}{c:Nat}{l:List UInt8}
theorem RD(hl:Rd w a (l.map Ag))(hc:l.length<=c)(hs:l.length<=9223372036854775807) :
  Cw 158 #[.slice a l.length c] w λ v w'=>PE l w w' v:=by
 apply MO
 delta Vb AM Cb F H I O S W Y;try dsimp only [Ps]
 refine Aa (λ h=>PE.bad (.refl _ _) λ K ls hg hC=>by have:=(hC.read hg).2.1;omega) (λ aJ=>?_);rw [wrap_i64 (n:=(l.length:Int)-4) Omg Omg,show ((l.length:Int)-4).toNat=l.length-4 by omega];refine⟨⟨Omg,Omg,Omg⟩,?_⟩;have bF:=hl.NQ 0 (l.length-4) c 1 Omg;rw [Aiw,AjT,Aiw,List.drop_zero,<- List.map_take] at bF;have aB:(l.take (l.length-4)).length=l.length-4:=by rw [Ajm];omega
 have hR:=UI (c:=c) bF Omg Omg;rw [aB] at hR;rw [AjT,AjT];refine hR.mono ?_;rintro _ w1 ⟨_,rfl,K,os,a1,c1,ok,rfl,R1,B1,cC,lG,hP⟩;refine⟨_,_,_,_,_,rfl,(JG K R1.rd Omg lG).mono ?_⟩;rintro _ w2 ⟨_,rfl,h2⟩;obtain⟨b2,a2,c2,e2,rfl,R2,B2,q2⟩:=h2.open;have C2:=Ac B1 B2;have key:∀ K' cE,Bb K' cE->J4 K' cE l->ok=true/\K=K'/\os=cE:=λ K' cE hg hC=>hP K' cE (hC.read hg).1;refine⟨_,_,_,_,rfl,As (Aq (λ aK=>?_) (λ aK=>PE.bad C2 λ K' cE hg hC=>?_))⟩
 case refine_2 =>
  have:=(key K' cE hg hC).1;rw [this] at aK;cases aK
 rcases q2 with ⟨hr,hI,rfl⟩ | ⟨hr,rfl,rfl⟩
 ·refine Ai (λ h=>absurd rfl h) (λ _=>(Hd R2 (hl.grown C2)).mono ?_);rintro _ w3 ⟨_,rfl,rfl,rfl⟩;refine⟨_,rfl,As (Aa (λ he=>?_) (λ he=>PE.bad C2 λ K' cE hg hC=>?_))⟩
  ·subst he;refine⟨K,os,a1,c1,0,rfl,R1.grown B2,C2,cC,.inl ⟨⟨hr,lG⟩,hI,rfl,λ K' cE hg hC=>?_⟩⟩;obtain⟨_,e1,e2⟩:=key K' cE hg hC;exact⟨e1.symm,e2.symm⟩
  ·obtain⟨_,rfl,rfl⟩:=key K' cE hg hC;exact he (hI.one hC)
 ·refine Ai (λ _=>PE.bad C2 λ K' cE hg hC=>?_) (λ h=>absurd h Ode);obtain⟨_,rfl,rfl⟩:=key K' cE hg hC;rw [hg.right] at hr;cases hr
end
end Go.Proofs.YtpnaifmmggnimaaGreatDoor

namespace Go.Proofs.YtpnaifmmggnimaaGreatDoor
open R
open _root_.Bool renaming and_eq_true -> Ah1
open _root_.Int renaming tdiv -> Ai8, tdiv_eq_ediv_of_nonneg -> Ai4, toNat_natCast -> Ait
open _root_.List renaming append_assoc -> Air, countP_le_length -> AjU, getElem?_eq_getElem -> Ajk, getElem_mem -> Ai7, length_append -> Aiq, length_cons -> Ais, length_drop -> AiT, length_take -> Ajm, map_take -> AiV, mem_append -> Ajn, mem_singleton -> Ajo, replicate -> Aio, take_of_length_le -> AiZ, take_succ_eq_append_getElem -> Ajl
open _root_.Nat renaming le_trans -> AiI, mul_one -> Aiw, sub_zero -> AjT
open _root_.Option.some renaming inj -> Ajx
open _root_.UInt8 renaming ofNat -> Aiz
set_option maxRecDepth 100000
open Go.Dn Go.Proofs
open Go.RowKit (Below)
set_option linter.unusedVariables false
def H6(l:List UInt8)(n:Nat)(w w':World)(v:Value):Prop :=
 ∃(ms:List Int) (a:Option Addr) (c:Nat),v=.slice a ms.length c/\Fm w w' ms a c/\(∀ x∈ms,E9 x)/\ms.length<=100000/\∀ ls,Ds l n ls->ms=ls
theorem H6.bad{l:List UInt8}{n:Nat}{w w':World}(hb:Below w.heap.size w w')(h:∀ ls,¬ Ds l n ls):H6 l n w w' (.slice none 0 0) :=
 ⟨[],none,0,rfl,⟨Row.nil _ _ _,by simp [AF],hb⟩,Osi,Osi,λ ls aM=>absurd aM (h ls)⟩
section
variable {w:World}{a:Option Addr}{c:Nat}{l:List UInt8}
theorem Tr.Ahm{f n:Nat}{out:List Int}{at_:Nat}(h:Tr l f n out at_)(hf:f<=1)(hn:n<=4096)(ho:out.length<n){ls:List Int}(aM:Ds l n ls):∃ many aL nx x,out=ls.take out.length/\Step l f at_ ls out.length many aL nx x:=by
 obtain⟨k,hk,jv,hr⟩:=h ls aM;have hlen:=aM.len;have aO:out.length=k:=by rw [jv,Ajm];omega
 rw [<- aO] at jv hr;obtain⟨many,aL,nx,x,hs⟩:=Abp hf aM.num Omg hr Omg;exact⟨many,aL,nx,x,jv,hs⟩
theorem Ua(hl:Rd w a (l.map Ag))(hs:l.length<=9223372036854775807)(h0:0<l.length){fm:Nat}(cX:fm=(l.getD 0 0).toNat)(hf:fm<=1){n:Nat}(hn:n<=4096) :
  Cw 243 #[.slice a l.length c,.int .i64 (n:Int)] w λ v w'=>H6 l n w w' v:=by
 apply Ma
 delta JD Bz F I J Ks Ly N O Eg S U W Wu X Ae2;try dsimp only [Ps]
 have xh:Tr l fm n [] 1:=by
  intro ls aM;refine⟨0,Omg,rfl,?_⟩;have:=aM.enc;rw [<- cX] at this;rw [List.drop_zero];rcases (by omega:fm=0\/fm=1) with rfl | rfl
  ·rw [this];simp [DA,Gh]
  ·rw [this];simp [DA,Gh]
 refine⟨λ s w1=>∃(at_:Nat) (out:List Int) (oa:Option Addr) (oc:Nat),s=[.slice oa out.length oc,.int .i64 (at_:Int)]/\Fm w w1 out oa oc/\(∀ x∈out,E9 x)/\out.length<=10000/\at_<=9223372036854775807/\Tr l fm n out at_,λ s _=>match s with
   | [.slice _ m _,_]=>n-m
   | _=>0,⟨1,[],none,0,rfl,Fm.nil w,Osi,Osi,Omg,xh⟩,?_⟩
 rintro oa _ oc _ w1 ⟨at_,out,_,_,aA,h1,hI,cC,ur,hT⟩;cases aA;refine Aa (λ aB=>?_) (λ aJ=>?_)
 case refine_2 =>
  refine⟨out,oa,oc,rfl,h1,hI,Omg,λ ls aM=>?_⟩;obtain⟨k,hk,ho,hr⟩:=hT ls aM;have:=aM.len;have aO:out.length=k:=by rw [ho,Ajm];omega
  rw [ho,AiZ Omg]
 have wg:out.length<n:=Omg;obtain⟨p,rfl,aE⟩:=Dr (hl.grown h1.Ar) h0;have bZ:=(l.getD 0 0).toNat_lt;have stay:(∀ ls,¬ Ds l n ls)->H6 l n w w1 (.slice oa out.length oc):=λ h=>⟨out,oa,oc,rfl,h1,hI,Omg,λ ls aM=>absurd aM (h ls)⟩;refine⟨λ s w3=>w3=w1/\∃(aL many:Nat) (e:Int),s=[.int .i64 (aL:Int),.int .u64 (many:Int),.int .i64 e]/\aL<=9223372036854775807/\((e≠0/\fm=1/\takeN l (at_:Int)=none)\/(e=0/\at_<=aL/\many<18446744073709551616/\((fm=1/\takeN l (at_:Int)=some (many,aL))\/(fm=0/\many=1/\aL=at_)))),?_,?_⟩
 ·refine⟨⟨Omg,Omg⟩,_,aE,Ap (λ h1'=>?_) (λ aQ=>?_)⟩
  ·refine (AJ (hl.grown h1.Ar) hs (at_:Int) Omg).mono ?_;rintro _ w2 ⟨_,rfl,rfl,rfl⟩;cases hx:takeN l (at_:Int) with
   | none=>exact⟨_,_,_,rfl,rfl,0,0,20,rfl,Omg,.inl ⟨Ode,Omg,rfl⟩⟩
   | some x =>
    have hb:=AA (n:=x.1) (k:=x.2) hx;exact⟨_,_,_,rfl,rfl,x.2,x.1,0,rfl,Omg,.inr ⟨rfl,Omg,Omg,.inl ⟨Omg,rfl⟩⟩⟩
  ·exact⟨rfl,at_,1,0,rfl,Omg,.inr ⟨rfl,Omg,Omg,.inr ⟨Omg,rfl,rfl⟩⟩⟩
 rintro _ _ e w3 ⟨rfl,aL,many,_,aA,nF,aH⟩;cases aA;refine (Fw (hl.grown h1.Ar) hs (aL:Int) Omg).mono ?_;rintro _ w4 ⟨_,rfl,rfl,rfl⟩;have key:∀ ls,Ds l n ls->∃ nx x,out=ls.take out.length/\e=0/\takeN l (aL:Int)=some (DQ x,nx)/\0<many/\out.length+many<=ls.length/\ls.take (out.length+many)=ls.take out.length++Aio many x/\l.drop nx=Gh fm (ls.drop (out.length+many)):=by
  intro ls aM;obtain⟨m,a1,nx,x,ho,hs⟩:=hT.Ahm hf hn wg aM;rcases aH with ⟨_,gv,aP⟩ | ⟨he,_,_,⟨gv,hso⟩ | ⟨fY,hm1,ha1⟩⟩
  ·rw [hs.num gv] at aP;cases aP
  ·have:=hs.num gv;rw [hso] at this;obtain⟨rfl,rfl⟩:=Prod.mk.injEq .. ▸ Ajx this;exact⟨nx,x,ho,he,hs.sgn,hs.pos,hs.le,hs.take,hs.rest⟩
  ·obtain⟨q1,q2⟩:=hs.one fY;subst q1 q2 hm1 ha1;exact⟨nx,x,ho,he,hs.sgn,hs.pos,hs.le,hs.take,hs.rest⟩
 cases hy:takeN l (aL:Int) with
 | none =>
  have aP:∀ ls,¬ Ds l n ls:=λ ls aM=>by
   obtain⟨nx,x,_,_,h,_⟩:=key ls aM;rw [hy] at h;cases h
  exact⟨_,_,_,rfl,Ai (λ _=>stay aP) (λ _=>Ai (λ _=>stay aP) (λ h=>absurd h Ode))⟩
 | some y =>
 rw [Pl];have oS:=AA (n:=y.1) (k:=y.2) hy;have lQ:=Gn oS.1;rw [Aj (n:=(n:Int)) Omg Omg];refine⟨_,_,_,rfl,Ai (λ nS=>stay λ ls aM=>?_) (λ p9=>Ai (λ h=>absurd rfl h) (λ _=>Aa (λ gM=>stay λ ls aM=>?_) (λ d'=>?_)))⟩
 ·obtain⟨_,_,_,h,_⟩:=key ls aM;exact nS h
 ·obtain⟨_,_,_,_,_,_,h,_⟩:=key ls aM;have:=aM.len;omega
 have eQ:many<=n:=Omg;rw [wrap_i64 (n:=(many:Int)) Omg Omg];refine⟨λ s w5=>∃(j:Nat) (o2:List Int) (oa:Option Addr) (oc:Nat),s=[.slice oa o2.length oc,.int .i64 (j:Int)]/\j<=many/\o2=out++Aio j (Cq y.1)/\Fm w w5 o2 oa oc,λ s _=>match s with
   | [_,.int _ i]=>many-i.toNat
   | _=>0,⟨0,out,oa,oc,rfl,Omg,Osi,h1⟩,?_⟩
 rintro so _ sq _ w5 ⟨j,o2,_,_,aA,hj,iS,h5⟩;cases aA;have wb:o2.length=out.length+j:=by rw [iS];simp
 have sH:∀ x∈o2,E9 x:=by
  intro x hx;rw [iS] at hx;rcases Ajn.1 hx with h | h
  ·exact hI x h
  ·rw [(List.mem_replicate.1 h).2];exact lQ
 refine Aa (λ av=>?_) (λ bz=>?_)
 ·refine (SH.start (λ _=>False) w5).An λ b6 w6 ky B6 S6=>FP (h5.grown B6) Omg (S6.get 0 rfl) λ a7 c7 w7 h7=>⟨_,_,_,rfl,?_⟩;rw [Ae Omg];refine⟨⟨j+1,_,a7,c7,rfl,Omg,?_,h7⟩,?_⟩
  ·rw [iS,List.replicate_succ',Air]
  ·simp only [Ait];omega
 ·have vx:j=many:=Omg;subst vx;refine Ap (λ fg=>?_) (λ fg=>?_)
  ·refine⟨o2,so,sq,rfl,h5,sH,Omg,λ ls aM=>?_⟩;obtain⟨_,_,_,_,_,h,_⟩:=key ls aM;omega
  ·refine⟨⟨y.2,o2,so,sq,rfl,h5,sH,Omg,Omg,?_⟩,?_⟩
   ·intro ls aM;obtain⟨nx,x,g1,_,g3,g4,g5,g7,g8⟩:=key ls aM;rw [hy] at g3;have lf:=Ajx g3;have ex:Cq y.1=x:=by rw [lf];exact F6
    have uL:y.2=nx:=by rw [lf]
    refine⟨out.length+j,g5,?_,by rw [uL];exact g8⟩;rw [iS,g7,<- g1,ex]
   ·show n-o2.length<n-out.length;omega
end
theorem AcV{s:Nat}(hs:s<18446744073709551616)(h:s % 2=1):IntKind.i64.wrap (IntKind.i64.wrap (0-IntKind.i64.wrap (IntKind.u64.wrap (Ai8 (s:Int) 2)))-1)=Cq s:=by
 have e2:IntKind.u64.wrap (Ai8 (s:Int) 2)=((s / 2:Nat):Int):=by rw [Ai4 Omg,Aj Omg Omg];omega
 unfold Cq;rw [if_pos h,e2,wrap_i64 (n:=((s / 2:Nat):Int)) Omg Omg,wrap_i64 (n:=0-((s / 2:Nat):Int)) Omg Omg,wrap_i64 Omg Omg];omega
theorem AaE{s:Nat}(hs:s<18446744073709551616)(h:¬ s % 2=1):IntKind.i64.wrap (IntKind.u64.wrap (Ai8 (s:Int) 2))=Cq s:=by
 have e2:IntKind.u64.wrap (Ai8 (s:Int) 2)=((s / 2:Nat):Int):=by rw [Ai4 Omg,Aj Omg Omg];omega
 unfold Cq;rw [if_neg h,e2,wrap_i64 Omg Omg]
section
variable {w:World}{a:Option Addr}{c:Nat}{l:List UInt8}
theorem U3(hl:Rd w a (l.map Ag))(hc:l.length<=c)(hs:l.length<=9223372036854775807)(h0:0<l.length){fm:Nat}(cX:fm=(l.getD 0 0).toNat)(hf:fm=2\/fm=3){n:Nat}(hn:n<=4096) :
  Cw 244 #[.slice a l.length c,.int .i64 (n:Int)] w λ v w'=>H6 l n w w' v:=by
 apply Ni
 delta Ad JD AM D F I J Ks Lu Ly N O J8 Eg S W Wu X Y;try dsimp only [Ps]
 refine (Fw hl hs 1 Ode).mono ?_;rintro _ w ⟨_,rfl,rfl,rfl⟩;have zero:n=0->H6 l n w w (.slice none 0 0):=λ h=>⟨[],none,0,rfl,Fm.nil w,Osi,Osi,λ ls aM=>(List.eq_nil_of_length_eq_zero (by rw [aM.len,h])).symm⟩;cases hy:takeN l 1 with
 | none =>
  refine⟨_,_,_,rfl,Ap (λ h=>zero Omg) (λ ju=>Ai (λ _=>H6.bad (.refl _ _) λ ls aM=>?_) (λ h=>absurd h Ode))⟩;obtain⟨k1,k2,k3,_⟩:=G9 aM cX hf Omg;have:=(ED k3 k1 k2).1;rw [hy] at this;cases this
 | some y =>
 rw [Pl];have oS:=AA (n:=y.1) (k:=y.2) hy;have lQ:E9 (Cq y.1):=Gn oS.1;refine⟨_,_,_,rfl,Ap (λ h=>zero Omg) (λ ju=>Ai (λ h=>absurd rfl h) (λ _=>Aa (λ gM=>H6.bad (.refl _ _) λ ls aM=>?_) (λ aB=>?_)))⟩
 ·obtain⟨k1,k2,k3,_⟩:=G9 aM cX hf Omg;obtain⟨q1,q2,_⟩:=ED k3 k1 k2;rw [hy] at q1;have:=Ajx q1;have:y.2=1+(D8 (Dx fm ls)).length:=by rw [this]
  omega
 have cY:0<n:=Omg;have hj:y.2<l.length:=Omg;have hg:l.getD y.2 0=l[y.2]:=Gd hj;have bZ:=(l.getD 0 0).toNat_lt;have vI:=(l[y.2]).toNat_lt;have rR:∀(m:Nat),m=(if fm=2 then n-1 else n)->m<=4096->∀ ls,Ds l n ls->Gm (m:Int) (l[y.2].toNat:Int)/\QY (l.drop (y.2+1)) m l[y.2].toNat/\BL (l.drop (y.2+1)) m l[y.2].toNat=KR fm ls/\Cq y.1=Dx fm ls:=by
  intro m hm lD ls aM;obtain⟨k1,k2,k3,k4⟩:=G9 aM cX hf cY;obtain⟨q1,q2,q3,q4⟩:=ED k3 k1 k2;rw [hy] at q1;have rP:=Ajx q1;have rN:y.2=1+(D8 (Dx fm ls)).length:=by rw [rP]
  have kA:y.1=DQ (Dx fm ls):=by rw [rP]
  rw [<- rN,hg] at q3;rw [<- rN] at q4;rw [<- hm] at k4;obtain⟨u1,u2,u3⟩:=Wa k4 lD k2;rw [q3,q4];exact⟨u1,u2,u3,by rw [kA];exact F6⟩
 obtain⟨p,rfl,aE⟩:=Dr hl h0;refine⟨⟨Omg,Omg⟩,_,aE,Ap (λ h3=>?_) (λ h3=>?_)⟩
 ·have uS:fm=3:=Omg;have bY:¬ fm=2:=Omg;refine (SH.start (λ _=>False) w).EL λ w2 B2 _=>?_;rw [wrap_i64 (n:=(y.2:Int)+1) Omg Omg,show ((y.2:Int)+1).toNat=y.2+1 by omega];refine⟨⟨Omg,Omg,Omg⟩,⟨Omg,Omg⟩,?_⟩;have iP:=I6 (q:=y.2+1) (hl.grown B2) hc;obtain⟨p',hp',hcellj⟩:=byte_at (hl.grown B2) hj;cases hp';refine⟨_,by rw [Ait];exact hcellj,?_⟩;rw [wrap_i64 (n:=(l[y.2].toNat:Int)) Omg Omg,<- AiT (i:=y.2+1) (l:=l)];refine (F9 iP (n:Int) (l[y.2].toNat:Int) (by rw [AiT];omega)).mono ?_;rintro _ w3 ⟨_,rfl,xs,xa,xc,e,rfl,gq,B3,oQ,aH⟩;rw [Ait,Ait] at aH;have C3:=Ac B2 B3;have key:=rR n (by rw [if_neg bY]) hn;refine⟨_,_,_,_,rfl,?_⟩;rcases aH with ⟨ha,hu,bU,rfl⟩ | ⟨aP,rfl,he⟩
  case inr =>
   refine Ai (λ _=>H6.bad C3 λ ls aM=>?_) (λ h=>by rw [he] at h;split at h <;> cases h);obtain⟨u1,u2,_⟩:=key ls aM;exact aP ⟨u1,u2⟩
  refine Ai (λ h=>absurd rfl h) (λ _=>?_);have dE:xs.length=n:=by rw [bU,Cd]
  refine⟨λ s w4=>∃(i:Nat) (out:List Int) (oa:Option Addr) (oc:Nat),s=[.slice oa out.length oc,.int .i64 (i:Int)]/\i<=n/\out.length=i/\(∀ x∈out,E9 x)/\Fm w3 w4 out oa oc/\(∀ ls,Ds l n ls->out=ls.take i),λ s _=>match s with
    | [_,.int _ i]=>n-i.toNat
    | _=>0,⟨0,[],none,0,rfl,Omg,rfl,Osi,Fm.nil w3,λ _ _=>rfl⟩,?_⟩
  rintro oa _ oc _ w4 ⟨i,out,_,_,aA,hi,cC,m9,h4,hT⟩;cases aA;refine Aa (λ av=>⟨⟨Omg,Omg⟩,?_⟩) (λ aJ=>?_)
  ·have dR:i<xs.length:=Omg;obtain⟨p2,rfl,hcx⟩:=Gw (gq.grown h4.Ar) dR;refine⟨_,by rw [Ait];exact hcx,(SH.start (λ _=>False) w4).An λ b5 w5 gB B5 S5=>FP (h4.grown B5) Omg (S5.get 0 rfl) λ a6 c6 w6 h6=>⟨_,_,_,rfl,?_⟩⟩;rw [Ae Omg];refine⟨⟨i+1,_,a6,c6,rfl,Omg,by simp [cC],?_,h6,λ ls aM=>?_⟩,?_⟩
   ·intro x hx;rcases Ajn.1 hx with h | h
    ·exact m9 x h
    ·rw [Ajo.1 h];exact FD _
   ·obtain⟨_,_,u3,u4⟩:=key ls aM;have oR:xs=BK ls:=by rw [bU,u3];simp [KR,bY]
    have dW:i<ls.length:=by have:=aM.len;omega
    have aV:=Ai7 dW;have nV:Dx fm ls=Fo ls:=by simp [Dx,bY]
    have dM:=Tz oR (Tv dW) dR;have bS:IntKind.i64.wrap (IntKind.u64.wrap (IntKind.u64.wrap (Fo ls)+((ls[i]-Fo ls).toNat:Int)))=ls[i]:=Tw (aM.num _ aV) (DC aM.num Omg _) (LM aV);rw [hT ls aM,Ajl dW,u4,nV,dM,bS]
   ·simp only [Ait];omega
  ·refine⟨out,oa,oc,rfl,⟨h4.row,λ k hk=>AiI C3.size (h4.new k hk),Ac C3 h4.Ar⟩,m9,Omg,λ ls aM=>?_⟩;rw [hT ls aM,AiZ (by have:=aM.len;omega)]
 ·have bY:fm=2:=Omg;refine (SH.start (λ _=>False) w).EL λ w2 B2 _=>?_;rw [wrap_i64 (n:=(y.2:Int)+1) Omg Omg,show ((y.2:Int)+1).toNat=y.2+1 by omega];refine⟨⟨Omg,Omg,Omg⟩,⟨Omg,Omg⟩,?_⟩;have iP:=I6 (q:=y.2+1) (hl.grown B2) hc;obtain⟨p',hp',hcellj⟩:=byte_at (hl.grown B2) hj;cases hp';refine⟨_,by rw [Ait];exact hcellj,?_⟩;rw [wrap_i64 (n:=(l[y.2].toNat:Int)) Omg Omg,<- AiT (i:=y.2+1) (l:=l),wrap_i64 (n:=(n:Int)-1) Omg Omg];obtain⟨m,hm⟩:∃ m,m=n-1:=⟨_,rfl⟩;have em:(n:Int)-1=(m:Int):=Omg;rw [em];refine (F9 iP (m:Int) (l[y.2].toNat:Int) (by rw [AiT];omega)).mono ?_;rintro _ w3 ⟨_,rfl,xs,xa,xc,e,rfl,gq,B3,oQ,aH⟩;rw [Ait,Ait] at aH;have C3:=Ac B2 B3;have key:=rR m (by rw [if_pos bY];exact hm) Omg;refine⟨_,_,_,_,rfl,?_⟩;rcases aH with ⟨ha,hu,bU,rfl⟩ | ⟨aP,rfl,he⟩
  case inr =>
   refine Ai (λ _=>H6.bad C3 λ ls aM=>?_) (λ h=>by rw [he] at h;split at h <;> cases h);obtain⟨u1,u2,_⟩:=key ls aM;exact aP ⟨u1,u2⟩
  refine Ai (λ h=>absurd rfl h) (λ _=>?_);have dE:xs.length=m:=by rw [bU,Cd]
  have fu:∀ x∈xs,x<18446744073709551616:=λ x hx=>by
   rw [bU] at hx;have:=NN _ _ _ x hx;have im:l[y.2].toNat<=64:=by have:=ha.2.2.2;omega
   exact Nat.lt_of_lt_of_le this (Nat.pow_le_pow_right (n:=2) Omg im)
  refine (SH.start (λ _=>False) w3).An λ b9 w9 sL B9 S9=>?_;have h9:Fm w3 w9 [Cq y.1] (some ⟨b9,0,none⟩) 1:=⟨⟨rfl,.inr ⟨b9,_,rfl,S9.get 0 rfl,Osi,Omg,rfl,by simp [Ep]⟩⟩,λ k hk=>by cases hk;exact sL,B9⟩;refine⟨λ s w4=>∃(i:Nat) (fi:Int) (out:List Int) (oa:Option Addr) (oc:Nat),s=[.int .i64 fi,.slice oa out.length oc,.int .i64 (i:Int)]/\i<=m/\out.length=1+i/\E9 fi/\(∀ x∈out,E9 x)/\Fm w3 w4 out oa oc/\(∀ ls,Ds l n ls->out=ls.take (i+1)/\fi=ls.getD i 0),λ s _=>match s with
    | [_,_,.int _ i]=>m-i.toNat
    | _=>0,⟨0,Cq y.1,[Cq y.1],_,_,rfl,Omg,rfl,lQ,λ x hx=>(by rw [Ajo.1 hx];exact lQ),h9,λ ls aM=>?_⟩,?_⟩
  ·obtain⟨_,_,_,u4⟩:=key ls aM;have hp:0<ls.length:=by have:=aM.len;omega
   rw [u4];unfold Dx;rw [if_pos bY];cases ls with
   | nil=>simp at hp
   | cons x r=>exact⟨rfl,rfl⟩
  rintro fi oa _ oc _ w4 ⟨i,_,out,_,_,aA,hi,cC,l8,m9,h4,hT⟩;cases aA;refine Aa (λ av=>⟨⟨Omg,Omg⟩,?_⟩) (λ aJ=>?_)
  ·have dR:i<xs.length:=Omg;have rH:=fu _ (Ai7 dR);obtain⟨p2,rfl,hcx⟩:=Gw (gq.grown h4.Ar) dR;refine⟨_,by rw [Ait];exact hcx,⟨Omg,Omg⟩,_,by rw [Ait];exact hcx,?_⟩;have uF:Int.tmod (xs[i]:Int) 2=((xs[i] % 2:Nat):Int):=by rw [Int.tmod_eq_emod_of_nonneg Omg];omega
   rw [uF,Ae Omg];have cP:m-((i+1:Nat):Int).toNat<m-((i:Nat):Int).toNat:=by
    simp only [Ait];omega
   have fin:∀ {w6:World} {a6:Option Addr} {c6:Nat},Fm w3 w6 (out++[IntKind.i64.wrap (fi+Cq xs[i])]) a6 c6 ->
     (∃(i_1:Nat) (fi_1:Int) (out_1:List Int) (oa:Option Addr) (oc:Nat),[Value.int .i64 (IntKind.i64.wrap (fi+Cq xs[i])),.slice a6 (out++[IntKind.i64.wrap (fi+Cq xs[i])]).length c6,.int .i64 ((i+1:Nat):Int)]=[.int .i64 fi_1,.slice oa out_1.length oc,.int .i64 (i_1:Int)]/\i_1<=m/\out_1.length=1+i_1/\E9 fi_1/\(∀ x∈out_1,E9 x)/\Fm w3 w6 out_1 oa oc/\(∀ ls,Ds l n ls->out_1=ls.take (i_1+1)/\fi_1=ls.getD i_1 0))/\m-((i+1:Nat):Int).toNat<m-((i:Nat):Int).toNat:=by
    intro w6 a6 c6 h6;refine⟨⟨i+1,_,_,a6,c6,rfl,Omg,by simp [cC];omega,FD _,?_,h6,λ ls aM=>?_⟩,cP⟩
    ·intro x hx;rcases Ajn.1 hx with h | h
     ·exact m9 x h
     ·rw [Ajo.1 h];exact FD _
    ·obtain⟨_,_,u3,_⟩:=key ls aM;obtain⟨t1,t2⟩:=hT ls aM;have oR:xs=BB ls:=by rw [bU,u3];simp [KR,bY]
     have dW:i+1<ls.length:=by have:=aM.len;omega
     have dM:=Tz oR (Um dW) dR;have bS:IntKind.i64.wrap (fi+Cq xs[i])=ls[i+1]:=by
      rw [dM,F6,t2,EU Omg];exact Wg (aM.num _ (Ai7 _)) (aM.num _ (Ai7 _))
     rw [bS,t1,Ajl dW,EU dW];exact⟨rfl,rfl⟩
   refine Ap (λ wc=>?_) (λ wc=>?_)
   ·rw [AcV rH Omg];exact (SH.start (λ _=>False) w4).An λ b5 w5 gB B5 S5=>FP (h4.grown B5) Omg (S5.get 0 rfl) λ a6 c6 w6 h6=>⟨_,_,_,rfl,fin h6⟩
   ·rw [AaE rH Omg];exact (SH.start (λ _=>False) w4).An λ b5 w5 gB B5 S5=>FP (h4.grown B5) Omg (S5.get 0 rfl) λ a6 c6 w6 h6=>⟨_,_,_,rfl,fin h6⟩
  ·refine⟨out,oa,oc,rfl,⟨h4.row,λ k hk=>AiI C3.size (h4.new k hk),Ac C3 h4.Ar⟩,m9,Omg,λ ls aM=>?_⟩;rw [(hT ls aM).1,AiZ (by have:=aM.len;omega)]
theorem Nw(hl:Rd w a (l.map Ag))(hc:l.length<=c)(hs:l.length<=9223372036854775807)(n:Int) :
  Cw 202 #[.slice a l.length c,.int .i64 n] w λ v w'=>Gc l n w w' v:=by
 apply Nf
 delta AM Cs F H I Ly O Rt S W X Zs;try dsimp only [Ps]
 refine Aa (λ h=>Gc.arg (.refl _ _) (by unfold Ce;omega)) (λ h1=>Aa (λ h=>Gc.arg (.refl _ _) (by unfold Ce;omega)) (λ h2=>?_));have aU:Ce n:=⟨Omg,Omg⟩;obtain⟨n,rfl⟩:∃ m:Nat,n=(m:Int):=⟨n.toNat,Omg⟩;have hn:n<=4096:=Omg;refine Ap (λ h=>Gc.bad (.refl _ _) aU λ ms hm=>by have:=hm.2;omega) (λ aQ=>?_);have h0:0<l.length:=Omg;obtain⟨p,rfl,aE⟩:=Dr hl h0;have bZ:=(l.getD 0 0).toNat_lt;refine⟨⟨Omg,Omg⟩,_,aE,Aa (λ h=>Gc.bad (.refl _ _) aU λ ms hm=>by have:=hm.1.form;omega) (λ hle=>?_)⟩;obtain⟨fm,cX⟩:∃ fm,fm=(l.getD 0 0).toNat:=⟨_,rfl⟩;rw [<- cX] at aE hle;refine⟨λ s w3=>∃(ms:List Int) (a':Option Addr) (c':Nat),s=[.slice a' ms.length c']/\Fm w w3 ms a' c'/\(∀ x∈ms,E9 x)/\ms.length<=100000/\∀ ls,Ds l n ls->ms=ls,?_,?_⟩
 ·refine⟨⟨Omg,Omg⟩,_,aE,Aa (λ h=>?_) (λ h=>?_)⟩
  ·refine (Ua hl hs h0 cX Omg hn).mono ?_;rintro _ w1 ⟨_,rfl,ms,a1,c1,rfl,q⟩;exact⟨_,_,_,rfl,ms,a1,c1,rfl,q⟩
  ·refine (U3 hl hc hs h0 cX Omg hn).mono ?_;rintro _ w1 ⟨_,rfl,ms,a1,c1,rfl,q⟩;exact⟨_,_,_,rfl,ms,a1,c1,rfl,q⟩
 rintro a3 _ c3 w3 ⟨ms,_,_,aA,h3,mr,qp,aF⟩;cases aA;refine Ai (λ hlen=>Gc.bad h3.Ar aU λ ls aM=>?_) (λ hlen=>?_)
 ·rw [Ait] at aM;have:=aF ls aM.1;have:=aM.1.len
  subst_vars
  omega
 have pF:ms.length<=4096:=Omg;obtain⟨p',hp',hcell3⟩:=Dr (hl.grown h3.Ar) h0;cases hp';rw [<- cX] at hcell3;refine⟨⟨Omg,Omg⟩,_,hcell3,?_⟩;rw [wrap_i64 Omg Omg];refine (Fe (fm:Int) h3.row.rd mr).mono ?_;rintro _ w4 ⟨_,rfl,hE⟩;obtain⟨a4,c4,rfl,h4⟩:=JE.DN Omg pF hE;have C4:=Ac h3.Ar h4.Ar;refine⟨_,_,_,_,rfl,Aw Ca (l:=DA fm ms) rfl h4.rd ⟨_,rfl,Aw Ca rfl (hl.grown C4) ⟨_,rfl,?_⟩⟩⟩;rw [AU];refine As (Aa (λ he=>?_) (λ he=>Gc.bad C4 aU λ ls aM=>he ?_))
 ·have kO:DA fm ms=l:=by have:=congrArg bl he;rwa [Bn,Bn] at this
  refine⟨ms,a3,c3,0,rfl,h3.row.rd.grown h4.Ar,C4,pF,mr,.inr (.inl ⟨aU,?_,h0,?_,rfl⟩)⟩
  ·rw [Ait];exact⟨Omg,mr,Omg,by rw [<- cX];exact kO.symm⟩
  ·intro ls aM;rw [Ait] at aM;exact (aF ls aM).symm
 ·rw [Ait] at aM;have h1:=aF ls aM.1;have h2:=aM.1.enc;rw [<- cX] at h2;rw [h1,<- h2]
end
def CI(bits:List Nat):Nat:=bits.countP λ b=>decide (b=0)
theorem UB{bits:List Nat}{i:Nat}(hi:i<bits.length):CI (bits.take (i+1))=CI (bits.take i)+if bits[i]=0 then 1 else 0:=by
 unfold CI;rw [Ajl hi,List.countP_append];by_cases h:bits[i]=0 <;> simp [h]
theorem Zz{bits:List Nat}(i:Nat):CI (bits.take i)<=CI bits:=by
 unfold CI;exact (List.take_sublist i bits).countP_le
theorem UA(ls:List AD):CI (AY ls)=(AV ls).length:=by
 induction ls with
 | nil=>rfl
 | cons v ls ih =>
  unfold CI AY AV at ih ⊢;by_cases h:v.1=0
  ·simp [h] at ih ⊢;exact ih
  ·simp [h] at ih ⊢;omega
def Xu(kind:Int)(bits:List Nat)(l:List UInt8)(w w':World)(v:Value):Prop :=
 ∃(vs:List AD) (a:Option Addr) (c:Nat) (ok:Bool),v=.tuple #[.slice a vs.length c,.bool ok]/\Vh w w' a (AR vs)/\Below w.heap.size w w'/\vs.length<=4096/\(∀ v∈vs,BM v) /\
  ∀ ls,Bb kind ls->bits=AY ls->(Au ls<ls.length->DR kind ls l)->(¬ Au ls<ls.length->l=[])->ok=true/\vs=ls
theorem Xu.bad{kind:Int}{bits:List Nat}{l:List UInt8}{w w':World}(hb:Below w.heap.size w w')(h:∀ ls,Bb kind ls->bits=AY ls->(Au ls<ls.length->DR kind ls l)->(¬ Au ls<ls.length->l=[])->False):Xu kind bits l w w' (.tuple #[.slice none 0 0,.bool false]) :=
 ⟨[],none,0,false,rfl,Vh.nil _ _,hb,Osi,Osi,λ ls h1 h2 h3 h4=>(h ls h1 h2 h3 h4).elim⟩
section
variable {w:World}{ab a:Option Addr}{cb c:Nat}{bits:List Nat}{l:List UInt8}
theorem R0(kind:Int)(hb:Rd w ab (bits.map EI))(hl:Rd w a (l.map Ag))(hc:l.length<=c)(hs:l.length<=9223372036854775807)(an:bits.length<=1024){many:Nat}(eQ:many=CI bits) :
  Cw 164 #[.int .i64 kind,.slice ab bits.length cb,.int .i64 (many:Int),.slice a l.length c] w λ v w'=>Xu kind bits l w w' v:=by
 apply Nr
 delta A Ab Ad AM F G H I J Ks Li Lt Lu N O AbN S Am T W X Zb AgW;try dsimp only [Ps]
 have lD:many<=bits.length:=by rw [eQ];exact AjU
 have ox:∀ ls,bits=AY ls->(AV ls).length=many/\ls.length=bits.length/\(Au ls<ls.length↔0<many):=by
  rintro ls rfl;have h1:=UA ls;have h2:=Rf ls;refine⟨by rw [eQ,h1],by simp [AY],Omg⟩
 refine⟨λ s w4=>∃(ns:List Int) (na:Option Addr) (nc:Nat) (ss:List ByteArray) (sa:Option Addr) (sc:Nat) (e:Int),s=[.slice na ns.length nc,.slice sa ss.length sc,.int .i64 e]/\Rd w4 na (ns.map Ep)/\Rd w4 sa (ss.map Value.string)/\Below w.heap.size w w4/\(∀ x∈ns,E9 x) /\
   (e=0->(kind=3->ss.length=many)/\(kind≠3->ns.length=many)) /\
   (∀ ls,Bb kind ls->bits=AY ls->(Au ls<ls.length->DR kind ls l)->(¬ Au ls<ls.length->l=[])->e=0/\(kind=3->ss=BC ls)/\(kind≠3->ns=CK ls)),?_,?_⟩
 ·refine⟨λ s w1=>∃ t:Bool,s=[.bool t]/\w1=w/\(t=true↔0<many/\kind=3),?_,?_⟩
  ·refine Aa (λ h=>⟨_,rfl,rfl,by simp;omega⟩) (λ h=>⟨_,rfl,rfl,by simp;omega⟩)
  rintro _ w1 ⟨t,aA,rfl,ht⟩;cases aA;refine Aq (λ h=>?_) (λ h=>?_)
  ·obtain⟨fg,h3⟩:=ht.1 h;refine (U1 hl hc hs (many:Int)).mono ?_;rintro _ w2 ⟨_,rfl,ss,a2,c2,e2,rfl,R2,B2,l2,q2⟩;have aU:Ce (many:Int):=⟨Omg,Omg⟩;rw [Ait] at q2;refine⟨_,_,_,_,rfl,[],none,0,ss,a2,c2,e2,rfl,Rd.nil _ _,R2,B2,Osi,λ he=>⟨λ _=>?_,λ h=>absurd h3 h⟩,λ ls hg bg ho hz=>?_⟩
   ·rcases q2 with ⟨k1,_⟩ | ⟨_,k2,_,_⟩ | ⟨_,_,_,k4⟩
    ·exact absurd aU k1
    ·exact k2.len
    ·rw [he] at k4;cases k4
   ·obtain⟨g1,g2,g3⟩:=ox ls bg;subst h3;obtain⟨d1,d2⟩:=VM hg (ho (g3.2 fg));have bV:=MV hg rfl;have fD:(BC ls).length=many:=by rw [<- g1,bV,List.length_map]
    rw [fD] at d1;rcases q2 with ⟨k1,_⟩ | ⟨_,k2,k3,_⟩ | ⟨_,k2,_⟩
    ·exact absurd aU k1
    ·exact⟨k3,λ _=>k2.one d1,λ h=>absurd rfl h⟩
    ·exact absurd ⟨d1,d2⟩ (k2 _)
  ·have aP:¬ (0<many/\kind=3):=λ hh=>by rw [ht.2 hh] at h;cases h
   refine Aa (λ hm=>?_) (λ hm=>Aa (λ yp=>Xu.bad (.refl _ _) λ ls hg bg ho hz=>?_) (λ yp=>?_))
   ·have h3:kind≠3:=λ hk=>aP ⟨Omg,hk⟩;refine (Nw hl hc hs (many:Int)).mono ?_;rintro _ w2 ⟨_,rfl,ns,a2,c2,e2,rfl,R2,B2,l2,hI,q2⟩;have aU:Ce (many:Int):=⟨Omg,Omg⟩;rw [Ait] at q2;refine⟨_,_,_,_,rfl,ns,a2,c2,[],none,0,e2,rfl,R2,Rd.nil _ _,B2,hI,λ he=>⟨λ h=>absurd h h3,λ _=>?_⟩,λ ls hg bg ho hz=>?_⟩
    ·rcases q2 with ⟨k1,_⟩ | ⟨_,k2,_,_,_⟩ | ⟨_,_,_,k4⟩
     ·exact absurd aU k1
     ·exact k2.len
     ·rw [he] at k4;cases k4
    ·obtain⟨g1,g2,g3⟩:=ox ls bg;obtain⟨d1,d2⟩:=YD hg h3 (ho (g3.2 Omg));have bV:=P5 hg h3;have fD:(CK ls).length=many:=by rw [<- g1,bV,List.length_map]
     rw [fD] at d1;rcases q2 with ⟨k1,_⟩ | ⟨_,_,_,k2,k3⟩ | ⟨_,k2,_⟩
     ·exact absurd aU k1
     ·exact⟨k3,λ h=>absurd h h3,λ _=>(k2 _ d1).symm⟩
     ·exact absurd ⟨d1,d2⟩ (k2 _)
   ·obtain⟨g1,g2,g3⟩:=ox ls bg;have:=hz (λ h=>by have:=g3.1 h;omega);subst this;simp at yp
   ·have fg:many=0:=Omg;refine⟨[],none,0,[],none,0,0,rfl,Rd.nil _ _,Rd.nil _ _,.refl _ _,Osi,λ _=>⟨λ _=>by simp [fg],λ _=>by simp [fg]⟩,λ ls hg bg ho hz=>?_⟩;obtain⟨g1,g2,g3⟩:=ox ls bg;have hf:AV ls=[]:=List.eq_nil_of_length_eq_zero Omg;exact⟨rfl,λ _=>by simp [BC,hf],λ _=>by simp [CK,hf]⟩
 rintro na _ nc sa _ sc e w4 ⟨ns,_,_,ss,_,_,_,aA,gp,hRs,B4,hI,qq,hP⟩;cases aA;refine Ai (λ h=>Xu.bad B4 λ ls h1 h2 h3 h4=>h (hP ls h1 h2 h3 h4).1) (λ he=>?_);obtain⟨len3,lenN'⟩:=qq he;refine⟨λ s w5=>∃(i:Nat) (vs:List AD) (oa:Option Addr) (oc:Nat),s=[.slice oa vs.length oc,.int .i64 (CI (bits.take i):Int),.int .i64 (i:Int)]/\i<=bits.length/\vs.length=i/\(∀ v∈vs,BM v)/\NX w4 w5 vs oa oc /\
   (∀ ls,Bb kind ls->bits=AY ls->(Au ls<ls.length->DR kind ls l)->(¬ Au ls<ls.length->l=[])->vs=ls.take i),λ s _=>match s with
   | [_,_,.int _ i]=>bits.length-i.toNat
   | _=>0,⟨0,[],none,0,rfl,Omg,rfl,Osi,NX.nil w4,λ _ _ _ _ _=>rfl⟩,?_⟩
 rintro oa _ oc _ _ w5 ⟨i,vs,_,_,aA,hi,iY,gX,h5,hT⟩;cases aA;have zle:=Zz (bits:=bits) i;refine Aa (λ aB=>?_) (λ aJ=>?_)
 ·have aD:i<bits.length:=Omg;refine (SH.start (λ _=>False) w5).Ic λ fH w9 jT B9 S9=>⟨⟨Omg,aB⟩,?_⟩;obtain⟨p,rfl,aE⟩:=Gw ((hb.grown B4).grown (Ac h5.Ar B9)) aD;have kU:=UB aD;have zle2:=Zz (bits:=bits) (i+1);have cP:bits.length-((i+1:Nat):Int).toNat<bits.length-((i:Nat):Int).toNat:=by
   simp only [Ait];omega
  have xb:CI (bits.take i)<=1024:=by
   have:CI bits<=bits.length:=AjU;omega
  have bit:∀ {ls:List AD} (h:bits=AY ls) (hl:i<ls.length),bits[i]=if ls[i].1=0 then 1 else 0:=by
   intro ls h hl;subst h;simp [AY]
  rw [Ae (k:=i) Omg];have next:∀ {wx:World} {b:Nat} {t:TypeId} {x:AD} {z:Nat},Below w5.heap.size w5 wx->wx.heap[b]?=some (.cells #[.int .i64 x.1,.int .i64 x.2.1,.string x.2.2] t (0,0))->BM x->CI (bits.take (i+1))=z ->
    (∀ ls,Bb kind ls->bits=AY ls->(Au ls<ls.length->DR kind ls l)->(¬ Au ls<ls.length->l=[])->∀ hl:i<ls.length,ls[i]=x) ->
    De Tryz.prog (Builtin.append_ #[68,68] 68 #[.slice oa vs.length oc,.slice (some ⟨b,0,none⟩) 1 1]) (λ r al=>∃(t73:Option Addr) (rX rW:Nat),r=.slice t73 rX rW /\
     (∃(i_1:Nat) (vs:List AD) (oa:Option Addr) (oc:Nat),[Value.slice t73 rX rW,.int .i64 (z:Int),.int .i64 ((i+1:Nat):Int)]=[.slice oa vs.length oc,.int .i64 (CI (bits.take i_1):Int),.int .i64 (i_1:Int)]/\i_1<=bits.length/\vs.length=i_1/\(∀ v∈vs,BM v)/\NX w4 al vs oa oc /\
      (∀ ls,Bb kind ls->bits=AY ls->(Au ls<ls.length->DR kind ls l)->(¬ Au ls<ls.length->l=[])->vs=ls.take i_1))/\bits.length-((i+1:Nat):Int).toNat<bits.length-((i:Nat):Int).toNat) wx:=by
   intro wx b t x z Bx yb hx hz hPx;refine MJ (h5.grown Bx) Omg yb λ a7 c7 w7 h7=>⟨_,_,_,rfl,⟨i+1,_,a7,c7,by rw [hz],Omg,by simp [iY],?_,h7,λ ls g1 g2 g3 g4=>?_⟩,cP⟩
   ·intro v hv;rcases Ajn.1 hv with h | h
    ·exact gX v h
    ·rw [Ajo.1 h];exact hx
   ·have cy:i<ls.length:=by have:=(ox ls g2).2.1;omega
    rw [hT ls g1 g2 g3 g4,Ajl cy,hPx ls g1 g2 g3 g4 cy]
  refine⟨_,by rw [Ait];exact aE,Ap (λ hz=>?_) (λ ju=>?_)⟩
  ·have eM:bits[i]=0:=Omg;rw [if_pos eM] at kU;rw [Ae Omg];have hzlt:CI (bits.take i)<many:=Omg;have at_of:∀ {ls:List AD},bits=AY ls->∀ hl:i<ls.length,(AV ls)[CI (bits.take i)]?=some ls[i]:=by
    intro ls g2 hl;have cK:=bit g2 hl;have ju:¬ ls[i].1=0:=λ h=>by rw [if_pos h] at cK;omega
    have bV:=CM hl;rw [if_neg ju] at bV;have cl:AV (ls.take (i+1)) <+: AV ls:=by
     unfold AV;exact (List.take_prefix (i+1) ls).filter _
    rw [bV] at cl;obtain⟨r,hr⟩:=cl;have e1:CI (bits.take i)=(AV (ls.take i)).length:=by
     rw [<- UA];congr 1;rw [g2];unfold AY;rw [AiV]
    rw [e1,<- hr,Air];simp
   refine S9.H7 0 rfl (aC:=#[.int .i64 kind,.int .i64 0,.string ⟨#[]⟩]) (show 0<3 by decide) rfl λ bX xp kG=>?_;have bu:Below w5.heap.size w5 bX:=kG.below;refine Ap (λ h3=>⟨⟨Omg,by have:=len3 h3;omega⟩,?_⟩) (λ h3=>⟨⟨Omg,by have:=lenN' h3;omega⟩,?_⟩)
   ·have bF:CI (bits.take i)<ss.length:=by have:=len3 h3;omega
    obtain⟨ps,rfl,aj⟩:=ES (hRs.grown (Ac h5.Ar bu)) bF;refine⟨_,by rw [Ait];exact aj,kG.H7 0 rfl (aC:=#[.int .i64 kind,.int .i64 0,.string ss[CI (bits.take i)]]) (show 2<3 by decide) rfl λ aZ eV bG=>?_⟩;refine⟨_,bG.cell 0 rfl rfl,_,bG.cell 0 rfl rfl,_,bG.cell 0 rfl rfl,bG.An λ xz bL kx j7 lU=>next (x:=(kind,0,ss[CI (bits.take i)])) lU.below (lU.get 0 rfl) ⟨Osi,Osi⟩ kU λ ls g1 g2 g3 g4 cy=>?_⟩;have xN:=(hP ls g1 g2 g3 g4).2.1 h3;have hf:=at_of g2 cy;rw [MV g1 h3,<- xN,List.getElem?_map,Ajk bF] at hf;exact (Ajx hf).symm
   ·have br:CI (bits.take i)<ns.length:=by have:=lenN' h3;omega
    obtain⟨pn,rfl,kN⟩:=Df (gp.grown (Ac h5.Ar bu)) br;have zE:=hI _ (Ai7 br);refine⟨_,by rw [Ait];exact kN,kG.H7 0 rfl (aC:=#[.int .i64 kind,.int .i64 ns[CI (bits.take i)],.string ⟨#[]⟩]) (show 1<3 by decide) rfl λ aZ eV bG=>?_⟩;refine⟨_,bG.cell 0 rfl rfl,_,bG.cell 0 rfl rfl,_,bG.cell 0 rfl rfl,bG.An λ xz bL kx j7 lU=>next (x:=(kind,ns[CI (bits.take i)],E0)) lU.below (lU.get 0 rfl) ⟨zE.1,zE.2⟩ kU λ ls g1 g2 g3 g4 cy=>?_⟩;have xN:=(hP ls g1 g2 g3 g4).2.2 h3;have hf:=at_of g2 cy;rw [P5 g1 h3,<- xN,List.getElem?_map,Ajk br] at hf;exact (Ajx hf).symm
  ·have eM:¬ bits[i]=0:=Omg;rw [if_neg eM,Nat.add_zero] at kU;refine⟨_,S9.cell 0 rfl rfl,_,S9.cell 0 rfl rfl,_,S9.cell 0 rfl rfl,S9.An λ xz bL kx j7 lU=>next (x:=(0,0,E0)) lU.below (lU.get 0 rfl) ⟨Osi,Osi⟩ kU λ ls g1 g2 g3 g4 cy=>?_⟩;have cK:=bit g2 cy;have oT:ls[i].1=0:=by
    by_cases h:ls[i].1=0
    ·exact h
    ·rw [if_neg h] at cK;exact absurd cK eM
   exact g1.null _ (Ai7 cy) oT
 ·refine⟨vs,oa,oc,true,rfl,⟨h5.row.rd,λ k hk=>AiI B4.size (h5.new k hk)⟩,Ac B4 h5.Ar,Omg,gX,λ ls g1 g2 g3 g4=>⟨rfl,?_⟩⟩;have:=(ox ls g2).2.1;rw [hT ls g1 g2 g3 g4,AiZ Omg]
end
section
variable {w:World}{a:Option Addr}{c:Nat}{l:List UInt8}
theorem RZ(hl:Rd w a (l.map Ag))(hc:l.length<=c)(hs:l.length<=9223372036854775807) :
  Cw 128 #[.slice a l.length c] w λ v w'=>PE l w w' v:=by
 apply Np
 delta Ad ZE AM Bz F G H I Lu Ly O MH Rs Rt S Am U W X Y Z Zb Zis;try dsimp only [Ps]
 refine Aa (λ h=>PE.bad (.refl _ _) λ K ls hg hC=>by have:=(hC.read hg).2.1;omega) (λ aJ=>?_);have h0:0<l.length:=Omg;obtain⟨li,jk⟩:∃ li,li=l.take (l.length-4):=⟨_,rfl⟩;have aB:li.length=l.length-4:=by rw [jk,Ajm];omega
 have sI:∀ K ls,Bb K ls->J4 K ls l->EJ K ls li:=λ K ls hg hC=>by rw [jk];exact (hC.read hg).1
 have eO:l.getD 0 0=li.getD 0 0:=by
  rw [jk];have:0<l.length-4:=Omg;simp only [List.getD,List.getElem?_take,if_pos this]
 have bF:=hl.NQ 0 (l.length-4) c 1 Omg;rw [Aiw,AjT,Aiw,List.drop_zero,<- AiV,<- jk] at bF;obtain⟨p,rfl,aE⟩:=Dr hl h0;have bZ:=(l.getD 0 0).toNat_lt;rw [wrap_i64 (n:=(l.length:Int)-4) Omg Omg,show ((l.length:Int)-4).toNat=li.length by omega,AjT,AjT];refine⟨⟨Omg,Omg⟩,_,aE,⟨Omg,Omg,Omg⟩,?_⟩;obtain⟨ai,hai⟩:∃ ai,ai=Ch (some p) 0 c 1:=⟨_,rfl⟩;rw [<- hai] at bF ⊢;have wJ:li.length<=c:=Omg;have qt:li.length<=9223372036854775807:=Omg;refine (AJ bF qt 1 Ode).mono ?_;rintro _ w ⟨_,rfl,rfl,rfl⟩;obtain⟨n,aL,e1,hv1,cK,cJ⟩:∃(n aL:Nat) (e1:Int),KM (takeN li 1)=.tuple #[.int .u64 (n:Int),.int .i64 (aL:Int),.int .i64 e1]/\(n<18446744073709551616/\aL<=li.length)/\(∀ K ls,EJ K ls li->e1=0/\n=ls.length/\takeN li 1=some (n,aL)):=by
  cases hx:takeN li 1 with
  | none =>
   refine⟨0,0,20,rfl,Omg,λ K ls hp=>?_⟩;obtain⟨_,_,_,q⟩:=hp.q;have:=q.n1;rw [hx] at this;cases this
  | some x =>
   have hb:=AA (n:=x.1) (k:=x.2) hx;refine⟨x.1,x.2,0,rfl,Omg,λ K ls hp=>?_⟩;obtain⟨_,_,_,q⟩:=hp.q;have:=q.n1;rw [hx] at this;have:=Ajx this;exact⟨rfl,by rw [this],rfl⟩
 rw [hv1];refine⟨_,_,_,rfl,(AJ bF qt (aL:Int) Omg).mono ?_⟩;rintro _ w ⟨_,rfl,rfl,rfl⟩;obtain⟨no,aX,e2,iX,cW,hP2⟩:∃(no aX:Nat) (e2:Int),KM (takeN li (aL:Int))=.tuple #[.int .u64 (no:Int),.int .i64 (aX:Int),.int .i64 e2]/\(no<18446744073709551616/\aX<=li.length)/\(∀ K ls,EJ K ls li->e2=0/\no=Au ls/\∃ o,Mi K ls li aL aX o):=by
  have step:∀ K ls,EJ K ls li->∃ aX o,Mi K ls li aL aX o:=by
   intro K ls hp;obtain⟨a1,a2,o,q⟩:=hp.q;have h1:=(cJ K ls hp).2.2;have h2:=q.n1;rw [h1] at h2;obtain rfl:aL=a1:=by have:=Ajx h2;simpa using congrArg Prod.snd this
   exact⟨a2,o,q⟩
  cases hx:takeN li (aL:Int) with
  | none =>
   refine⟨0,0,20,rfl,Omg,λ K ls hp=>?_⟩;obtain⟨_,_,q⟩:=step K ls hp;have:=q.n2;rw [hx] at this;cases this
  | some x =>
   have hb:=AA (n:=x.1) (k:=x.2) hx;refine⟨x.1,x.2,0,rfl,Omg,λ K ls hp=>?_⟩;obtain⟨a2,o,q⟩:=step K ls hp;have:=q.n2;rw [hx] at this;have rM:=Ajx this;obtain rfl:x.2=a2:=by rw [rM]
   exact⟨rfl,by rw [rM],o,q⟩
 rw [iX,wrap_i64 (n:=((l.getD 0 0).toNat:Int)) Omg Omg];obtain⟨kd,sV⟩:∃ kd,kd=((l.getD 0 0).toNat:Int):=⟨_,rfl⟩;rw [<- sV];have bP:∀ {wx:World},Below w.heap.size w wx->(∀ K ls,¬ EJ K ls li)->PE l w wx (.tuple #[.int .i64 0,.slice none 0 0,.int .i64 80]):=λ B h=>PE.bad B λ K ls hg hC=>h K ls (sI K ls hg hC);have eP:∀ K ls,EJ K ls li->kd=K:=λ K ls hp=>by
  obtain⟨_,_,_,q⟩:=hp.q;rw [sV,eO];exact q.kind
 refine⟨_,_,_,rfl,Ai (λ h=>bP (.refl _ _) λ K ls hp=>h (cJ K ls hp).1) (λ vY=>Ai (λ h=>bP (.refl _ _) λ K ls hp=>h (hP2 K ls hp).1) (λ nQ=>Aa (λ h=>bP (.refl _ _) λ K ls hp=>?_) (λ fB=>Aa (λ h=>bP (.refl _ _) λ K ls hp=>?_) (λ iA =>
  Aa (λ h=>bP (.refl _ _) λ K ls hp=>?_) (λ cu=>Aa (λ h=>bP (.refl _ _) λ K ls hp=>?_) (λ ay=>?_))))))⟩
 ·have:=(cJ K ls hp).2.1;have:=hp.DN.len;omega
 ·have:=(cJ K ls hp).2.1;have:=(hP2 K ls hp).2.1;have:=CW ls;omega
 ·have:=eP K ls hp;have:=hp.DN.kind;omega
 ·have:=eP K ls hp;have:=hp.DN.kind;omega
 have hn:n<=1024:=Omg;have aP:no<=n:=Omg;refine DS tU (l:=(n:Int)) (c:=(n:Int)) Omg Omg Omg Omg λ bo w3 fW B3 iK=>?_;rw [Ait] at iK ⊢;have jO:w3.heap[bo]?=some (.cells ⟨Aio n (.int .u64 0)⟩ 92 (0,0)):=by
  have e:madeCells (Value.int .u64 0).cells (n*1)=⟨Aio n (.int .u64 0)⟩:=by
   apply Array.ext';rw [D5 _ rfl,Aiw]
  rw [<- e];exact iK
 have rep:∀(k:Nat) (x:Nat),(Aio k x).map EI=Aio k (.int .u64 (x:Int)):=λ k x=>by rw [List.map_replicate];rfl
 refine⟨_,_,_,rfl,λ s w6=>∃(bH:Nat) (bits:List Nat) (ab:Option Addr) (cb:Nat),s=[.int .i64 (bH:Int),.slice ab bits.length cb]/\Rd w6 ab (bits.map EI)/\Below w.heap.size w w6/\bits.length<=1024/\bH<=li.length /\
   (no=n->ab=some ⟨bo,0,none⟩/\bits=Aio n 0/\w6.heap[bo]?=some (.cells ⟨Aio n (.int .u64 0)⟩ 92 (0,0))) /\
   (∀ K ls,EJ K ls li->(no≠n->bits=AY ls)/\∃ o,Mi K ls li aL aX o/\li.drop bH=o),?_,?_⟩
 ·refine⟨λ s w4=>∃ t:Bool,s=[.bool t]/\w4=w3/\(t=true↔0<no/\no<n),?_,?_⟩
  ·refine Aa (λ h=>⟨_,rfl,rfl,by simp;omega⟩) (λ h=>⟨_,rfl,rfl,by simp;omega⟩)
  rintro _ w4 ⟨t,aA,rfl,ht⟩;cases aA;refine Aq (λ h=>?_) (λ h=>?_)
  ·obtain⟨hm1,pG⟩:=ht.1 h;obtain⟨sz,ao⟩:∃ sz,sz=Dl n 1:=⟨_,rfl⟩;have xP:sz=(n+7) / 8:=by rw [ao];unfold Dl;rw [Aiw]
   have uO:IntKind.i64.wrap (Ai8 (IntKind.i64.wrap (IntKind.i64.wrap (n:Int)+7)) 8)=(sz:Int):=by
    rw [wrap_i64 (n:=(n:Int)) Omg Omg,wrap_i64 (n:=(n:Int)+7) Omg Omg,Ai4 Omg,wrap_i64 Omg Omg];omega
   rw [uO,wrap_i64 (n:=(li.length:Int)-(aX:Int)) Omg Omg,wrap_i64 (n:=(n:Int)) Omg Omg];have dk:∀ K ls,EJ K ls li->∃ o,Mi K ls li aL aX o/\li.drop aX=AZ (AY ls) 1++o/\(AZ (AY ls) 1).length=sz:=by
    intro K ls hp;obtain⟨_,gU,o,q⟩:=hP2 K ls hp;have dA:=(cJ K ls hp).2.1;refine⟨o,q,?_,?_⟩
    ·rw [q.rest];unfold DB;rw [if_pos Omg]
    ·rw [BP,ao,dA];simp [AY]
   refine Aa (λ h=>bP B3 λ K ls hp=>?_) (λ aJ=>?_)
   ·obtain⟨o,_,e,e2⟩:=dk K ls hp;have:=congrArg List.length e;rw [AiT,Aiq] at this;omega
   rw [wrap_i64 (n:=(aX:Int)+(sz:Int)) Omg Omg];refine⟨⟨Omg,Omg,Omg⟩,?_⟩;rw [Ait,show ((aX:Int)+(sz:Int)).toNat=aX+sz by omega,Nat.add_sub_cancel_left];have lN:=(bF.grown B3).NQ aX (aX+sz) c 1 Omg;rw [Aiw,Aiw,Nat.add_sub_cancel_left,<- List.map_drop,<- AiV] at lN;have oI:((li.drop aX).take sz).length=sz:=by rw [Ajm,AiT];omega
   have hU:=F9 (c:=c-aX) lN (n:Int) 1 Omg;rw [oI] at hU;refine hU.mono ?_;rintro _ w7 ⟨_,rfl,xs,xa,xc,e,rfl,gq,B7,oQ,aH⟩;have C7:=Ac B3 B7;rw [Ait,show (1:Int).toNat=1 from rfl] at aH;have DN:∀ K ls,EJ K ls li->∃ o,Mi K ls li aL aX o/\li.drop (aX+sz)=o/\Gm (n:Int) 1/\QY ((li.drop aX).take sz) n 1/\BL ((li.drop aX).take sz) n 1=AY ls:=by
    intro K ls hp;obtain⟨o,q,e3,e4⟩:=dk K ls hp;have dA:=(cJ K ls hp).2.1;have an:(AY ls).length=n:=by rw [dA];simp [AY]
    have cZ:(li.drop aX).take sz=AZ (AY ls) 1:=by rw [e3,<- e4,List.take_left]
    have cp:=H0 (Sn ls);rw [an] at cp;rw [cZ];exact⟨o,q,by rw [<- e4,<- List.drop_drop,e3,List.drop_left],⟨Omg,Omg,Omg,Omg⟩,⟨by rw [BP,an],by rw [cp]⟩,cp⟩
   rcases aH with ⟨_,_,bU,rfl⟩ | ⟨hno2,rfl,he⟩
   ·have dE:xs.length=n:=by rw [bU,Cd]
    refine⟨_,_,_,_,rfl,Ai (λ h=>absurd rfl h) (λ _=>⟨aX+sz,xs,xa,xc,Osi,gq,C7,Omg,Omg,λ h=>absurd h Omg,λ K ls hp=>?_⟩)⟩;obtain⟨o,q,g1,_,_,g4⟩:=DN K ls hp;exact⟨λ _=>by rw [bU,g4],o,q,g1⟩
   ·refine⟨_,_,_,_,rfl,Ai (λ _=>bP C7 λ K ls hp=>?_) (λ h=>by rw [he] at h;split at h <;> cases h)⟩;obtain⟨o,_,_,g2,g3,_⟩:=DN K ls hp;exact hno2 ⟨g2,g3⟩
  ·have bh:¬ (0<no/\no<n):=λ hh=>by rw [ht.2 hh] at h;cases h
   refine⟨aX,Aio n 0,some ⟨bo,0,none⟩,n,by rw [List.length_replicate],?_,B3,by simp;omega,cW.2,λ _=>⟨rfl,rfl,jO⟩,λ K ls hp=>?_⟩
   ·have:=Rd.Al jO;rw [rep];exact this
   ·obtain⟨_,gU,o,q⟩:=hP2 K ls hp;have dA:=(cJ K ls hp).2.1;refine⟨λ aQ=>?_,o,q,?_⟩
    ·rw [Vl Omg,dA]
    ·rw [q.rest];unfold DB;rw [if_neg Omg];rfl
 rintro _ ab _ cb w6 ⟨bH,bits,_,_,aA,sJ,B6,an,uq,fU,oz⟩;cases aA;obtain⟨fin,dB⟩:∃ fin:List Nat,fin=(if no=n then Aio n 1 else bits):=⟨_,rfl⟩;have ct:fin.length=bits.length:=by
  rw [dB];split
  ·rename_i h;rw [(fU h).2.1];simp
  ·rfl
 have hPf:∀ K ls,EJ K ls li->fin=AY ls:=by
  intro K ls hp;rw [dB];split
  ·rename_i h;have dA:=(cJ K ls hp).2.1;have gU:=(hP2 K ls hp).2.1;rw [XL Omg,dA]
  ·rename_i h;exact (oz K ls hp).1 h
 refine⟨λ s w7=>∃ i:Nat,i<=bits.length/\s=[.int .i64 (CI (fin.take i):Int),.int .i64 (i:Int)]/\Below w.heap.size w w7/\((no=n/\Ak (λ k=>k=bo) w6 w7/\w7.heap[bo]?=some (.cells ⟨Aio i (.int .u64 1)++Aio (n-i) (.int .u64 0)⟩ 92 (0,0)))\/(no≠n/\w7=w6)),λ s _=>match s with
   | [_,.int _ i]=>bits.length-i.toNat
   | _=>0,⟨0,Omg,rfl,B6,?_⟩,?_⟩
 ·by_cases h:no=n
  ·exact .inl ⟨h,.refl _ _,by simpa using (fU h).2.2⟩
  ·exact .inr ⟨h,rfl⟩
 rintro _ _ w7 ⟨i,hi,aA,B7,aH⟩;cases aA;have xb:CI (fin.take i)<=1024:=by
  have h1:CI (fin.take i)<=(fin.take i).length:=AjU;rw [Ajm] at h1;omega
 refine Aa (λ aB=>?_) (λ aJ=>?_)
 ·have aD:i<bits.length:=Omg;have vp:i<fin.length:=Omg;have kT:no=n->bits.length=n:=λ h=>by rw [(fU h).2.1];simp
  refine⟨λ s w9=>s=[]/\Below w.heap.size w w9/\(∃ p,ab=some p/\w9.cell? (p.add (i*1))=some (.int .u64 (fin[i]:Int)))/\((no=n/\Ak (λ k=>k=bo) w6 w9/\w9.heap[bo]?=some (.cells ⟨Aio (i+1) (.int .u64 1)++Aio (n-(i+1)) (.int .u64 0)⟩ 92 (0,0)))\/(no≠n/\w9=w6)),?_,?_⟩
  ·refine Ap (λ heq=>⟨⟨Omg,aB⟩,?_⟩) (λ wT=>?_)
   ·have jd:no=n:=Omg;rcases aH with ⟨_,K7,gn⟩ | ⟨h,_⟩
    ·obtain⟨rfl,bg,_⟩:=fU jd;have hbn:=kT jd;rw [Ait];unfold Av;simp only;refine Un gn (p:=(⟨bo,0,none⟩:Addr).add (i*1)) (i:=i) (by rw [Ax];simp) (by show i<(_++_:List Value).length;simp;omega) λ w8 K8 kq=>?_;have e:(⟨Aio i (.int .u64 1)++Aio (n-i) (.int .u64 0)⟩:Array Value).setIfInBounds i (.int .u64 1)=⟨Aio (i+1) (.int .u64 1)++Aio (n-(i+1)) (.int .u64 0)⟩:=by
      apply Array.ext';simp only [Array.toList_setIfInBounds];rw [List.set_append_right _ _ Osi,List.length_replicate,Nat.sub_self,show n-i=(n-(i+1))+1 by omega,List.replicate_succ (n:=n-(i+1)),List.set_cons_zero,List.replicate_succ' (n:=i),Air];rfl
     rw [e] at kq;have zi:=K7.trans K8 (λ _ _ h=>h);refine⟨trivial,B7.trans (K8.below B7.size λ k hk he=>Omg),⟨_,rfl,?_⟩,.inl ⟨jd,zi,kq⟩⟩;have l8:fin[i]=1:=by
      have:fin[i]?=some 1:=by rw [dB,if_pos jd,List.getElem?_replicate,if_pos Omg]
      rw [Ajk vp] at this;exact Ajx this
     rw [l8];obtain⟨q,hq,hcq⟩:=Rd.Al kq i (.int .u64 1) (by
      show (Aio (i+1) (Value.int .u64 1)++Aio (n-(i+1)) (.int .u64 0))[i]?=_;rw [List.getElem?_append_left Osi,List.getElem?_replicate,if_pos Omg])
     cases hq;rw [Aiw];exact hcq
    ·exact absurd jd h
   ·have aQ:no≠n:=λ h=>wT Omg;rcases aH with ⟨h,_⟩ | ⟨_,rfl⟩
    ·exact absurd h aQ
    ·refine⟨rfl,B7,?_,.inr ⟨aQ,rfl⟩⟩;obtain⟨p,hp,cI⟩:=Gw sJ aD;refine⟨p,hp,?_⟩;have kP:fin=bits:=by rw [dB,if_neg aQ]
     have:fin[i]=bits[i]:=Tz kP (Ajk aD) vp;rw [this];exact cI
  rintro w9 ⟨_,B9,⟨pb,rfl,hcb⟩,jY⟩;refine⟨⟨Omg,aB⟩,_,by rw [Ait];exact hcb,?_⟩;have kU:=UB vp;have cP:bits.length-((i+1:Nat):Int).toNat<bits.length-((i:Nat):Int).toNat:=by
   simp only [Ait];omega
  rw [Ae Omg,Ae Omg];refine Ap (λ hz=>?_) (λ hz=>?_)
  ·rw [if_pos Omg] at kU;exact⟨⟨i+1,Omg,by rw [kU],B9,jY⟩,cP⟩
  ·rw [if_neg Omg] at kU;exact⟨⟨i+1,Omg,by rw [kU];rfl,B9,jY⟩,cP⟩
 have hib:i=bits.length:=Omg;have cZ:fin.take i=fin:=AiZ Omg;rw [cZ];have hRf:Rd w7 ab (fin.map EI):=by
  rcases aH with ⟨heq,K7,gn⟩ | ⟨aQ,rfl⟩
  ·obtain⟨rfl,bg,_⟩:=fU heq;have cG:i=n:=by rw [hib,bg];simp
   rw [cG,Nat.sub_self,List.replicate_zero,List.append_nil] at gn;have:=Rd.Al gn;rw [dB,if_pos heq,rep];exact this
  ·rw [dB,if_neg aQ];exact sJ
 refine⟨⟨Omg,Omg,Omg⟩,?_⟩;rw [Ait,<- AiT (i:=bH) (l:=li)];have iP:=I6 (q:=bH) (bF.grown B7) wJ;have hF:=R0 (cb:=cb) kd hRf iP (by rw [AiT];omega:(li.drop bH).length<=c-bH) (by rw [AiT];omega) Omg rfl;rw [ct] at hF;refine hF.mono ?_;rintro _ bX ⟨_,rfl,vs,xx,yA,ok,rfl,rj,bu,iY,gX,hD⟩;have mN:=Ac B7 bu;have gA:∀ K ls,EJ K ls li->ok=true/\vs=ls:=by
  intro K ls hp;obtain⟨_,o,q,ho⟩:=oz K ls hp;have hk:=eP K ls hp;refine hD ls (by rw [hk];exact hp.DN) (hPf K ls hp) (λ h=>?_) (λ h=>?_)
  ·rw [hk,ho];exact q.oth h
  ·rw [ho];exact q.none h
 refine⟨_,_,_,_,rfl,As (Aq (λ aK=>?_) (λ aK=>bP mN λ K ls hp=>?_))⟩
 case refine_2 =>
  have:=(gA K ls hp).1;rw [this] at aK;cases aK
 refine (JN kd rj.rd Omg gX).mono ?_;rintro _ aZ ⟨_,rfl,mj⟩;obtain⟨ij,pU,pg,e11,rfl,tR,cH,q11⟩:=mj.open;have jA:=Ac mN cH;refine⟨_,_,_,_,rfl,?_⟩;rcases q11 with ⟨hr,hI,rfl⟩ | ⟨hr,rfl,rfl⟩
 ·refine Ai (λ h=>absurd rfl h) (λ _=>Aw Ca rfl tR ⟨_,rfl,Aw Ca rfl (hl.grown jA) ⟨_,rfl,?_⟩⟩);rw [AU];refine As (Aa (λ he=>?_) (λ he=>PE.bad jA λ K' cE hg hC=>?_))
  ·have kO:ij=l:=by have:=congrArg bl he;rwa [Bn,Bn] at this
   subst kO;refine⟨kd,vs,xx,yA,0,rfl,(rj.before B7).grown cH,jA,iY,.inl ⟨⟨hr,gX⟩,hI,rfl,λ K' cE hg hC=>?_⟩⟩;have hp:=sI K' cE hg hC;exact⟨(eP K' cE hp).symm,((gA K' cE hp).2).symm⟩
  ·have hp:=sI K' cE hg hC;obtain rfl:=eP K' cE hp;obtain rfl:=(gA _ cE hp).2;exact he (by rw [hI.one hC])
 ·refine Ai (λ _=>PE.bad jA λ K' cE hg hC=>?_) (λ h=>absurd h Ode);have hp:=sI K' cE hg hC;obtain rfl:=eP K' cE hp;obtain rfl:=(gA _ cE hp).2;rw [hg.right] at hr;cases hr
end
abbrev BH:=Option Addr × Nat × List AD
def Co(p:BH):Value:=.slice p.1 p.2.2.length p.2.1
abbrev rws(ps:List BH):List (List AD):=ps.map (·.2.2)
structure A9(w:World)(a:Option Addr)(ps:List BH):Prop where
 top:Rd w a (ps.map Co)
 each:∀ p∈ps,Rd w p.1 (AR p.2.2)
theorem A9.grown{w w':World}{a:Option Addr}{ps:List BH}(h:A9 w a ps)(B:Below w.heap.size w w'):A9 w' a ps:=⟨h.top.grown B,λ p hp=>(h.each p hp).grown B⟩
theorem A9.at{w:World}{a:Option Addr}{ps:List BH}(h:A9 w a ps){i:Nat}(hi:i<ps.length):∃ q,a=some q/\w.cell? (q.add (i*1))=some (.slice ps[i].1 ps[i].2.2.length ps[i].2.1)/\Rd w ps[i].1 (AR ps[i].2.2):=by
 obtain⟨q,hq,hc⟩:=h.top i (Co ps[i]) (by simp [hi]);exact⟨q,hq,by rw [Aiw];exact hc,h.each _ (Ai7 hi)⟩
def Bt(rows:List (List AD))(c:Nat):List AD:=rows.map λ r=>r.getD c Z0
theorem FW(rows:List (List AD))(c:Nat):(Bt rows c).length=rows.length:=by simp [Bt]
theorem Tj(ps:List BH){c i:Nat}(hi:i<ps.length)(hc:c<ps[i].2.2.length):Bt (rws (ps.take (i+1))) c=Bt (rws (ps.take i)) c++[ps[i].2.2[c]]:=by
 unfold Bt rws;rw [Ajl hi,List.map_append,List.map_append];simp only [List.map_cons,List.map_nil,List.getD,Ajk hc,Option.getD_some]
def Lx(a:Option Addr)(c:Nat)(vs:List AD):It:=It.row 120 3 a vs.length c (AR vs)
section
variable {w0 w:World}{H:List It}{a:Option Addr}{c:Nat}{vs:List AD}
theorem AeA(S:ST w0 w H)(n:Nat)(hn:H[n]?=some (Lx a c vs)):Rd w a (AR vs):=S.rd n hn
theorem Xe(S:ST w0 w H)(n:Nat){t:TypeId}(ht:Me Tryz.prog t=some (120,3,32,.agg #[.int .i64 0,.int .i64 0,.string ⟨#[]⟩]))(hn:H[n]?=some (Lx a c vs)){x:AD}{b:Nat}(hs:Rd w (some ⟨b,0,none⟩) (HG x))(hl:vs.length+1<=1000000){f:Value->World->Prop}
  (hf:∀ a' c' w',ST w0 w' (H.set n (Lx a' c' (vs++[x])))->f (.slice a' (vs++[x]).length c') w') :
  De Tryz.prog (Builtin.append_ #[t,t] t #[.slice a vs.length c,.slice (some ⟨b,0,none⟩) 1 1]) f w:=by
 refine S.app n hn ht rfl Omg Omg hs (mm:=1) rfl (by simp [HG];exact⟨rfl,rfl,rfl⟩) Omg λ a' c' w' S'=>?_;have e1:(vs++[x]).length=vs.length+1:=Osi;have e2:AR vs++HG x=AR (vs++[x]):=by simp [AR]
 rw [e2] at S';have:=hf a' c' w' (by unfold Lx;rw [e1];exact S');rwa [e1] at this
end
section
variable {w:World}{a:Option Addr}{c:Nat}{ps:List BH}
theorem Sa(hr:A9 w a ps)(hn:ps.length<=900000){k:Nat}(hk:∀ p∈ps,k<p.2.2.length) :
  Cw 108 #[.slice a ps.length c,.int .i64 (k:Int)] w λ v w'=>∃ a' c',v=.slice a' (Bt (rws ps) k).length c'/\ST w w' [Lx a' c' (Bt (rws ps) k)]:=by
 apply Nt
 delta Ad F I J Ks Li Ls Lt N O Eg S T W X;try dsimp only [Ps]
 refine⟨λ s w1=>∃(i:Nat) (oa:Option Addr) (oc:Nat) (os:List AD),s=[.slice oa os.length oc,.int .i64 (i:Int)]/\i<=ps.length/\os=Bt (rws (ps.take i)) k/\ST w w1 [Lx oa oc os],λ s _=>match s with
   | [_,.int _ i]=>ps.length-i.toNat
   | _=>0,⟨0,none,0,[],rfl,Omg,rfl,(ST.start w).nil _ _⟩,?_⟩
 rintro oa _ oc _ w1 ⟨i,_,_,os,aA,hi,ho,S⟩;cases aA;have cC:os.length=i:=by rw [ho,FW];simp;omega
 refine Aa (λ aB=>⟨⟨Omg,aB⟩,?_⟩) (λ aJ=>?_)
 ·have aD:i<ps.length:=Omg;have aO:=hk _ (Ai7 aD);obtain⟨q,rfl,hq,hv⟩:=(hr.grown S.Ar).at aD;obtain⟨p,hp,c0,c1,c2⟩:=Db hv aO;refine⟨_,_,_,by rw [Ait];exact hq,⟨Omg,Omg⟩,?_⟩;rw [hp];refine⟨_,by rw [Ait];exact c0,_,by rw [Ait];exact c1,_,by rw [Ait];exact c2,S.An λ dv w2 _ _ S=>?_⟩;have aY:Rd w2 (some ⟨dv,0,none⟩) (HG ps[i].2.2[k]):=S.F0 0 rfl;refine Xe S 1 Abr rfl aY Omg λ a3 c3 w3 S=>⟨_,_,_,rfl,?_⟩;rw [Ae Omg];refine⟨⟨i+1,a3,c3,_,rfl,Omg,by rw [Tj ps aD aO,ho],S.drop 1⟩,?_⟩;show ps.length-((i+1:Nat):Int).toNat<ps.length-((i:Nat):Int).toNat;simp only [Ait];omega
 ·rw [AiZ Omg] at ho;subst ho;exact⟨oa,oc,rfl,S⟩
theorem Lk{a2:Option Addr}{c2 n:Nat}:Cw 151 #[.slice a2 n c2,.slice a ps.length c] w λ v w'=>∃ b1 b2,v=.func (.func 189) #[] #[.pointer (some ⟨b1,0,none⟩),.pointer (some ⟨b2,0,none⟩)] /\
  ST w w' [It.cells b2 #[.slice a ps.length c] 35,It.cells b1 #[.slice a2 n c2] 27]:=by
 apply IQ
 delta J N P S;try dsimp only [Ps]
 exact (ST.start w).An λ b1 w1 _ _ S1=>S1.An λ b2 w2 _ _ S2=>⟨b1,b2,rfl,S2⟩
theorem RC{L b1 b2 n c2:Nat}{a2:Option Addr}(hn:n<=9223372036854775807)(hm:ps.length<=900000)(hk:∀ p∈ps,p.2.2.length=n)(J:Nat->World->Prop)(cm:∀ k w,J k w->A9 w a ps/\w.cell? ⟨b2,0,none⟩=some (.slice a ps.length c))
  (cA:∀ k w w',J k w->Below w.heap.size w w'->J k w') (af:∀ k w la lc,k<n->J k w->Rd w la (AR (Bt (rws ps) k))->N0 Tryz.prog L #[.int .i64 (k:Int),.slice la ps.length lc] (λ y w'=>y=true/\J (k+1) w') w)
  (h0:J 0 w) (hb:w.cell? ⟨b1,0,none⟩=some (.slice a2 n c2)) :
  Cw 189 #[.func (.yield L) #[] #[],.pointer (some ⟨b1,0,none⟩),.pointer (some ⟨b2,0,none⟩)] w λ _ w'=>J n w':=by
 apply HC
 delta A Ad F H I J Ks Li Ls Lt N O Qi Eg S T W X;try dsimp only [Ps]
 refine⟨_,_,_,hb,λ s w1=>∃ k:Nat,k<=n/\s=[.int .i64 (k:Int)]/\J k w1,λ s _=>match s with
   | [.int _ i]=>n-i.toNat
   | _=>0,⟨0,Omg,rfl,h0⟩,?_⟩
 rintro _ w1 ⟨k,sW,aA,hj⟩;cases aA;refine Aa (λ aB=>?_) (λ aJ=>?_)
 ·have aO:k<n:=Omg;refine⟨_,_,_,(cm _ _ hj).2,?_⟩;refine⟨λ s w2=>∃(i:Nat) (oa:Option Addr) (oc:Nat) (os:List AD),s=[.slice oa os.length oc,.int .i64 (i:Int)]/\i<=ps.length/\os=Bt (rws (ps.take i)) k/\ST w1 w2 [Lx oa oc os],λ s _=>match s with
   | [_,.int _ i]=>ps.length-i.toNat
   | _=>0,⟨0,none,0,[],rfl,Omg,rfl,(ST.start w1).nil _ _⟩,?_⟩
  rintro oa _ oc _ w2 ⟨i,_,_,os,aA,hi,ho,S⟩;cases aA;have cC:os.length=i:=by rw [ho,FW];simp;omega
  refine Aa (λ aB=>⟨⟨Omg,aB⟩,?_⟩) (λ aJ=>?_)
  ·have aD:i<ps.length:=Omg;have dj:k<ps[i].2.2.length:=by rw [hk _ (Ai7 aD)];exact aO
   obtain⟨q,rfl,hq,hv⟩:=((cm _ _ hj).1.grown S.Ar).at aD;obtain⟨p,hp,c0,c1,c2⟩:=Db hv dj;refine⟨_,_,_,by rw [Ait];exact hq,⟨Omg,Omg⟩,?_⟩;rw [hp];refine⟨_,by rw [Ait];exact c0,_,by rw [Ait];exact c1,_,by rw [Ait];exact c2,S.An λ dv w2 _ _ S=>?_⟩;have aY:Rd w2 (some ⟨dv,0,none⟩) (HG ps[i].2.2[k]):=S.F0 0 rfl;refine Xe S 1 Abr rfl aY Omg λ a3 c3 w3 S=>⟨_,_,_,rfl,?_⟩;rw [Ae Omg];refine⟨⟨i+1,a3,c3,_,rfl,Omg,by rw [Tj ps aD dj,ho],S.drop 1⟩,?_⟩;show ps.length-((i+1:Nat):Int).toNat<ps.length-((i:Nat):Int).toNat;simp only [Ait];omega
  ·have bK:i=ps.length:=Omg;rw [AiZ Omg] at ho;subst ho;rw [cC,bK,Ae Omg];refine (af k w2 oa oc aO (cA _ _ _ hj S.Ar) (AeA S 0 rfl)).mono ?_;rintro y w3 ⟨rfl,h⟩;refine AN ⟨⟨k+1,Omg,rfl,h⟩,?_⟩;show n-((k+1:Nat):Int).toNat<n-((k:Nat):Int).toNat;simp only [Ait];omega
 ·have:k=n:=Omg;subst this;exact hj
end
structure Br(cs:List Bv)(rows:List (List AD)):Prop where
 right:Ao cs=true
 len:rows.length<=1024
 fits:∀ r∈rows,CT cs r=true
 ok:∀ r∈rows,∀ v∈r,BM v
section
variable {cs:List Bv}{rows:List (List AD)}
theorem IB{r:List AD}(h:CT cs r=true):r.length=cs.length:=by
 simp only [CT,Ah1,decide_eq_true_eq] at h;exact h.1
theorem Sp{r:List AD}(h:CT cs r=true){k:Nat}(h1:k<cs.length)(h2:k<r.length):Gu cs[k] r[k]=true:=by
 simp only [CT,Ah1,UN,List.all_eq_true] at h;exact h.2 (cs[k],r[k]) (List.mem_iff_getElem.2 ⟨k,by simp;omega,Osi⟩)
theorem Br.Ud(h:Br cs rows){r:List AD}(hr:r∈rows):r.length=cs.length:=IB (h.fits r hr)
theorem Br.DN(h:Br cs rows){k:Nat}(hk:k<cs.length):Bb cs[k].2.1 (Bt rows k):=by
 have key:∀ v∈Bt rows k,okV cs[k].2.1 v=true/\BM v:=by
  intro v hv;obtain⟨r,hr,rfl⟩:=List.mem_map.1 hv;have hl:=h.Ud hr;have pE:k<r.length:=Omg;have e:r.getD k Z0=r[k]:=by simp [List.getD,pE]
  rw [e];refine⟨?_,h.ok r hr _ (Ai7 pE)⟩;have:=Sp (h.fits r hr) hk pE;simp only [Gu,Ah1,Bool.or_eq_true,decide_eq_true_eq] at this;simp only [okV,Ah1,Bool.or_eq_true,decide_eq_true_eq];exact⟨this.1,this.2.imp id λ h=>h.2⟩
 obtain⟨_,h1,h2,_⟩:=CX h.right (Ai7 hk);refine⟨?_,λ v hv=>(key v hv).2⟩;have h3:(Bt rows k).all (okV cs[k].2.1)=true:=List.all_eq_true.2 λ v hv=>(key v hv).1;have h4:1<=cs[k].2.1/\cs[k].2.1<=3/\(Bt rows k).length<=1024:=⟨h1,h2,by rw [FW];exact h.len⟩;simp [DF,h3,h4]
end
theorem AfR{P:AD->Prop}{ls:List AD}(h0:P Z0)(h:∀ v∈ls,P v):P (FM ls).1/\P (FM ls).2:=by
 have key:∀ i,i<=ls.length->∀ p,LC (ls.take i)=some p->P p.1/\P p.2:=by
  intro i
  induction i with
  | zero=>intro _ p hp;simp [LC] at hp
  | succ i ih =>
   intro hi p hp;have aD:i<ls.length:=Omg;have hm:=h _ (Ai7 aD);rw [JC aD] at hp;unfold Wk at hp;split at hp
   ·exact ih Omg p hp
   ·split at hp
    ·cases hp;exact⟨hm,hm⟩
    ·rename_i q hq;obtain⟨q1,q2⟩:=ih Omg q hq;cases hp;refine⟨?_,?_⟩
     ·show P (if _ then _ else _);split
      ·exact hm
      ·exact q1
     ·show P (if _ then _ else _);split
      ·exact hm
      ·exact q2
 unfold FM;cases hz:LC ls with
 | none=>exact⟨h0,h0⟩
 | some p =>
  have:=key ls.length (Nat.le_refl _) p (by rw [List.take_length];exact hz);exact this
theorem Bb.Aem{k:Int}{ls:List AD}(h:Bb k ls):∀ v∈ls,AK v=true/\BM v:=by
 intro v hv;have:=h.all v hv;simp only [okV,Ah1] at this;exact⟨this.1,h.ok v hv⟩
theorem Bb.AaH{k:Int}{ls:List AD}(h:Bb k ls):(AK (FM ls).1=true/\BM (FM ls).1)/\(AK (FM ls).2=true/\BM (FM ls).2) :=
 AfR (P:=λ v=>AK v=true/\BM v) ⟨Ode,Zt Ode Ode⟩ h.Aem
theorem Bb.GD{k:Int}{ls:List AD}(h:Bb k ls):GD ls:=⟨h.len,λ v hv=>(h.Aem v hv).1⟩
theorem Ho{v:AD}(h:AK v=true)(hv:BM v):(Cr v).length<=1040:=by
 unfold Cr;split
 ·have:=Ah (FE hv.lo hv.hi);simp only [Ais];omega
 ·split
  ·simp
  ·split
   ·rename_i h3;have hs:v.2.2.size<=1024:=by
     rcases F3 h with h | h | ⟨h,_⟩ | ⟨_,h⟩
     ·omega
     ·omega
     ·omega
     ·exact h
    have:=QW hs;simp only [Ais];omega
   ·simp
theorem J4.len{k:Int}{ls:List AD}{b:List UInt8}(hg:Bb k ls)(h:J4 k ls b):b.length<=2000300:=by
 obtain⟨o,h1,h2,rfl⟩:=h.ex;have hs:∀ x,(Uo x).length=4:=λ x=>rfl;have e1:=Qa hg;have e2:=II hg;have e3:o.length<=2000000:=by
  by_cases hn:Au ls<ls.length
  ·exact (h1 hn).len hg
  ·rw [h2 hn];simp
 simp only [Aiq,hs];omega
def KJ(n:Nat):List UInt8:=[Aiz (n % 256),Aiz (n / 256 % 256),Aiz (n / 65536 % 256),Aiz (n / 16777216 % 256)]
def Cg:List UInt8:=[83,89,68,49]
def JI(x:List UInt8)(l:List AD):List UInt8:=Af x.length++Af (Au l)++Cr (FM l).1++Cr (FM l).2
def Cm(rows:List (List AD))(xs:List (List UInt8)):List UInt8:=(xs.mapIdx λ i x=>JI x (Bt rows i)).flatten
theorem Q7(rows:List (List AD))(xs:List (List UInt8))(x:List UInt8):Cm rows (xs++[x])=Cm rows xs++JI x (Bt rows xs.length):=by
 unfold Cm;rw [List.mapIdx_concat];simp
def Dy(cs:List Bv)(rows:List (List AD))(xs:List (List UInt8)):List UInt8:=Cx cs++Af rows.length++Cm rows xs
def JX(cs:List Bv)(rows:List (List AD))(xs:List (List UInt8)):List UInt8:=Cg++xs.flatten++Dy cs rows xs++KJ (Dy cs rows xs).length
def Lh(p:List UInt8):List UInt8:=p++H9 p
structure Ed(cs:List Bv)(rows:List (List AD))(xs:List (List UInt8)):Prop where
 len:xs.length<=cs.length
 each:∀ i (h1:i<cs.length) (h2:i<xs.length),J4 cs[i].2.1 (Bt rows i) xs[i]
theorem Ed.nil(cs:List Bv)(rows:List (List AD)):Ed cs rows []:=⟨Osi,λ i _ h=>by simp at h⟩
theorem Ed.snoc{cs:List Bv}{rows:List (List AD)}{xs:List (List UInt8)}(h:Ed cs rows xs){x:List UInt8}(h1:xs.length<cs.length)(hx:J4 cs[xs.length].2.1 (Bt rows xs.length) x):Ed cs rows (xs++[x]):=by
 refine⟨by simp;omega,λ i g1 g2=>?_⟩;rcases Nat.lt_or_ge i xs.length with h3 | h3
 ·rw [List.getElem_append_left h3];exact h.each i g1 h3
 ·have:i=xs.length:=by simp at g2;omega
  subst this;simp only [List.getElem_concat_length];exact hx
theorem Ed.one{cs:List Bv}{rows:List (List AD)}{xs ys:List (List UInt8)}(h:Ed cs rows xs)(h':Ed cs rows ys)(hl:xs.length=ys.length):xs=ys:=by
 refine List.ext_getElem hl λ i h1 h2=>?_;have:=h.len;exact (h.each i Omg h1).one (h'.each i Omg h2)
theorem Tu{xs:List (List UInt8)}{m:Nat}(h:∀ x∈xs,x.length<=m):xs.flatten.length<=xs.length*m:=by
 induction xs with
 | nil=>simp
 | cons x xs ih =>
  have h1:=h x Osi;have h2:=ih λ y hy=>h y (by simp [hy]);simp only [List.flatten_cons,Aiq,Ais,Nat.add_mul];omega
theorem Ab9{k:Int}{x:List UInt8}{l:List AD}(hg:Bb k l)(hx:x.length<=2000300):(JI x l).length<=2100:=by
 have h1:=Ah (n:=x.length) Omg;have h2:=Ah (n:=Au l) (by have:=CW l;have:=hg.len;omega);have h3:=Ho hg.AaH.1.1 hg.AaH.1.2;have h4:=Ho hg.AaH.2.1 hg.AaH.2.2;simp only [JI,Aiq];omega
section
variable {cs:List Bv}{rows:List (List AD)}{xs:List (List UInt8)}
theorem Ed.lens(h:Ed cs rows xs)(hs:Br cs rows):∀ x∈xs,x.length<=2000300:=by
 intro x hx;obtain⟨i,hi,rfl⟩:=List.getElem_of_mem hx;have:=h.len;exact (h.each i Omg hi).len (hs.DN Omg)
theorem Ed.flat(h:Ed cs rows xs)(hs:Br cs rows):xs.flatten.length<=33000000:=by
 have h1:=Tu (h.lens hs);have h2:=h.len;have h3:=AX hs.right;have:xs.length*2000300<=16*2000300:=Nat.mul_le_mul_right _ Omg;omega
theorem Ed.AdM(h:Ed cs rows xs)(hs:Br cs rows):(Cm rows xs).length<=34000:=by
 have h1:(Cm rows xs).length<=(xs.mapIdx λ i x=>JI x (Bt rows i)).length*2100:=by
  refine Tu λ x hx=>?_;obtain⟨i,hi,rfl⟩:=List.mem_mapIdx.1 hx;have:=h.len;exact Ab9 (hs.DN (by omega:i<cs.length)) (h.lens hs _ (Ai7 hi))
 rw [List.length_mapIdx] at h1;have h2:=h.len;have h3:=AX hs.right;omega
theorem Ed.Sq(h:Ed cs rows xs)(hs:Br cs rows):(Dy cs rows xs).length<=35000:=by
 have h1:=h.AdM hs;have h2:=Fy hs.right;have h3:=Ah (n:=rows.length) (by have:=hs.len;omega);simp only [Dy,Aiq];omega
theorem Ed.Aam(h:Ed cs rows xs)(hs:Br cs rows):(JX cs rows xs).length<=34000000:=by
 have h1:=h.Sq hs;have h2:=h.flat hs;simp only [JX,Aiq,Cg,KJ,Ais,List.length_nil];omega
end
structure Ej(cs:List Bv)(rows:List (List AD))(b:List UInt8):Prop where
 ex:∃ xs,xs.length=cs.length/\Ed cs rows xs/\b=Lh (JX cs rows xs)
theorem Ej.one{cs:List Bv}{rows:List (List AD)}{b b':List UInt8}(h:Ej cs rows b)(h':Ej cs rows b'):b=b':=by
 obtain⟨xs,h1,h2,rfl⟩:=h.ex;obtain⟨ys,k1,k2,rfl⟩:=h'.ex;rw [h2.one k2 Omg]
def DW(cs:List Bv)(rows:List (List AD)):Int:=if Ao cs=false then 50 else if 1024<rows.length\/∃ r∈rows,CT cs r=false then 51 else 0
def AbP(cs:List Bv)(rows:List (List AD))(v:Value):Prop :=
 (¬ Br cs rows/\v=.tuple #[.string ⟨#[]⟩,.int .i64 (DW cs rows)]/\DW cs rows≠0)\/(Br cs rows/\∃ b,v=.tuple #[.string (Bu b),.int .i64 0]/\Ej cs rows b)
end Go.Proofs.YtpnaifmmggnimaaGreatDoor
namespace Go.Dn
set_option linter.unusedVariables false
set_option maxRecDepth 100000
open Go.RowKit (Below)
theorem XS{P:Program}{bt el:TypeId}(hb:P.underlying bt=some (.slice el))(he:P.underlying el=some (.int .u8)){w:World}{b n c:Nat}{cs:Array Value}{e:TypeId}(hg:w.heap[b]?=some (.cells cs e (0,0))){f:Value->World->Prop}
  (hf:∀ w',Ak (·=b) w w'->w'.heap[b]?=some (.cells cs e (cs.size,cs.size+1))->f (.slice (some ⟨b,0,none⟩) n c) w'):De P (convert bt bt (.slice (some ⟨b,0,none⟩) n c)) f w:=by
 have gW:w.shape? b=some (e,cs.size):=by simp [World.shape?,hg]
 have jo:(markStringish ⟨b,0,none⟩).run P w=.ok () (w.freeze ⟨b,cs.size,none⟩ 1):=by simp [markStringish,gW]
 have aG:(convert bt bt (.slice (some ⟨b,0,none⟩) n c)).run P w=.ok (.slice (some ⟨b,0,none⟩) n c) (w.freeze ⟨b,cs.size,none⟩ 1):=by
  simp only [convert,Sem.run_bind,run_underlying hb,run_underlying he,Result.andThen_ok,beq_self_eq_true,jo,Sem.run_pure]
 unfold De;rw [aG];refine hf _ (Oz (·=b) w ⟨b,cs.size,none⟩ 1 rfl) ?_;unfold World.freeze;simp [Array.getElem?_modify,hg]
theorem XF{P:Program}{t ty e:TypeId}{sz bytes:Nat}{z:Value}(hT:Me P t=some (e,sz,bytes,z))(hz:z.cells.size=sz)(ao:0<sz)(bZ:0<bytes)
  {w:World} {p:Addr} {n c:Nat} {xs:List Value} (hr:Rd w (some p) xs) (dE:xs.length=n*sz) {b:Option Addr} {m mc:Nat} {news:List Value} (hs:Rd w b news) (hl:news.length=m*sz) (hm:0<m)
  (hc:c<n+m) (_hnc:n<=c) (df:(n+m)*bytes<=140737488355328) :
  ∃ a' c' w',(Builtin.append_ #[t,t] ty #[.slice (some p) n c,.slice b m mc]).run P w=.ok (.slice a' (n+m) c') w'/\Row w' e sz a' (n+m) c' (xs++news)/\Below w.heap.size w w'/\(∀ k,AF a'=some k->w.heap.size<=k):=by
 obtain⟨hu,i,hi,hiz,rfl,rfl⟩:=Pm hT;have cB:n+m<=140737488355328:=Nat.le_trans (Nat.le_mul_of_pos_right _ bZ) df;have hlen:(xs++news).length=(n+m)*i.size:=by rw [List.length_append,dE,hl,Nat.add_mul]
 have h0:0<news.length:=by rw [hl];exact Nat.mul_pos hm ao
 obtain⟨q,rfl,_⟩:=hs 0 news[0] (List.getElem?_eq_getElem h0);have hq:∀ j u,news[j]?=some u->w.cell? (q.add j)=some u:=by
  intro j u hu;obtain⟨q',lH,hc⟩:=hs j u hu;cases lH;exact hc
 have hold:∀ j v,xs[j]?=some v->w.cell? (p.add j)=some v:=by
  intro j v hv;obtain⟨q',lH,hc⟩:=hr j v hv;cases lH;exact hc
 have aJ:=grownCap_ge w (n+m) c e;have j':grownCap w (n+m) c e<=maxLen:=grownCap_le_maxLen w (n+m) c e (by unfold maxLen;omega);have aG:=run_append_grow (P:=P) w t ty e i z hu hi hiz p n c xs dE hold q m mc news hl hq Omg Omg (growslice_fits Omg df);refine⟨_,_,_,aG,⟨hlen,.inr ⟨w.heap.size,_,rfl,heap_alloc_new w.drew _,aJ,by unfold maxLen at j';omega,?_,?_⟩⟩,((Below.refl _ w).drew).alloc (Nat.le_refl _) _,λ k hk=>?_⟩
 ·simp only [Array.size_append,List.size_toArray,size_zeroCells,hz,dE,hl,<- Nat.add_mul];congr 1;omega
 ·simp only [Array.toList_append,List.append_assoc];rw [<- List.append_assoc,<- hlen];exact List.take_left
 ·simp [AF] at hk;omega
def It.buf(e:TypeId)(sz:Nat)(a:Option Addr)(n c:Nat)(xs:List Value):It where
 CA:=AF a
 ok:=λ w=>Row w e sz a n c xs\/(∃ p,a=some p/\c=n/\Rd w a xs/\xs.length=n*sz/\p.block<w.heap.size)
 st:=λ w w' h h0=>by
  rcases h0 with h0 | ⟨p,rfl,h1,h2,h3,h4⟩
  ·exact .inl ((It.row e sz a n c xs).st w w' h h0)
  ·refine .inr ⟨p,rfl,h1,?_,h3,?_⟩
   ·intro j v hv;obtain⟨q,hq,hc⟩:=h2 j v hv;cases hq;exact⟨p,rfl,by rw [World.cell?_of_block (w:=w) (by rw [Dv];exact h p.block rfl)];exact hc⟩
   ·have:=h p.block rfl;rw [Array.getElem?_eq_getElem h4] at this;exact (Array.getElem?_eq_some_iff.1 this).1
 lt:=λ w h k hk=>by
  rcases h with h | ⟨p,rfl,_,_,_,h4⟩
  ·exact h.lt hk
  ·cases hk;exact h4
section
variable {w0 w:World}{H:List It}
theorem ST.AhB(S:ST w0 w H)(n:Nat){P:Program}{t ty e:TypeId}{sz bytes:Nat}{z:Value}{a:Option Addr}{m c:Nat}{xs:List Value}(hn:H[n]?=some (It.buf e sz a m c xs))(hT:Me P t=some (e,sz,bytes,z))(hz:z.cells.size=sz)(ao:0<sz)(bZ:0<bytes)
  {b:Option Addr} {mm mc:Nat} {news:List Value} (hs:Rd w b news) (hl:news.length=mm*sz) (jr:0<mm) (h1:∀ u∈news,u.oneCell'=true) (df:(m+mm)*bytes<=140737488355328) {f:Value->World->Prop}
  (hf:∀ a' c' w',ST w0 w' (H.set n (It.row e sz a' (m+mm) c' (xs++news)))->f (.slice a' (m+mm) c') w'):De P (Builtin.append_ #[t,t] ty #[.slice a m c,.slice b mm mc]) f w:=by
 rcases S.get n hn with h | ⟨p,rfl,rfl,h2,h3,h4⟩
 ·obtain⟨a',c',w',aG,aI,hk,ax⟩:=BV (ty:=ty) (mc:=mc) hT hz ao bZ h hs hl h1 df;unfold De;rw [aG];exact hf a' c' w' (S.H7 n hn hk _ aI ax)
 ·obtain⟨a',c',w',aG,aI,hB,ax⟩:=XF (ty:=ty) (mc:=mc) hT hz ao bZ h2 h3 hs hl jr Omg (Nat.le_refl _) df;unfold De;rw [aG];exact hf a' c' w' (S.H7 n hn (Ak.AB hB) _ aI (λ k hk=>.inr (ax k hk)))
theorem ST.rdF(S:ST w0 w H)(n:Nat){e:TypeId}{sz:Nat}{a:Option Addr}{m c:Nat}{xs:List Value}(hn:H[n]?=some (It.buf e sz a m c xs)):Rd w a xs:=by
 rcases S.get n hn with h | ⟨p,rfl,rfl,h2,h3,h4⟩
 ·exact h.rd
 ·exact h2
end
end Go.Dn
