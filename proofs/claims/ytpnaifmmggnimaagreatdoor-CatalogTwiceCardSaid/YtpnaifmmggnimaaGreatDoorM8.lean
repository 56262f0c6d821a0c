/-
  Texts of this claim, laid one behind the other by a program of mine (install.py): G.CmpL, G.Ch6, G.Ch7, G.Ch8, G.Ch9, G.Ch11, G.Ch12, G.ChgE, G.IntsH, G.IntsI, G.Ch13, G.Ch14, G.Seg1, G.Seg2, Dn.Lit.
-/
import Derived.Test.YtpnaifmmggnimaaGreatDoorM7
import Derived.Test.YtpnaifmmggnimaaGreatDoorM4
import Derived.Test.YtpnaifmmggnimaaGreatDoorM6
namespace Go.Dn
end Go.Dn
namespace Go.Proofs.YtpnaifmmggnimaaGreatDoor
open _root_.UInt8 renaming lt_irrefl -> AmB
open Go.Dn Go.Proofs
open Go.RowKit (Below)
set_option linter.unusedVariables false
set_option maxRecDepth 20000
/-! ### orders -/
structure O2{α:Type}(f:α->α->Int):Prop where
 neg:∀ x y,f y x =-f x y
 zero:∀ x y,f x y=0↔x=y
 trans:∀ x y z,f x y<=0->f y z<=0->f x z<=0
theorem O2.strict{α:Type}{f:α->α->Int}(h:O2 f)(x y z:α)(h1:f x y<0)(h2:f y z<=0):f x z<0:=by
 have h3:=h.trans x y z (by omega) h2;rcases Int.lt_or_eq_of_le h3 with h4 | h4
 ·exact h4
 ·have:=(h.zero x z).1 h4;subst this;have:=h.neg x y;omega
theorem PI:O2 Dk:=by
 refine⟨λ x y=>?_,λ x y=>?_,λ x y z=>?_⟩
 ·unfold Dk;split <;> split <;> (try split) <;> (try split) <;> omega
 ·unfold Dk;split
  ·constructor <;> intro h <;> omega
  ·split
   ·constructor <;> intro h <;> omega
   ·constructor <;> intro h <;> omega
 ·unfold Dk;intro h1 h2;split at h1 <;> split at h2 <;> split <;> (try split at h1) <;> (try split at h2) <;> (try split) <;> omega
theorem Af3:∀ x y:List UInt8,Lib.compareBytes y x =-Lib.compareBytes x y
 | [],[]=>rfl
 | [],_ :: _=>rfl
 | _ :: _,[]=>rfl
 | a :: x,b :: y=>by
  simp only [Lib.compareBytes];by_cases h1:a<b
  ·have h2:¬ b<a:=λ h=>absurd (UInt8.lt_trans h1 h) (AmB a);simp [h1,h2]
  ·by_cases h2:b<a
   ·simp [h1,h2]
   ·simp [h1,h2,Af3 x y]
theorem Ad8{a b:UInt8}(h1:¬ a<b)(h2:¬ b<a):a=b:=UInt8.le_antisymm (UInt8.not_lt.1 h2) (UInt8.not_lt.1 h1)
theorem Adv:∀ x y:List UInt8,Lib.compareBytes x y=0↔x=y
 | [],[]=>by simp [Lib.compareBytes]
 | [],_ :: _=>by simp [Lib.compareBytes]
 | _ :: _,[]=>by simp [Lib.compareBytes]
 | a :: x,b :: y=>by
  simp only [Lib.compareBytes];by_cases h1:a<b
  ·rw [if_pos h1];constructor
   ·intro h;cases h
   ·intro h;cases h;exact absurd h1 (AmB a)
  ·rw [if_neg h1];by_cases h2:b<a
   ·rw [if_pos h2];constructor
    ·intro h;cases h
    ·intro h;cases h;exact absurd h2 (AmB a)
   ·rw [if_neg h2,Adv x y,Ad8 h1 h2];simp
theorem ZP:∀ x y z:List UInt8,Lib.compareBytes x y<=0->Lib.compareBytes y z<=0->Lib.compareBytes x z<=0
 | [],_,[],_,_=>by simp [Lib.compareBytes]
 | [],_,_ :: _,_,_=>by simp [Lib.compareBytes]
 | _ :: _,[],_,h,_=>by simp [Lib.compareBytes] at h
 | _ :: _,_ :: _,[],_,h=>by simp [Lib.compareBytes] at h
 | a :: x,b :: y,c :: z,h1,h2=>by
  simp only [Lib.compareBytes] at h1 h2 ⊢;by_cases e1:a<b
  ·by_cases e2:b<c
   ·rw [if_pos (UInt8.lt_trans e1 e2)];decide
   ·rw [if_neg e2] at h2;by_cases e3:c<b
    ·rw [if_pos e3] at h2;omega
    ·have:=Ad8 e2 e3;subst this;rw [if_pos e1];decide
  ·rw [if_neg e1] at h1;by_cases e2:b<a
   ·rw [if_pos e2] at h1;omega
   ·have:=Ad8 e1 e2;subst this;rw [if_neg e2] at h1;by_cases e3:a<c
    ·rw [if_pos e3];decide
    ·rw [if_neg e3] at h2 ⊢;by_cases e4:c<a
     ·rw [if_pos e4] at h2;omega
     ·rw [if_neg e4] at h2 ⊢;exact ZP x y z h1 h2
def Acr{α β:Type}(f:α->α->Int)(g:β->β->Int)(x y:α × β):Int:=if f x.1 y.1≠0 then f x.1 y.1 else g x.2 y.2
theorem O2.lex{α β:Type}{f:α->α->Int}{g:β->β->Int}(hf:O2 f)(hg:O2 g):O2 (Acr f g):=by
 refine⟨λ x y=>?_,λ x y=>?_,λ x y z=>?_⟩
 ·have h1:=hf.neg x.1 y.1;have h2:=hg.neg x.2 y.2;unfold Acr;split <;> split <;> omega
 ·have h1:=hf.zero x.1 y.1;have h2:=hg.zero x.2 y.2;unfold Acr;split
  ·rename_i h;constructor
   ·intro e;exact absurd e h
   ·intro e;rw [e] at h;exact absurd ((hf.zero _ _).2 rfl) h
  ·rename_i h;have e1:x.1=y.1:=h1.1 (by omega);rw [h2];constructor
   ·intro e;exact Prod.ext e1 e
   ·intro e;rw [e]
 ·unfold Acr;intro a b;by_cases h1:f x.1 y.1=0
  ·have e1:=(hf.zero _ _).1 h1;rw [if_neg (by omega)] at a;rw [<- e1] at b;by_cases h2:f x.1 z.1=0
   ·rw [if_neg (by omega)] at b ⊢;exact hg.trans _ _ _ a b
   ·rw [if_pos h2] at b ⊢;exact b
  ·rw [if_pos h1] at a;by_cases h2:f y.1 z.1=0
   ·have e2:=(hf.zero _ _).1 h2;rw [<- e2,if_pos h1];exact a
   ·rw [if_pos h2] at b;have:=hf.strict x.1 y.1 z.1 (by omega) b;rw [if_pos (by omega)];omega
def AiY(a b:AB):Int:=Acr Dk (Acr Dk (λ s t=>Lib.compareBytes (bl s) (bl t))) a b
theorem AhR(a b:AB):D6 a b=AiY a b:=by
 simp only [D6,AiY,Acr]
theorem Aik:O2 (λ s t:ByteArray=>Lib.compareBytes (bl s) (bl t)) :=
 ⟨λ x y=>Af3 _ _,λ x y=>(Adv _ _).trans ⟨λ h=>QP h,λ h=>by rw [h]⟩,λ x y z=>ZP _ _ _⟩
theorem JP:O2 D6:=by
 have:D6=AiY:=by funext a b;exact AhR a b
 rw [this];exact PI.lex (PI.lex Aik)
theorem Ab5(a b:AB) : -1<=D6 a b/\D6 a b<=1:=by
 have h1:∀ x y,-1<=Dk x y/\Dk x y<=1:=by intro x y;unfold Dk;split <;> (try split) <;> decide
 have h2:∀ x y,-1<=Lib.compareBytes x y/\Lib.compareBytes x y<=1:=by
  intro x
  induction x with
  | nil=>intro y;cases y <;> simp [Lib.compareBytes]
  | cons a x ih =>
   intro y;cases y with
   | nil=>simp [Lib.compareBytes]
   | cons b y=>simp only [Lib.compareBytes];split;decide;split;decide;exact ih y
 unfold D6;split
 ·exact h1 _ _
 ·split
  ·exact h1 _ _
  ·exact h2 _ _
theorem Nj:∀ x y:List UInt8,Op.bytesLess x y=true↔Lib.compareBytes x y<0
 | [],[]=>by simp [Op.bytesLess,Lib.compareBytes]
 | [],_ :: _=>by simp [Op.bytesLess,Lib.compareBytes]
 | _ :: _,[]=>by simp [Op.bytesLess,Lib.compareBytes]
 | a :: x,b :: y=>by
  simp only [Op.bytesLess,Lib.compareBytes,Bool.or_eq_true,decide_eq_true_eq,Bool.and_eq_true,beq_iff_eq,Nj x y];by_cases h1:a<b
  ·simp [h1]
  ·by_cases h2:b<a
   ·have:a≠b:=λ e=>by subst e;exact AmB a h2
    simp [h1,h2,this]
   ·have:=Ad8 h1 h2;simp [this]
theorem ZM(s t:ByteArray):EN s t=true↔Lib.compareBytes (bl s) (bl t)<0:=by
 unfold EN;rw [ByteArray.toList_eq,ByteArray.toList_eq];exact Nj _ _
theorem SI{v:AB}(h:AK v=true)(h3:¬ v.1=3):v.2.2=E0:=by
 unfold AK at h;split at h
 ·simp at h;exact h.2
 ·split at h
  ·simpa using h
  ·split at h
   ·simp at h;exact h.2
   ·cases h
theorem Adw{a b:AB}(ha:AK a=true)(hb:AK b=true):D6 a b=Xk a b:=by
 have hs:=Ab5 a b;have dj:=JP.neg a b;have key:∀ x y:AB,AK x=true->AK y=true->(Jd x y=true↔D6 x y<0):=by
  intro x y hx hy;by_cases h1:x.1=y.1
  ·have e0:Dk x.1 y.1=0:=(PI.zero _ _).2 h1;have c0:D6 x y=if Dk x.2.1 y.2.1≠0 then Dk x.2.1 y.2.1 else Lib.compareBytes (bl x.2.2) (bl y.2.2):=by unfold D6;rw [if_neg (by omega)]
   have l0:Jd x y=if x.1=3 then EN x.2.2 y.2.2 else decide (x.2.1<y.2.1):=by unfold Jd;rw [if_neg (by omega)]
   rw [c0,l0];by_cases h3:x.1=3
   ·have tt:y.1=3:=h1 ▸ h3;rw [if_pos h3];unfold AK at hx hy;simp [h3] at hx;simp [tt] at hy;have e1:Dk x.2.1 y.2.1=0:=(PI.zero _ _).2 (by rw [hx.1,hy.1]);rw [if_neg (by omega)];exact ZM _ _
   ·rw [if_neg h3];have e2:x.2.2=E0/\y.2.2=E0:=⟨SI hx h3,SI hy (h1 ▸ h3)⟩;rw [e2.1,e2.2];have e3:Lib.compareBytes (bl E0) (bl E0)=0:=rfl;rw [e3];unfold Dk;split
    ·simp;omega
    ·split
     ·simp;omega
     ·simp;omega
  ·have e0:Dk x.1 y.1≠0:=λ h=>h1 ((PI.zero _ _).1 h);have c0:D6 x y=Dk x.1 y.1:=by unfold D6;rw [if_pos e0]
   have l0:Jd x y=decide (x.1<y.1):=by unfold Jd;rw [if_pos h1]
   rw [c0,l0];unfold Dk at *;split
   ·simp;omega
   ·split
    ·simp;omega
    ·rename_i n1 n2;omega
 unfold Xk;by_cases h1:Jd a b=true
 ·rw [if_pos h1];have:=(key a b ha hb).1 h1;omega
 ·rw [if_neg h1];have n1:¬ D6 a b<0:=λ h=>h1 ((key a b ha hb).2 h);by_cases h2:Jd b a=true
  ·rw [if_pos h2];have:=(key b a hb ha).1 h2;omega
  ·rw [if_neg h2];have n2:¬ D6 b a<0:=λ h=>h2 ((key b a hb ha).2 h);omega
/-! ### the laws -/
end Go.Proofs.YtpnaifmmggnimaaGreatDoor
namespace Go.Dn
open _root_.List renaming getElem?_eq_some_iff -> AkX, getElem?_set_self -> AkZ, set_set -> Ala
open Go.RowKit (Below)
section
variable {F:Nat->Prop}{w0 w:World}{H:List Zh}
theorem SH.I2(S:SH F w0 w H)(n:Nat){b:Nat}{cs aC:Array Value}{t:TypeId}(hn:H[n]?=some (b,cs,t)){i:Nat}{v:Value}{k:World->Prop}(hi:i<cs.size)(hc:cs.setIfInBounds i v=aC)
  (hk:∀ w',Ai (·=b) w w'->SH F w0 w' (H.set n (b,aC,t))->k w'):DY ⟨b,i,none⟩ v k w:=by
 subst hc;exact S.Abt n hn hi hk
theorem SH.Abs(S:SH F w0 w H)(n:Nat){b:Nat}{x0 x1 x2 x3 x4 x5 x6 v0 v1 v2 v3 v4 v5 v6:Value}{t:TypeId}(hn:H[n]?=some (b,#[x0,x1,x2,x3,x4,x5,x6],t)){k:World->Prop}
  (hk:∀ w',Ai (·=b) w w'->SH F w0 w' (H.set n (b,#[v0,v1,v2,v3,v4,v5,v6],t))->k w') :
  DY ⟨b,0,none⟩ v0 (λ w=>DY ⟨b,1,none⟩ v1 (λ w=>DY ⟨b,2,none⟩ v2 (λ w=>DY ⟨b,3,none⟩ v3 (λ w=>DY ⟨b,4,none⟩ v4 (λ w=>DY ⟨b,5,none⟩ v5 (λ w=>DY ⟨b,6,none⟩ v6 k w) w) w) w) w) w) w:=by
 have aB:=(AkX.1 hn).1;have tr:∀ {a c d:World},Ai (·=b) a c->Ai (·=b) c d->Ai (·=b) a d:=λ h h'=>h.trans h' (λ _ _ h=>h);refine S.I2 n hn (aC:=#[v0,x1,x2,x3,x4,x5,x6]) (by simp) rfl λ w1 K1 S1=>?_;refine S1.I2 n (AkZ aB) (aC:=#[v0,v1,x2,x3,x4,x5,x6]) (by simp) rfl λ w2 K2 S2=>?_;rw [Ala] at S2;refine S2.I2 n (AkZ aB) (aC:=#[v0,v1,v2,x3,x4,x5,x6]) (by simp) rfl λ w3 K3 S3=>?_;rw [Ala] at S3;refine S3.I2 n (AkZ aB) (aC:=#[v0,v1,v2,v3,x4,x5,x6]) (by simp) rfl λ w4 K4 S4=>?_;rw [Ala] at S4;refine S4.I2 n (AkZ aB) (aC:=#[v0,v1,v2,v3,v4,x5,x6]) (by simp) rfl λ w5 K5 S5=>?_;rw [Ala] at S5;refine S5.I2 n (AkZ aB) (aC:=#[v0,v1,v2,v3,v4,v5,x6]) (by simp) rfl λ w6 K6 S6=>?_;rw [Ala] at S6;refine S6.I2 n (AkZ aB) (aC:=#[v0,v1,v2,v3,v4,v5,v6]) (by simp) rfl λ w7 K7 S7=>?_;rw [Ala] at S7;exact hk w7 (tr (tr (tr (tr (tr (tr K1 K2) K3) K4) K5) K6) K7) S7
theorem SH.Y9(S:SH F w0 w H)(n:Nat){b:Nat}{x0 x1 x2 x3 x4 x5 x6 v1 v2 v3:Value}{t:TypeId}(hn:H[n]?=some (b,#[x0,x1,x2,x3,x4,x5,x6],t)){k:World->Prop}
  (hk:∀ w',Ai (·=b) w w'->SH F w0 w' (H.set n (b,#[x0,v1,v2,v3,x4,x5,x6],t))->k w'):DY ⟨b,1,none⟩ v1 (λ w=>DY ⟨b,2,none⟩ v2 (λ w=>DY ⟨b,3,none⟩ v3 k w) w) w:=by
 have aB:=(AkX.1 hn).1;have tr:∀ {a c d:World},Ai (·=b) a c->Ai (·=b) c d->Ai (·=b) a d:=λ h h'=>h.trans h' (λ _ _ h=>h);refine S.I2 n hn (aC:=#[x0,v1,x2,x3,x4,x5,x6]) (by simp) rfl λ w1 K1 S1=>?_;refine S1.I2 n (AkZ aB) (aC:=#[x0,v1,v2,x3,x4,x5,x6]) (by simp) rfl λ w2 K2 S2=>?_;rw [Ala] at S2;refine S2.I2 n (AkZ aB) (aC:=#[x0,v1,v2,v3,x4,x5,x6]) (by simp) rfl λ w3 K3 S3=>?_;rw [Ala] at S3;exact hk w3 (tr (tr K1 K2) K3) S3
theorem SH.Y8(S:SH F w0 w H)(n:Nat){b:Nat}{x0 x1 x2 x3 x4 x5 x6 v4 v5 v6:Value}{t:TypeId}(hn:H[n]?=some (b,#[x0,x1,x2,x3,x4,x5,x6],t)){k:World->Prop}
  (hk:∀ w',Ai (·=b) w w'->SH F w0 w' (H.set n (b,#[x0,x1,x2,x3,v4,v5,v6],t))->k w'):DY ⟨b,4,none⟩ v4 (λ w=>DY ⟨b,5,none⟩ v5 (λ w=>DY ⟨b,6,none⟩ v6 k w) w) w:=by
 have aB:=(AkX.1 hn).1;have tr:∀ {a c d:World},Ai (·=b) a c->Ai (·=b) c d->Ai (·=b) a d:=λ h h'=>h.trans h' (λ _ _ h=>h);refine S.I2 n hn (aC:=#[x0,x1,x2,x3,v4,x5,x6]) (by simp) rfl λ w1 K1 S1=>?_;refine S1.I2 n (AkZ aB) (aC:=#[x0,x1,x2,x3,v4,v5,x6]) (by simp) rfl λ w2 K2 S2=>?_;rw [Ala] at S2;refine S2.I2 n (AkZ aB) (aC:=#[x0,x1,x2,x3,v4,v5,v6]) (by simp) rfl λ w3 K3 S3=>?_;rw [Ala] at S3;exact hk w3 (tr (tr K1 K2) K3) S3
end
end Go.Dn
namespace Go.Proofs.YtpnaifmmggnimaaGreatDoor
open Go.Dn Go.Proofs
open Go.RowKit (Below)
set_option linter.unusedVariables false
set_option maxRecDepth 20000
abbrev Z0:AB:=(0,0,E0)
def XI(z:Option (AB × AB))(v:AB):Option (AB × AB) :=
 if v.1=0 then z else match z with
 | none=>some (v,v)
 | some p=>some (if D6 v p.1<0 then v else p.1,if 0<D6 v p.2 then v else p.2)
def Ms(ls:List AB):Option (AB × AB):=ls.foldl XI none
def Ga(ls:List AB):AB × AB:=(Ms ls).getD (Z0,Z0)
def zC(n:Int)(p:AB × AB):Array Value:=#[.int .i64 n,.int .i64 p.1.1,.int .i64 p.1.2.1,.string p.1.2.2,.int .i64 p.2.1,.int .i64 p.2.2.1,.string p.2.2.2]
def zV(n:Int)(p:AB × AB)(e:Int):Value:=.tuple #[.agg (zC n p),.int .i64 e]
theorem J9{ls:List AB}{i:Nat}(hi:i<ls.length):Ms (ls.take (i+1))=XI (Ms (ls.take i)) ls[i]:=by
 unfold Ms;rw [List.take_succ_eq_append_getElem hi,List.foldl_append];rfl
theorem XH{ls:List AB}:∀ i,i<=ls.length->((Ms (ls.take i)).isNone=true↔(AQ (ls.take i)).length=0)
 | 0,_=>by simp [Ms,AQ]
 | i+1,h=>by
  have ih:=XH (ls:=ls) i (by omega);have hi:i<ls.length:=by omega
  rw [J9 hi,CU hi];unfold XI;by_cases h0:ls[i].1=0
  ·rw [if_pos h0,if_pos h0,List.append_nil];exact ih
  ·rw [if_neg h0,if_neg h0];cases Ms (ls.take i) <;> simp
theorem QC{ls:List AB}{i:Nat}(hi:i<ls.length)(h0:ls[i].1≠0):Ga (ls.take (i+1))=(if (AQ (ls.take i)).length=0\/D6 ls[i] (Ga (ls.take i)).1<0 then ls[i] else (Ga (ls.take i)).1,if (AQ (ls.take i)).length=0\/0<D6 ls[i] (Ga (ls.take i)).2 then ls[i] else (Ga (ls.take i)).2):=by
 have hn:=XH (ls:=ls) i (by omega);unfold Ga;rw [J9 hi];unfold XI;rw [if_neg h0];cases hz:Ms (ls.take i) with
 | none =>
  rw [hz] at hn;have:(AQ (ls.take i)).length=0:=hn.1 rfl;simp [this]
 | some p =>
  rw [hz] at hn;have:¬ (AQ (ls.take i)).length=0:=λ h=>by simpa using hn.2 h
  simp [this]
theorem QB{ls:List AB}{i:Nat}(hi:i<ls.length)(h0:ls[i].1=0):Ga (ls.take (i+1))=Ga (ls.take i):=by
 unfold Ga;rw [J9 hi];unfold XI;rw [if_pos h0]
theorem Acy(ls:List AB):Au ls+(AQ ls).length=ls.length:=by
 induction ls with
 | nil=>rfl
 | cons v ls ih =>
  unfold Au AQ at ih ⊢;by_cases h:v.1=0
  ·simp [h];omega
  ·simp [h];omega
def G9(ls:List AB):Prop:=ls.length<=1024/\∀ v∈ls,AK v=true
def ZB(ls:List AB)(r:Value):Prop:=(G9 ls/\r=zV (Au ls:Int) (Ga ls) 0)\/(¬ G9 ls/\r=zV 0 (Z0,Z0) 2)
section
variable {w:World}{a:Option Addr}{c:Nat}{ls:List AB}
theorem QD{H:List Zh}{wx:World}{b2 n:Nat}{x:Int}{p:AB × AB}(S:SH (λ _=>False) w wx H)(hn:H[n]?=some (b2,zC x p,ty.AU))(aP:¬ G9 ls) :
  DY ⟨b2,0,none⟩ (.int .i64 0) (λ w2=>DY ⟨b2,1,none⟩ (.int .i64 0) (λ w3=>DY ⟨b2,2,none⟩ (.int .i64 0) (λ w4=>DY ⟨b2,3,none⟩ (.string ⟨#[]⟩) (λ w5=>DY ⟨b2,4,none⟩ (.int .i64 0) (λ w6=>DY ⟨b2,5,none⟩ (.int .i64 0) (λ w7=>DY ⟨b2,6,none⟩ (.string ⟨#[]⟩) (λ w8 =>
   ∃ r0:Int,w8.cell? ⟨b2,0,none⟩=some (.int .i64 r0)/\∃ r1:Int,w8.cell? ⟨b2,1,none⟩=some (.int .i64 r1)/\∃ r2:Int,w8.cell? ⟨b2,2,none⟩=some (.int .i64 r2)/\∃ r3:ByteArray,w8.cell? ⟨b2,3,none⟩=some (.string r3)/\∃ r4:Int,w8.cell? ⟨b2,4,none⟩=some (.int .i64 r4)/\∃ r5:Int,w8.cell? ⟨b2,5,none⟩=some (.int .i64 r5)/\∃ r6:ByteArray,w8.cell? ⟨b2,6,none⟩=some (.string r6) /\
   (λ v w'=>ZB ls v/\Below w.heap.size w w') (.tuple #[.agg #[.int .i64 r0,.int .i64 r1,.int .i64 r2,.string r3,.int .i64 r4,.int .i64 r5,.string r6],.int .i64 2]) w8) w7) w6) w5) w4) w3) w2) wx:=by
 have aB:=(List.getElem?_eq_some_iff.1 hn).1;refine S.Abs n hn λ w8 K8 S8=>?_;have nS:=List.getElem?_set_self (l:=H) (a:=(b2,(#[Value.int .i64 0,.int .i64 0,.int .i64 0,.string ⟨#[]⟩,.int .i64 0,.int .i64 0,.string ⟨#[]⟩]:Array Value),ty.AU)) aB;exact⟨_,S8.cell n nS rfl,_,S8.cell n nS rfl,_,S8.cell n nS rfl,_,S8.cell n nS rfl,_,S8.cell n nS rfl,_,S8.cell n nS rfl,_,S8.cell n nS rfl,.inr ⟨aP,rfl⟩,S8.below⟩
end
end Go.Proofs.YtpnaifmmggnimaaGreatDoor
namespace Go.Proofs.YtpnaifmmggnimaaGreatDoor
open _root_.Array renaming getElem?_eq_some_iff -> AlQ
open _root_.Int renaming toNat_natCast -> Ale
open _root_.List renaming append_nil -> Amc, getElem_mem -> AlS, length_append -> Alb, length_drop -> AlE, length_replicate -> AmD, length_take -> Al7, mem_append -> Al8, mem_cons -> AkV, mem_cons_of_mem -> AlO, mem_cons_self -> AlN, mem_singleton -> Al9, not_mem_nil -> Amf, replicate -> Ak9, set_cons_zero -> AmC, take_succ_eq_append_getElem -> Al6
open _root_.Nat renaming mul_one -> Alh, sub_zero -> AmE
open _root_.Option.some renaming inj -> Ami
set_option maxRecDepth 100000
open Go.Dn Go.Proofs
open Go.RowKit (Below)
set_option linter.unusedVariables false
theorem AdG{α:Type}{p q:Prop}[Decidable p][Decidable (p\/q)](h:p)(x y:α):(if p\/q then x else y)=x:=if_pos (.inl h)
section
variable {w:World}{a:Option Addr}{c:Nat}{ls:List AB}
theorem Nk(hl:Rd w a (AP ls)):Calls Tryz.prog f.Ab2 #[.slice a ls.length c] w (AG λ v w'=>ZB ls v/\Below w.heap.size w w'):=by
 apply R.QV
 delta R.A R.Ab R.Cb R.Cf R.Ci R.E R.F R.H R.I R.Li R.Lt R.N R.Qi R.S R.Am R.T R.W R.X R.Z;try dsimp only [R.Ps]
 refine (SH.start (λ _=>False) w).An λ b2 w1 dF B1 S1=>Aa (λ gB=>?_) (λ hle=>?_)
 ·exact QD (p:=(Z0,Z0)) (x:=0) S1 (n:=0) rfl (λ h=>by have:=h.1;omega)
 have hlen:ls.length<=1024:=by omega
 refine S1.An λ dJ w9 kW B9 S9=>S9.Abs 0 rfl λ cp jr zM=>?_;refine⟨λ s cP=>∃ i:Nat,i<=ls.length/\s=[.int .i64 (i:Int)]/\SH (λ _=>False) w cP [(dJ,zC 0 (Z0,Z0),ty.AU),(b2,zC 0 (Z0,Z0),ty.AU)]/\∀ v∈ls.take i,AK v=true,λ s _=>match s with
   | [.int _ i]=>ls.length-i.toNat
   | _=>0,⟨0,by omega,rfl,zM,by simp⟩,?_⟩
 rintro _ cP ⟨i,hi,aA,fv,aF⟩;cases aA;refine Aa (λ aB=>⟨⟨by omega,aB⟩,?_⟩) (λ aI=>?_)
 ·have aD:i<ls.length:=by omega
  obtain⟨p,rfl,c0,c1,c2⟩:=Di (hl.grown fv.below) aD;refine⟨_,by rw [Ale];exact c0,_,by rw [Ale];exact c1,_,by rw [Ale];exact c2,fv.II λ lF fD hb17 iN oG=>?_⟩;refine⟨_,oG.cell 0 rfl rfl,_,oG.cell 0 rfl rfl,_,oG.cell 0 rfl rfl,(EK fD ls[i]).mono ?_⟩;rintro _ iM ⟨_,rfl,rfl,ig⟩;have kJ:=oG.grown ig;refine⟨_,rfl,As (Aq (λ hr=>?_) (λ hr=>?_))⟩
  ·rw [Ae (by omega)];refine⟨⟨i+1,by omega,rfl,kJ.drop 1,λ v hv=>?_⟩,?_⟩
   ·rw [Al6 aD] at hv;rcases Al8.1 hv with h | h
    ·exact aF v h
    ·rw [Al9.1 h];exact hr
   ·simp only [Ale];omega
  ·exact QD (p:=(Z0,Z0)) (x:=0) kJ (n:=2) rfl (λ h=>by have:=h.2 _ (AlS aD);rw [this] at hr;cases hr)
 have bF:ls.take i=ls:=List.take_of_length_le (by omega);rw [bF] at aF;have aK:G9 ls:=⟨hlen,aF⟩;refine fv.An λ iP eK hb30 f' oH=>oH.I2 0 rfl (aC:=#[.int .i64 0]) (show 0<1 by decide) rfl λ kG K31 zQ=>Nn.mono ?_;rintro _ cQ ⟨_,rfl,bI,rfl,xS⟩;have p7:SH (λ _=>False) w cQ [(iP,#[.int .i64 0],ty.int),(dJ,zC 0 (Z0,Z0),ty.AU),(b2,zC 0 (Z0,Z0),ty.AU)]:=zQ.grown xS.below;refine⟨_,_,_,rfl,by kernel_rfl,λ rr aA dW hy=>?_⟩;obtain⟨W1,hW1⟩:∃ W1,W1=(cQ.alloc (.deferred (some []))).alloc (.loop rr):=⟨_,rfl⟩;rw [<- hW1];have fq:Below cQ.heap.size cQ W1:=by rw [hW1];exact (((Below.refl _ cQ).alloc (Nat.le_refl _) _).alloc (by simp) _)
 have sL:W1.heap.size=cQ.heap.size+2:=by rw [hW1];simp
 have gX:W1.heap[cQ.heap.size+1]?=some (.loop rr):=by
  rw [hW1];have:=World.alloc_heap_new (cQ.alloc (.deferred (some []))) (.loop rr);rwa [World.size_alloc] at this
 have kP:W1.heap[cQ.heap.size]?=some (.deferred (some [])):=by
  rw [hW1];exact (Below.heap_alloc _ _ _ (by simp)).trans (World.alloc_heap_new cQ _)
 obtain⟨L,hLd⟩:∃ L,L=cQ.heap.size+1:=⟨_,rfl⟩;rw [<- hLd] at gX hy ⊢;have l30:=p7.lt (x:=(iP,_,_)) (AlN ..);have l10:=p7.lt (x:=(dJ,_,_)) (AlO _ (AlN ..));have l2:=p7.lt (x:=(b2,_,_)) (AlO _ (AlO _ (AlN ..)));have w0le:=p7.below.size;let H:Nat->List Zh:=λ q=>[(iP,#[.int .i64 ((AQ (ls.take q)).length:Int)],ty.int),(dJ,zC 0 (Ga (ls.take q)),ty.AU),(b2,zC 0 (Z0,Z0),ty.AU)];let J:Nat->World->Prop:=λ q wx=>SH (λ _=>False) w wx (H q)/\wx.heap[L]?=some (.loop rr)/\wx.heap[cQ.heap.size]?=some (.deferred (some []));have hI:W1.cell? ⟨bI,0,none⟩=some (.slice a ls.length c):=Du ((Ai.AA (F:=λ _=>False) fq).at (xS.get 0 rfl) (by simp));have ay:=UJ (w:=W1) (L:=L) (b:=bI) (by omega) J (λ q wx hj=>hl.grown hj.1.below) (λ q wx wy hj B=>by
   have K:=Ai.AA (F:=λ _=>False) B;exact⟨hj.1.grown B,K.at hj.2.1 (by simp),K.at hj.2.2 (by simp)⟩) (λ q wx hq hz hj=>by
   have e1:H (q+1)=H q:=by
    have:=CU hq;rw [if_pos hz,Amc] at this;show [(iP,#[Value.int .i64 ((AQ (ls.take (q+1))).length:Int)],ty.int),(dJ,zC 0 (Ga (ls.take (q+1))),ty.AU),(b2,zC 0 (Z0,Z0),ty.AU)]=_;rw [this,QB hq hz]
   exact⟨by rw [e1];exact hj.1,hj.2⟩) (by
  rintro q wx hq aQ ⟨SJ,hL,hD⟩;have cd:(AQ (ls.take q)).length<=1024:=by
   have:(AQ (ls.take q)).length<=(ls.take q).length:=List.length_filter_le ..;rw [Al7] at this;omega
  have jZ:H (q+1)=[(iP,#[.int .i64 (((AQ (ls.take q)).length+1:Nat):Int)],ty.int),(dJ,zC 0 (if (AQ (ls.take q)).length=0\/D6 ls[q] (Ga (ls.take q)).1<0 then ls[q] else (Ga (ls.take q)).1,if (AQ (ls.take q)).length=0\/0<D6 ls[q] (Ga (ls.take q)).2 then ls[q] else (Ga (ls.take q)).2),ty.AU),(b2,zC 0 (Z0,Z0),ty.AU)]:=by
   have e1:=CU hq;rw [if_neg aQ] at e1;show [(iP,#[Value.int .i64 ((AQ (ls.take (q+1))).length:Int)],ty.int),(dJ,zC 0 (Ga (ls.take (q+1))),ty.AU),(b2,zC 0 (Z0,Z0),ty.AU)]=_;rw [QC hq aQ,e1,Alb];rfl
  obtain⟨n,eS⟩:∃ n,n=(AQ (ls.take q)).length:=⟨_,rfl⟩;obtain⟨mm,jY⟩:∃ mm,mm=Ga (ls.take q):=⟨_,rfl⟩;have SJ':SH (λ _=>False) w wx [(iP,#[.int .i64 (n:Int)],ty.int),(dJ,zC 0 mm,ty.AU),(b2,zC 0 (Z0,Z0),ty.AU)]:=by rw [eS,jY];exact SJ
  rw [<- eS,<- jY] at jZ;rw [<- eS] at cd;obtain⟨v,hvd⟩:∃ v,v=ls[q]:=⟨_,rfl⟩;rw [<- hvd] at jZ ⊢;refine hy _ _ _ _ wx hL ?_;refine SJ'.II λ xX ib hb37 yx oI=>?_;have xO:=Ai.AA (F:=λ _=>False) yx;have pO:=xO.at hL (by simp);have u7:=xO.at hD (by simp);refine⟨pO,?_⟩;obtain⟨wB,hwB⟩:∃ wB,wB=ib.putObj L (.loop { rr with state:=.busy }):=⟨_,rfl⟩;rw [<- hwB];have eM:L<ib.heap.size:=(AlQ.1 pO).1;have hLx:L<wx.heap.size:=(AlQ.1 hL).1;have KB:Ai (λ k=>k=L) ib wB:=by rw [hwB];exact AN _ _ _
  have uE:wB.heap[L]?=some (.loop { rr with state:=.busy }):=by rw [hwB];exact World.putObj_heap_same eM
  have hDB:=KB.at u7 (show ¬ cQ.heap.size=L by omega);have SB:SH (λ _=>False) w wB [(xX,#[.int .i64 v.1,.int .i64 v.2.1,.string v.2.2],ty.AW),(iP,#[.int .i64 (n:Int)],ty.int),(dJ,zC 0 mm,ty.AU),(b2,zC 0 (Z0,Z0),ty.AU)]:=oI.kept KB (by
   intro y hy;simp only [AkV,Amf,or_false] at hy;rcases hy with rfl | rfl | rfl | rfl <;> simp only <;> omega) (λ k hk h=>by omega)
  let G:World->AB->AB->Int->Prop:=λ wy mn mx m=>SH (λ _=>False) w wy [(xX,#[.int .i64 v.1,.int .i64 v.2.1,.string v.2.2],ty.AW),(iP,#[.int .i64 m],ty.int),(dJ,zC 0 (mn,mx),ty.AU),(b2,zC 0 (Z0,Z0),ty.AU)]/\wy.heap[L]?=some (.loop { rr with state:=.busy })/\wy.heap[cQ.heap.size]?=some (.deferred (some []));have fZ:∀ {wy wz:World} {b:Nat},Ai (·=b) wy wz->b≠L->b≠cQ.heap.size->wy.heap[L]?=some (.loop { rr with state:=.busy })/\wy.heap[cQ.heap.size]?=some (.deferred (some []))->wz.heap[L]?=some (.loop { rr with state:=.busy })/\wz.heap[cQ.heap.size]?=some (.deferred (some [])) :=
   λ K h1 h2 h=>⟨K.at h.1 (λ e=>h1 e.symm),K.at h.2 (λ e=>h2 e.symm)⟩
  have lJ:∀ {wy wz:World} {mn mx:AB} {m:Int},G wy mn mx m->Below wy.heap.size wy wz->G wz mn mx m:=λ h B=>by
   have K:=Ai.AA (F:=λ _=>False) B;exact⟨h.1.grown B,K.at h.2.1 (by simp),K.at h.2.2 (by simp)⟩
  have fin:∀ {wy:World} {mn mx:AB},G wy mn mx (n:Int)->mn=(if n=0\/D6 v mm.1<0 then v else mm.1)->mx=(if n=0\/0<D6 v mm.2 then v else mm.2) ->
    ∃ t50:Int,wy.cell? ⟨iP,0,none⟩=some (.int .i64 t50)/\DY ⟨iP,0,none⟩ (.int .i64 (IntKind.i64.wrap (t50+1))) (λ w50=>Gb rr L (λ y w'=>y=true/\(SH (λ _=>False) w w' (H (q+1))/\w'.heap[L]?=some (.loop rr)/\w'.heap[cQ.heap.size]?=some (.deferred (some [])))) none w50) wy:=by
   rintro wy mn mx ⟨Sy,Ly⟩ rfl rfl;refine⟨_,Sy.cell 1 rfl rfl,?_⟩;rw [Ae (by omega)];refine Sy.I2 1 rfl (aC:=#[.int .i64 ((n+1:Nat):Int)]) (show 0<1 by decide) rfl λ wz Kz Sz=>?_;obtain⟨Lz,Dz⟩:=fZ Kz (by omega) (by omega) Ly;refine⟨Lz,rfl,?_⟩;rw [IU aA dW];have lz:L<wz.heap.size:=(AlQ.1 Lz).1;have KP:=AN wz L (.loop rr);refine⟨?_,World.putObj_heap_same lz,KP.at Dz (show ¬ cQ.heap.size=L by omega)⟩;rw [jZ];exact (Sz.drop 1).kept KP (by
    intro y hy;simp only [List.set_cons_succ,AmC,List.drop_succ_cons,List.drop_zero,AkV,Amf,or_false] at hy;rcases hy with rfl | rfl | rfl <;> simp only <;> omega) (λ k hk h=>by omega)
  have GB:G wB mm.1 mm.2 (n:Int):=⟨SB,uE,hDB⟩;refine⟨λ s oy=>s=[]/\G oy (if n=0\/D6 v mm.1<0 then v else mm.1) mm.2 (n:Int),?_,?_⟩
  ·refine⟨_,GB.1.cell 1 rfl rfl,Ao (λ h0=>?_) (λ h0=>?_)⟩
   ·have ct:n=0:=by omega
    refine⟨_,GB.1.cell 0 rfl rfl,_,GB.1.cell 0 rfl rfl,_,GB.1.cell 0 rfl rfl,GB.1.Y9 2 rfl λ qz sV sq=>⟨rfl,?_⟩⟩;rw [AdG ct];exact⟨sq,fZ sV (by omega) (by omega) GB.2⟩
   ·have ct:¬ n=0:=by omega
    refine⟨_,GB.1.cell 0 rfl rfl,_,GB.1.cell 0 rfl rfl,_,GB.1.cell 0 rfl rfl,_,GB.1.cell 2 rfl rfl,_,GB.1.cell 2 rfl rfl,_,GB.1.cell 2 rfl rfl,(Jp wB v mm.1).mono ?_⟩;rintro _ lp ⟨_,rfl,rfl,yy⟩;have oE:=lJ GB yy;refine⟨_,rfl,Aa (λ hc=>⟨_,oE.1.cell 0 rfl rfl,_,oE.1.cell 0 rfl rfl,_,oE.1.cell 0 rfl rfl,oE.1.Y9 2 rfl λ qz sV sq=>⟨rfl,?_⟩⟩) (λ hc=>⟨rfl,?_⟩)⟩
    ·rw [if_pos (.inr hc)];exact⟨sq,fZ sV (by omega) (by omega) oE.2⟩
    ·rw [if_neg (by omega)];exact oE
  rintro oy ⟨_,gu⟩;refine⟨_,gu.1.cell 1 rfl rfl,Ao (λ h0=>?_) (λ h0=>?_)⟩
  ·have ct:n=0:=by omega
   refine⟨_,gu.1.cell 0 rfl rfl,_,gu.1.cell 0 rfl rfl,_,gu.1.cell 0 rfl rfl,gu.1.Y8 2 rfl λ w49 sX sr=>fin (mx:=v) ⟨sr,fZ sX (by omega) (by omega) gu.2⟩ rfl (by rw [AdG ct])⟩
  ·have ct:¬ n=0:=by omega
   refine⟨_,gu.1.cell 0 rfl rfl,_,gu.1.cell 0 rfl rfl,_,gu.1.cell 0 rfl rfl,_,gu.1.cell 2 rfl rfl,_,gu.1.cell 2 rfl rfl,_,gu.1.cell 2 rfl rfl,(Jp oy v mm.2).mono ?_⟩;rintro _ w51 ⟨_,rfl,rfl,z6⟩;have oF:=lJ gu z6;refine⟨_,rfl,Aa (λ hc=>⟨_,oF.1.cell 0 rfl rfl,_,oF.1.cell 0 rfl rfl,_,oF.1.cell 0 rfl rfl,oF.1.Y8 2 rfl λ w49 sX sr=>fin (mx:=v) ⟨sr,fZ sX (by omega) (by omega) oF.2⟩ rfl (by rw [if_pos (.inr (by omega))])⟩) (λ hc=>fin oF rfl (by rw [if_neg (by omega)]))⟩)
  ⟨p7.grown fq,gX,kP⟩ hI
 refine ay.mono ?_;rintro _ xI ⟨_,rfl,SJ,uD,u9⟩;have SJ':SH (λ _=>False) w xI [(iP,#[.int .i64 ((AQ ls).length:Int)],ty.int),(dJ,zC 0 (Ga ls),ty.AU),(b2,zC 0 (Z0,Z0),ty.AU)]:=by
  have:=SJ;simp only [H,List.take_length] at this;exact this
 refine⟨⟨_,rfl⟩,none,by rw [IU aA dW];exact uD,rfl,?_⟩;obtain⟨xJ,hw58⟩:∃ xJ,xJ=xI.putObj L (.loop { rr with state:=.exhausted,pending:=none }):=⟨_,rfl⟩;rw [<- hw58];have xP:Ai (λ k=>k=L) xI xJ:=by rw [hw58];exact AN _ _ _
 have xT:=SJ'.kept xP (by
  intro y hy;simp only [AkV,Amf,or_false] at hy;rcases hy with rfl | rfl | rfl <;> simp only <;> omega) (λ k hk h=>by omega)
 have uA:=xP.at u9 (show ¬ cQ.heap.size=L by omega);have yQ:=Acy ls;have en:IntKind.i64.wrap ((ls.length:Int)-((AQ ls).length:Int))=(Au ls:Int):=by rw [wrap_i64 (by omega) (by omega)];omega
 refine⟨_,xT.cell 0 rfl rfl,?_⟩;rw [en];refine xT.I2 1 rfl (aC:=zC (Au ls:Int) (Ga ls)) (show 0<7 by decide) rfl λ w59 zE lD=>?_;refine⟨_,lD.cell 1 rfl rfl,_,lD.cell 1 rfl rfl,_,lD.cell 1 rfl rfl,_,lD.cell 1 rfl rfl,_,lD.cell 1 rfl rfl,_,lD.cell 1 rfl rfl,_,lD.cell 1 rfl rfl,lD.Abs 2 rfl λ yp xQ zR=>?_⟩;have uB:=xQ.at (zE.at uA (show ¬ cQ.heap.size=dJ by omega)) (show ¬ cQ.heap.size=b2 by omega);have KP:=AN yp cQ.heap.size (.deferred none);have SP:=zR.kept KP (by
  intro y hy;simp only [List.set_cons_succ,AmC,AkV,Amf,or_false] at hy;rcases hy with rfl | rfl | rfl <;> simp only <;> omega) (λ k hk h=>by omega)
 exact⟨uB,_,SP.cell 2 rfl rfl,_,SP.cell 2 rfl rfl,_,SP.cell 2 rfl rfl,_,SP.cell 2 rfl rfl,_,SP.cell 2 rfl rfl,_,SP.cell 2 rfl rfl,_,SP.cell 2 rfl rfl,.inl ⟨aK,rfl⟩,SP.below⟩
end
theorem VN:AK Z0=true:=by decide
theorem XG{ls:List AB}(h:∀ v∈ls,AK v=true):∀ i,i<=ls.length->AK (Ga (ls.take i)).1=true/\AK (Ga (ls.take i)).2=true
 | 0,_=>⟨VN,VN⟩
 | i+1,hi=>by
  have aD:i<ls.length:=by omega
  obtain⟨h1,h2⟩:=XG h i (by omega);by_cases h0:ls[i].1=0
  ·rw [QB aD h0];exact⟨h1,h2⟩
  ·rw [QC aD h0];have hv:=h _ (AlS aD);refine⟨?_,?_⟩
   ·simp only;split
    ·exact hv
    ·exact h1
   ·simp only;split
    ·exact hv
    ·exact h2
theorem AgO{ls:List AB}{i:Nat}{p:AB->Prop}(aD:i<ls.length)(aF:∀ v∈ls.take i,p v)(hr:p ls[i]):∀ v∈ls.take (i+1),p v:=by
 intro v hv;rw [Al6 aD] at hv;rcases Al8.1 hv with h | h
 ·exact aF v h
 ·rw [Al9.1 h];exact hr
section
variable {w:World}{a:Option Addr}{c:Nat}{ls:List AB}
theorem Wj(hl:Rd w a (AP ls)):Calls Tryz.prog f.AcW #[.slice a ls.length c] w (AG λ v w'=>ZB ls v/\Below w.heap.size w w'):=by
 apply R.RM
 delta R.A R.Ab R.Cb R.Ci R.D R.E R.F R.G R.H R.I R.Li R.Lt R.N R.Qbi R.Am R.T R.W R.X R.Z;try dsimp only [R.Ps]
 refine (SH.start (λ _=>False) w).An λ b2 w1 dF B1 S1=>Aa (λ gB=>?_) (λ hle=>?_)
 ·exact QD (p:=(Z0,Z0)) (x:=0) S1 (n:=0) rfl (λ h=>by have:=h.1;omega)
 have hlen:ls.length<=1024:=by omega
 refine S1.An λ dJ w9 kW B9 S9=>?_;refine⟨λ s cP=>∃ i:Nat,i<=ls.length/\s=[.bool (decide ((AQ (ls.take i)).length=0)),.int .i64 (i:Int)]/\SH (λ _=>False) w cP [(dJ,zC (Au (ls.take i):Int) (Ga (ls.take i)),ty.AU),(b2,zC 0 (Z0,Z0),ty.AU)]/\∀ v∈ls.take i,AK v=true,λ s _=>match s with
   | [_,.int _ i]=>ls.length-i.toNat
   | _=>0,⟨0,by omega,rfl,S9,by simp⟩,?_⟩
 rintro _ _ cP ⟨i,hi,aA,fv,aF⟩;cases aA;have bn:=Dc (ls.take i);rw [Al7] at bn;refine Aa (λ aB=>⟨⟨by omega,aB⟩,?_⟩) (λ aI=>?_)
 ·have aD:i<ls.length:=by omega
  obtain⟨p,rfl,c0,c1,c2⟩:=Di (hl.grown fv.below) aD;refine⟨_,by rw [Ale];exact c0,_,by rw [Ale];exact c1,_,by rw [Ale];exact c2,(FV cP ls[i]).mono ?_⟩;rintro _ eZ ⟨_,rfl,rfl,yr⟩;have gS:=fv.grown yr;refine⟨_,rfl,As (Aq (λ hr=>?_) (λ hr=>?_))⟩
  case refine_2=>exact QD (p:=(Z0,Z0)) (x:=0) gS (n:=1) rfl (λ h=>by have:=h.2 _ (AlS aD);rw [this] at hr;cases hr)
  obtain⟨p',hp',d0,d1,d2⟩:=Di (hl.grown gS.below) aD;cases hp';have j9:=AgO aD aF hr;rw [Ae (k:=i) (by omega)];have cM:ls.length-((i+1:Nat):Int).toNat<ls.length-((i:Nat):Int).toNat:=by
   simp only [Ale];omega
  refine⟨⟨by omega,aB⟩,_,by rw [Ale];exact d0,Ao (λ hz=>?_) (λ aQ=>?_)⟩
  ·refine⟨_,gS.cell 0 rfl rfl,?_⟩;rw [Ae (by omega)];refine gS.I2 0 rfl (aC:=zC ((Au (ls.take i)+1:Nat):Int) (Ga (ls.take i))) (show 0<7 by decide) rfl λ kE K26 zO=>⟨⟨i+1,by omega,?_,?_,j9⟩,cM⟩
   ·rw [CU aD,if_pos hz,Amc]
   ·rw [FG aD,if_pos hz,QB aD hz];exact zO
  ·obtain⟨n,eS⟩:∃ n,n=(AQ (ls.take i)).length:=⟨_,rfl⟩;obtain⟨mm,jY⟩:∃ mm,mm=Ga (ls.take i):=⟨_,rfl⟩;obtain⟨nu,iY⟩:∃ nu,nu=Au (ls.take i):=⟨_,rfl⟩;have vl:=XG (ls:=ls.take (i+1)) j9 i (by rw [Al7];omega);have htt:(ls.take (i+1)).take i=ls.take i:=by rw [List.take_take];congr 1;omega
   rw [htt,<- jY] at vl;have ae:=QC aD aQ;have nB:(AQ (ls.take (i+1))).length=n+1:=by rw [CU aD,if_neg aQ,Alb,eS];rfl
   have qQ:Au (ls.take (i+1))=nu:=by rw [FG aD,if_neg aQ,iY];rfl
   rw [<- eS,<- jY] at ae;rw [<- iY,<- jY] at gS;rw [<- eS];obtain⟨v,hvd⟩:∃ v,v=ls[i]:=⟨_,rfl⟩;rw [<- hvd] at hr ae;have s9:∀ {wx:World},Below w.heap.size w wx->wx.cell? (p.add (i*3))=some (.int .i64 v.1)/\wx.cell? ((p.add (i*3)).add 1)=some (.int .i64 v.2.1)/\wx.cell? ((p.add (i*3)).add 2)=some (.string v.2.2):=λ B=>by
    obtain⟨q,hq,e0,e1,e2⟩:=Di (hl.grown B) aD;cases hq;rw [hvd];exact⟨e0,e1,e2⟩
   refine gS.E5 λ lB oD p5=>⟨⟨by omega,aB⟩,?_⟩;obtain⟨e0,e1,e2⟩:=s9 p5.below;refine⟨_,by rw [Ale];exact e0,_,by rw [Ale];exact e1,_,by rw [Ale];exact e2,_,p5.cell 0 rfl rfl,_,p5.cell 0 rfl rfl,_,p5.cell 0 rfl rfl,(L6 lB v mm.1).mono ?_⟩;rintro _ oB ⟨_,rfl,rfl,yv⟩;have zP:=p5.grown yv;refine⟨_,rfl,zP.E5 λ kF B29 p6=>⟨⟨by omega,aB⟩,?_⟩⟩;obtain⟨e0,e1,e2⟩:=s9 p6.below;refine⟨_,by rw [Ale];exact e0,_,by rw [Ale];exact e1,_,by rw [Ale];exact e2,_,p6.cell 0 rfl rfl,_,p6.cell 0 rfl rfl,_,p6.cell 0 rfl rfl,(L6 kF v mm.2).mono ?_⟩;rintro _ eK ⟨_,rfl,rfl,f'⟩;have oH:=p6.grown f';rw [<- Adw hr vl.1,<- Adw hr vl.2];have fin:∀ {wy:World} {mn mx:AB},SH (λ _=>False) w wy [(dJ,zC (nu:Int) (mn,mx),ty.AU),(b2,zC 0 (Z0,Z0),ty.AU)]->mn=(if n=0\/D6 v mm.1<0 then v else mm.1)->mx=(if n=0\/0<D6 v mm.2 then v else mm.2) ->
     (∃ j:Nat,j<=ls.length/\[Value.bool false,.int .i64 ((i+1:Nat):Int)]=[.bool (decide ((AQ (ls.take j)).length=0)),.int .i64 (j:Int)]/\SH (λ _=>False) w wy [(dJ,zC (Au (ls.take j):Int) (Ga (ls.take j)),ty.AU),(b2,zC 0 (Z0,Z0),ty.AU)]/\∀ v∈ls.take j,AK v=true)/\ls.length-((i+1:Nat):Int).toNat<ls.length-((i:Nat):Int).toNat:=by
    rintro wy mn mx Sy rfl rfl;refine⟨⟨i+1,by omega,?_,?_,j9⟩,cM⟩
    ·rw [nB];simp
    ·rw [qQ,ae];exact Sy
   refine⟨_,rfl,λ s ib=>s=[]/\SH (λ _=>False) w ib [(dJ,zC (nu:Int) (if n=0\/D6 v mm.1<0 then v else mm.1,mm.2),ty.AU),(b2,zC 0 (Z0,Z0),ty.AU)],?_,?_⟩
   ·obtain⟨e0,e1,e2⟩:=s9 oH.below;refine Aa (λ h0=>⟨⟨by omega,aB⟩,_,by rw [Ale];exact e0,_,by rw [Ale];exact e1,_,by rw [Ale];exact e2,oH.Y9 0 rfl λ ia sU m8=>⟨rfl,?_⟩⟩)
     (λ h0=>Aa (λ hc=>⟨⟨by omega,aB⟩,_,by rw [Ale];exact e0,_,by rw [Ale];exact e1,_,by rw [Ale];exact e2,oH.Y9 0 rfl λ ia sU m8=>⟨rfl,?_⟩⟩) (λ hc=>⟨rfl,?_⟩))
    ·rw [if_pos (.inl h0)];exact m8
    ·rw [if_pos (.inr hc)];exact m8
    ·rw [if_neg (by omega)];exact oH
   rintro ib ⟨_,oI⟩;obtain⟨e0,e1,e2⟩:=s9 oI.below;refine Aa (λ h0=>⟨⟨by omega,aB⟩,_,by rw [Ale];exact e0,_,by rw [Ale];exact e1,_,by rw [Ale];exact e2,oI.Y8 0 rfl λ ia sU m8=>fin (mx:=v) m8 rfl (by rw [if_pos (.inl h0)])⟩)
     (λ h0=>Aa (λ hc=>⟨⟨by omega,aB⟩,_,by rw [Ale];exact e0,_,by rw [Ale];exact e1,_,by rw [Ale];exact e2,oI.Y8 0 rfl λ ia sU m8=>fin (mx:=v) m8 rfl (by rw [if_pos (.inr (by omega))])⟩) (λ hc=>fin oI rfl (by rw [if_neg (by omega)])))
 ·have bF:ls.take i=ls:=List.take_of_length_le (by omega);rw [bF] at aF fv;have aK:G9 ls:=⟨hlen,aF⟩;refine⟨_,fv.cell 0 rfl rfl,_,fv.cell 0 rfl rfl,_,fv.cell 0 rfl rfl,_,fv.cell 0 rfl rfl,_,fv.cell 0 rfl rfl,_,fv.cell 0 rfl rfl,_,fv.cell 0 rfl rfl,fv.Abs 1 rfl λ yp xQ SP=>?_⟩;exact⟨_,SP.cell 1 rfl rfl,_,SP.cell 1 rfl rfl,_,SP.cell 1 rfl rfl,_,SP.cell 1 rfl rfl,_,SP.cell 1 rfl rfl,_,SP.cell 1 rfl rfl,_,SP.cell 1 rfl rfl,.inl ⟨aK,rfl⟩,SP.below⟩
end
theorem ZB.open{ls:List AB}{r:Value}(h:ZB ls r):∃ n p e,r=zV n p e/\((G9 ls/\n=(Au ls:Int)/\p=Ga ls/\e=0)\/(¬ G9 ls/\e=2)):=by
 rcases h with ⟨h,rfl⟩ | ⟨h,rfl⟩
 ·exact⟨_,_,_,rfl,.inl ⟨h,rfl,rfl,rfl⟩⟩
 ·exact⟨_,_,_,rfl,.inr ⟨h,rfl⟩⟩
structure AiQ(ls:List AB)(i:Nat):Prop where
 all:∀ v∈ls.take i,v.1≠0->0<=D6 v (Ga (ls.take i)).1/\D6 v (Ga (ls.take i)).2<=0
 some:0<(AQ (ls.take i)).length->((Ga (ls.take i)).1∈ls.take i/\(Ga (ls.take i)).1.1≠0)/\((Ga (ls.take i)).2∈ls.take i/\(Ga (ls.take i)).2.1≠0)
 none:(AQ (ls.take i)).length=0->Ga (ls.take i)=(Z0,Z0)
theorem ZT(v:AB):D6 v v=0:=(JP.zero v v).2 rfl
theorem AeM{ls:List AB}(h:(AQ ls).length=0):∀ v∈ls,v.1=0:=by
 intro v hv;have hf:AQ ls=[]:=List.eq_nil_of_length_eq_zero h;unfold AQ at hf;have:=List.filter_eq_nil_iff.1 hf v hv;simpa using this
theorem within{ls:List AB}:∀ i,i<=ls.length->AiQ ls i
 | 0,_=>⟨by simp,by simp [AQ],λ _=>rfl⟩
 | i+1,hi=>by
  have aD:i<ls.length:=by omega
  obtain⟨h1,h2,h3⟩:=within (ls:=ls) i (by omega);have cy:∀ v,v∈ls.take i->v∈ls.take (i+1):=λ v hv=>by rw [Al6 aD];exact List.mem_append_left _ hv
  have cD:ls[i]∈ls.take (i+1):=by rw [Al6 aD];exact List.mem_append_right _ (Al9.2 rfl)
  by_cases h0:ls[i].1=0
  ·have ef:AQ (ls.take (i+1))=AQ (ls.take i):=by rw [CU aD,if_pos h0,Amc]
   have ez:=QB aD h0;refine⟨?_,?_,?_⟩
   ·rw [ez];intro v hv aQ;rw [Al6 aD] at hv;rcases Al8.1 hv with h | h
    ·exact h1 v h aQ
    ·rw [Al9.1 h] at aQ;exact absurd h0 aQ
   ·rw [ef,ez];intro hp;obtain⟨⟨a1,a2⟩,b1,b2⟩:=h2 hp;exact⟨⟨cy _ a1,a2⟩,cy _ b1,b2⟩
   ·rw [ef,ez];exact h3
  ·have ez:=QC aD h0;have ef:(AQ (ls.take (i+1))).length=(AQ (ls.take i)).length+1:=by rw [CU aD,if_neg h0,Alb];rfl
   obtain⟨mm,jY⟩:∃ mm,mm=Ga (ls.take i):=⟨_,rfl⟩;obtain⟨n,hn⟩:∃ n,n=(AQ (ls.take i)).length:=⟨_,rfl⟩;rw [<- jY,<- hn] at ez h2;rw [<- jY] at h1;rw [<- hn] at ef;have min_le:0<=D6 ls[i] (if n=0\/D6 ls[i] mm.1<0 then ls[i] else mm.1):=by
    split
    ·rw [ZT];exact Int.le_refl _
    ·omega
   have max_le:D6 ls[i] (if n=0\/0<D6 ls[i] mm.2 then ls[i] else mm.2)<=0:=by
    split
    ·rw [ZT];exact Int.le_refl _
    ·omega
   have old:∀ v∈ls.take i,v.1≠0->¬ n=0:=λ v hv aQ h=>aQ (AeM (by rw [<- hn];exact h) v hv);refine⟨?_,?_,λ h=>by omega⟩
   ·rw [ez];intro v hv aQ;rw [Al6 aD] at hv;rcases Al8.1 hv with h | h
    ·obtain⟨k1,k2⟩:=h1 v h aQ;have ct:=old v h aQ;refine⟨?_,?_⟩
     ·simp only;split
      ·rename_i hc;have dr:D6 ls[i] mm.1<0:=hc.resolve_left ct;have k1':D6 mm.1 v<=0:=by have:=JP.neg v mm.1;omega
       have:=JP.strict _ _ _ dr k1';have:=JP.neg ls[i] v;omega
      ·exact k1
     ·simp only;split
      ·rename_i hc;have dr:0<D6 ls[i] mm.2:=hc.resolve_left ct;have:D6 mm.2 ls[i]<=0:=by have:=JP.neg ls[i] mm.2;omega
       exact JP.trans _ _ _ k2 this
      ·exact k2
    ·rw [Al9.1 h];exact⟨min_le,max_le⟩
   ·rw [ez];intro _;refine⟨?_,?_⟩
    ·simp only;split
     ·exact⟨cD,h0⟩
     ·rename_i hc;obtain⟨⟨a1,a2⟩,_⟩:=h2 (by omega);exact⟨cy _ a1,a2⟩
    ·simp only;split
     ·exact⟨cD,h0⟩
     ·rename_i hc;obtain⟨_,b1,b2⟩:=h2 (by omega);exact⟨cy _ b1,b2⟩
structure E2(K:Int)(ls:List AB)(l:List UInt8):Prop where
 D7:Be K ls
 ex:∃ o,(Au ls<ls.length->D9 K ls o)/\(¬ Au ls<ls.length->o=[])/\l=FD K ls++DS ls++o
theorem WO{ls:List AB}(h:Au ls=0):A4 ls=Ak9 ls.length 0:=by
 unfold A4;rw [List.eq_replicate_iff];refine⟨by simp,λ b hb=>?_⟩;obtain⟨v,hv,rfl⟩:=List.mem_map.1 hb;unfold Au at h;have:=(List.countP_eq_zero.1 h) v hv;rw [if_neg (by simpa using this)]
theorem ZK{ls:List AB}(h:Au ls=ls.length):A4 ls=Ak9 ls.length 1:=by
 unfold A4;rw [List.eq_replicate_iff];refine⟨by simp,λ b hb=>?_⟩;obtain⟨v,hv,rfl⟩:=List.mem_map.1 hb;unfold Au at h;have:=(List.countP_eq_length.1 h) v hv;rw [if_pos (by simpa using this)]
theorem Be.null{K:Int}{ls:List AB}(h:Be K ls):∀ v∈ls,v.1=0->v=(0,0,E0):=by
 intro v hv h0;have aK:=h.all v hv;simp only [okV,Bool.and_eq_true] at aK;have hr:=aK.1;unfold AK at hr;rw [if_pos h0] at hr;simp at hr;obtain⟨v1,v2,v3⟩:=v;simp only at h0 hr;rw [h0,hr.1,hr.2]
theorem Sx(ls:List AB):Au ls+(AQ ls).length=ls.length:=by
 induction ls with
 | nil=>rfl
 | cons v ls ih =>
  unfold Au AQ at ih ⊢;by_cases h:v.1=0
  ·simp [h];omega
  ·simp [h];omega
structure Ng(K:Int)(ls:List AB)(l:List UInt8)(aL aZ:Nat)(o:List UInt8):Prop where
 kind:((l.getD 0 0).toNat:Int)=K
 n1:takeN l 1=some (ls.length,aL)
 n2:takeN l (aL:Int)=some (Au ls,aZ)
 rest:l.drop aZ=DS ls++o
 oth:Au ls<ls.length->D9 K ls o
 none:¬ Au ls<ls.length->o=[]
theorem E2.q{K:Int}{ls:List AB}{l:List UInt8}(h:E2 K ls l):∃ aL aZ o,Ng K ls l aL aZ o:=by
 obtain⟨o,h1,h2,rfl⟩:=h.ex;have hlen:=h.D7.len;have hk:=h.D7.kind;have bn:=Dc ls;have e1:(FD K ls++DS ls++o).drop 1=Af ls.length++(Af (Au ls)++(DS ls++o)):=by simp [FD]
 have e2:=CR e1;have e3:=CR e2;refine⟨_,_,o,?_,Cd (at_:=1) (by omega) e1,Cd (by omega) e2,e3,h1,h2⟩;have:((FD K ls++DS ls++o).getD 0 0)=UInt8.ofNat K.toNat:=by simp [FD]
 rw [this,ES (by omega)];omega
def KW(l:List UInt8)(w w':World)(v:Value):Prop :=
 ∃(K:Int) (os:List AB) (a:Option Addr) (c:Nat) (ok:Bool),v=.tuple #[.int .i64 K,.slice a os.length c,.bool ok]/\XR w w' a (AP os)/\Below w.heap.size w w'/\os.length<=4096/\(∀ v∈os,BL v) /\
  ∀ K' ls,E2 K' ls l->ok=true/\K=K'/\os=ls
theorem KW.bad{l:List UInt8}{w w':World}(hb:Below w.heap.size w w')(h:∀ K ls,¬ E2 K ls l):KW l w w' (.tuple #[.int .i64 0,.slice none 0 0,.bool false]) :=
 ⟨0,[],none,0,false,rfl,XR.nil _ _,hb,by simp,by simp,λ K ls aM=>absurd aM (h K ls)⟩
section
variable {w:World}{a:Option Addr}{c:Nat}{l:List UInt8}
theorem V1(hl:Rd w a (l.map Ag))(hc:l.length<=c)(hs:l.length<=9223372036854775807) :
  Calls Tryz.prog f.Ab4 #[.slice a l.length c] w (AG λ v w'=>KW l w w' v):=by
 apply R.QZ
 delta R.Ad R.MG R.AbS R.AR R.Bu R.D R.F R.G R.H R.I R.Ly R.O R.Qi R.Rs R.S R.Am R.U R.W R.Wu R.X R.Y R.AjJ;try dsimp only [R.Ps]
 refine Aa (λ h=>KW.bad (.refl _ _) λ K ls hp=>?_) (λ iE=>?_)
 ·obtain⟨_,_,_,q⟩:=hp.q;have:=Az q.n1;omega
 have h0:0<l.length:=by omega
 refine (AL hl hc hs 1).mono ?_;rintro _ w ⟨_,rfl,rfl,rfl⟩;obtain⟨n,aL,e1,hv1,cI,cH⟩:∃(n aL:Nat) (e1:Int),LR (takeN l 1)=.tuple #[.int .u64 (n:Int),.int .i64 (aL:Int),.int .i64 e1]/\(n<18446744073709551616/\aL<=l.length)/\(∀ K ls,E2 K ls l->e1=0/\n=ls.length/\takeN l 1=some (n,aL)):=by
  cases hx:takeN l 1 with
  | none =>
   refine⟨0,0,20,rfl,by omega,λ K ls hp=>?_⟩;obtain⟨_,_,_,q⟩:=hp.q;have:=q.n1;rw [hx] at this;cases this
  | some x =>
   have hb:=Az (n:=x.1) (k:=x.2) hx;refine⟨x.1,x.2,0,rfl,by omega,λ K ls hp=>?_⟩;obtain⟨_,_,_,q⟩:=hp.q;have:=q.n1;rw [hx] at this;have:=Ami this;exact⟨rfl,by rw [this],rfl⟩
 rw [hv1];refine⟨_,_,_,rfl,(AL hl hc hs (aL:Int)).mono ?_⟩;rintro _ w ⟨_,rfl,rfl,rfl⟩;obtain⟨no,aZ,e2,iH,dF,hP2⟩:∃(no aZ:Nat) (e2:Int),LR (takeN l (aL:Int))=.tuple #[.int .u64 (no:Int),.int .i64 (aZ:Int),.int .i64 e2]/\(no<18446744073709551616/\aZ<=l.length)/\(∀ K ls,E2 K ls l->e2=0/\no=Au ls/\∃ o,Ng K ls l aL aZ o):=by
  have step:∀ K ls,E2 K ls l->∃ aZ o,Ng K ls l aL aZ o:=by
   intro K ls hp;obtain⟨a1,a2,o,q⟩:=hp.q;have h1:=(cH K ls hp).2.2;have h2:=q.n1;rw [h1] at h2;obtain rfl:aL=a1:=by have:=Ami h2;simpa using congrArg Prod.snd this
   exact⟨a2,o,q⟩
  cases hx:takeN l (aL:Int) with
  | none =>
   refine⟨0,0,20,rfl,by omega,λ K ls hp=>?_⟩;obtain⟨_,_,q⟩:=step K ls hp;have:=q.n2;rw [hx] at this;cases this
  | some x =>
   have hb:=Az (n:=x.1) (k:=x.2) hx;refine⟨x.1,x.2,0,rfl,by omega,λ K ls hp=>?_⟩;obtain⟨a2,o,q⟩:=step K ls hp;have:=q.n2;rw [hx] at this;have ql:=Ami this;obtain rfl:x.2=a2:=by rw [ql]
   exact⟨rfl,by rw [ql],o,q⟩
 rw [iH];refine⟨_,_,_,rfl,Ah (λ h=>KW.bad (.refl _ _) λ K ls hp=>h (cH K ls hp).1) (λ uy=>Ah (λ h=>KW.bad (.refl _ _) λ K ls hp=>h (hP2 K ls hp).1) (λ mq=>Aa (λ h=>KW.bad (.refl _ _) λ K ls hp=>?_) (λ eR=>Aa (λ h=>KW.bad (.refl _ _) λ K ls hp=>?_) (λ gI=>?_))))⟩
 ·have:=(cH K ls hp).2.1;have:=hp.D7.len;omega
 ·have:=(cH K ls hp).2.1;have:=(hP2 K ls hp).2.1;have:=Dc ls;omega
 have hn:n<=1024:=by omega
 have aP:no<=n:=by omega
 refine Ea tU (l:=(n:Int)) (c:=(n:Int)) (by omega) (by omega) (by omega) (by omega) λ bo w3 fO B3 gv=>?_;rw [Ale] at gv ⊢;have j6:w3.heap[bo]?=some (.cells ⟨Ak9 n (.int .u64 0)⟩ ty.uint64 (0,0)):=by
  have e:madeCells (Value.int .u64 0).cells (n*1)=⟨Ak9 n (.int .u64 0)⟩:=by
   apply Array.ext';rw [El _ rfl,Alh]
  rw [<- e];exact gv
 refine⟨_,_,_,rfl,λ s w8=>∃(bH:Nat) (e:Int) (bits:List Nat) (ab:Option Addr) (cb:Nat),s=[.int .i64 (bH:Int),.int .i64 e,.slice ab bits.length cb]/\Rd w8 ab (bits.map E1)/\Below w.heap.size w w8/\bits.length<=4096/\bH<=l.length /\
   (∀ K ls,E2 K ls l->e=0/\bits=A4 ls/\∃ o,Ng K ls l aL aZ o/\l.drop bH=o),?_,?_⟩
 ·have rep:∀(k:Nat) (x:Nat),(Ak9 k x).map E1=Ak9 k (.int .u64 (x:Int)):=λ k x=>by rw [List.map_replicate];rfl
  refine Ao (λ hz=>?_) (λ hz=>Ao (λ aF=>?_) (λ nP=>?_))
  ·refine⟨aZ,e1,Ak9 n 0,some ⟨bo,0,none⟩,n,by rw [AmD],?_,B3,by simp;omega,dF.2,λ K ls hp=>?_⟩
   ·have:=Rd.Ak j6;rw [rep];exact this
   ·obtain⟨_,gJ,o,q⟩:=hP2 K ls hp;have cm:=(cH K ls hp).2.1;have eA:Au ls=0:=by omega
    refine⟨uy,by rw [WO eA,cm],o,q,?_⟩;rw [q.rest];unfold DS;rw [if_neg (by omega)];rfl
  ·refine⟨λ s w4=>∃ i:Nat,i<=n/\s=[.int .i64 (i:Int)]/\Ai (λ k=>k=bo) w3 w4/\w4.heap[bo]?=some (.cells ⟨Ak9 i (.int .u64 1)++Ak9 (n-i) (.int .u64 0)⟩ ty.uint64 (0,0)),λ s _=>match s with
     | [.int _ i]=>n-i.toNat
     | _=>0,⟨0,by omega,rfl,.refl _ _,by simpa using j6⟩,?_⟩
   rintro _ w4 ⟨i,hi,aA,K4,pP⟩;cases aA;refine Aa (λ aB=>⟨⟨by omega,aB⟩,?_⟩) (λ aI=>?_)
   ·rw [Ale];unfold Av;simp only;refine VB pP (p:=(⟨bo,0,none⟩:Addr).add (i*1)) (i:=i) (by rw [Ay];simp) (by show i<(_++_:List Value).length;simp;omega) λ w5 K5 fJ=>?_;rw [Ae (by omega)];refine⟨⟨i+1,by omega,rfl,K4.trans K5 (λ _ _ h=>h),?_⟩,?_⟩
    ·have e:(⟨Ak9 i (.int .u64 1)++Ak9 (n-i) (.int .u64 0)⟩:Array Value).setIfInBounds i (.int .u64 1)=⟨Ak9 (i+1) (.int .u64 1)++Ak9 (n-(i+1)) (.int .u64 0)⟩:=by
      apply Array.ext';simp only [Array.toList_setIfInBounds];rw [List.set_append_right _ _ (by simp),AmD,Nat.sub_self,show n-i=(n-(i+1))+1 by omega,List.replicate_succ (n:=n-(i+1)),AmC,List.replicate_succ' (n:=i),List.append_assoc];rfl
     rw [e] at fJ;exact fJ
    ·simp only [Ale];omega
   ·have cD:i=n:=by omega
    subst cD;rw [Nat.sub_self,List.replicate_zero,Amc] at pP;refine⟨aZ,e1,Ak9 i 1,some ⟨bo,0,none⟩,i,by rw [AmD],?_,B3.trans (K4.below B3.size λ k hk h=>by omega),by simp;omega,dF.2,λ K ls hp=>?_⟩
    ·have:=Rd.Ak pP;rw [rep];exact this
    ·obtain⟨_,gJ,o,q⟩:=hP2 K ls hp;have cm:=(cH K ls hp).2.1;have eA:Au ls=ls.length:=by omega
     refine⟨uy,by rw [ZK eA,cm],o,q,?_⟩;rw [q.rest];unfold DS;rw [if_neg (by omega)];rfl
  ·rw [wrap_i64 (n:=(n:Int)) (by omega) (by omega)];refine (JS w3 (n:Int) 1).mono ?_;rintro _ w6 ⟨_,rfl,rfl,rfl⟩;rw [if_pos ⟨by omega,by omega,by omega,by omega⟩];obtain⟨sz,aw⟩:∃ sz,sz=DA n 1:=⟨_,rfl⟩;have wi:sz=(n+7) / 8:=by rw [aw];unfold DA;rw [Alh]
   have tj:((n:Int)*1+7) / 8=(sz:Int):=by omega
   rw [tj,wrap_i64 (n:=(l.length:Int)-(aZ:Int)) (by omega) (by omega)];have di:∀ K ls,E2 K ls l->∃ o,Ng K ls l aL aZ o/\l.drop aZ=A5 (A4 ls) 1++o/\(A5 (A4 ls) 1).length=sz:=by
    intro K ls hp;obtain⟨_,gJ,o,q⟩:=hP2 K ls hp;have cm:=(cH K ls hp).2.1;refine⟨o,q,?_,?_⟩
    ·rw [q.rest];unfold DS;rw [if_pos (by omega)]
    ·rw [BR,aw,cm];simp [A4]
   refine⟨_,_,rfl,Aa (λ h=>KW.bad B3 λ K ls hp=>?_) (λ aI=>?_)⟩
   ·obtain⟨o,_,e,e2⟩:=di K ls hp;have:=congrArg List.length e;rw [AlE,Alb] at this;omega
   rw [wrap_i64 (n:=(aZ:Int)+(sz:Int)) (by omega) (by omega)];refine⟨⟨by omega,by omega,by omega⟩,?_⟩;rw [Ale,show ((aZ:Int)+(sz:Int)).toNat=aZ+sz by omega,Nat.add_sub_cancel_left];have bD:=(hl.grown B3).OY aZ (aZ+sz) c 1 (by omega);rw [Alh,Alh,Nat.add_sub_cancel_left,<- List.map_drop,<- List.map_take] at bD;have nh:((l.drop aZ).take sz).length=sz:=by rw [Al7,AlE];omega
   have hU:=HR (c:=c-aZ) bD (n:Int) 1 (by omega);rw [nh] at hU;refine hU.mono ?_;rintro _ w7 ⟨_,rfl,xs,xa,xc,e,rfl,gb,B7,nw,aG⟩;have C7:=Ac B3 B7;have dB:xs.length<=4096:=by
    rcases aG with ⟨_,_,rfl,_⟩ | ⟨_,rfl,_⟩
    ·rw [Ch];omega
    ·simp
   refine⟨_,_,_,_,rfl,aZ+sz,e,xs,xa,xc,rfl,gb,C7,dB,by omega,λ K ls hp=>?_⟩;obtain⟨o,q,e3,e4⟩:=di K ls hp;have cm:=(cH K ls hp).2.1;have au:(A4 ls).length=n:=by rw [cm];simp [A4]
   have dA:(l.drop aZ).take sz=A5 (A4 ls) 1:=by rw [e3,<- e4,List.take_left]
   have gM:=Iv (TW ls);rw [au] at gM;rw [dA,Ale,show (1:Int).toNat=1 from rfl] at aG;have aK:GP (n:Int) 1/\Sb (A5 (A4 ls) 1) n 1:=⟨⟨by omega,by omega,by omega,by omega⟩,⟨by rw [BR,au],by rw [gM]⟩⟩;rcases aG with ⟨_,_,bP,he⟩ | ⟨hno2,_⟩
   ·exact⟨he,by rw [bP,gM],o,q,by rw [<- e4,<- List.drop_drop,e3,List.drop_left]⟩
   ·exact absurd aK hno2
 rintro _ e ab _ cb w8 ⟨bH,_,bits,_,_,aA,rX,B8,au,uO,oU⟩;cases aA;refine (SH.start (λ _=>False) w8).E5 λ w9 B9 _=>⟨⟨by omega,by omega⟩,?_⟩;have C9:=Ac B8 B9;have hJ:=Jy (q:=bH) (hl.grown C9) hc;obtain⟨p,rfl,aE⟩:=DI (hl.grown C9) h0;have bg:=(l.getD 0 0).toNat_lt;refine⟨⟨by omega,by omega,by omega⟩,_,aE,?_⟩;have en:IntKind.i64.wrap (IntKind.u64.wrap ((n:Int)-(no:Int)))=((n-no:Nat):Int):=by rw [Aj (by omega) (by omega),wrap_i64 (by omega) (by omega)];omega
 rw [en,wrap_i64 (n:=((l.getD 0 0).toNat:Int)) (by omega) (by omega),Ale,<- AlE (i:=bH) (l:=l)];refine (QW ((l.getD 0 0).toNat:Int) hJ (by rw [AlE];omega) (by rw [AlE];omega) (n:=n-no) (by omega)).mono ?_;rintro _ bV ⟨_,rfl,vs,xU,xd,ok,rfl,r8,bp,iI,gN,hD⟩;have lu:=Ac C9 bp;have fz:∀ K ls,E2 K ls l->ok=true/\vs=AQ ls:=by
  intro K ls hp;obtain⟨_,_,o,q,ho⟩:=oU K ls hp;have cm:=(cH K ls hp).2.1;have gJ:=(hP2 K ls hp).2.1;have yQ:=Sx ls;refine hD ls (by rw [q.kind];exact hp.D7) (by omega) (λ h=>?_) (λ h=>?_)
  ·rw [q.kind,ho];exact q.oth (by omega)
  ·rw [ho];exact q.none (by omega)
 refine⟨_,_,_,_,rfl,Ah (λ h=>KW.bad lu λ K ls hp=>h (oU K ls hp).1) (λ he=>As (Aq (λ aK=>?_) (λ aK=>KW.bad lu λ K ls hp=>?_)))⟩
 case refine_2 =>
  have:=(fz K ls hp).1;rw [this] at aK;cases aK
 refine (Tb ((rX.grown B9).grown bp) r8 au iI gN).mono ?_;rintro _ aY ⟨_,rfl,os,rB,rI,ok2,rfl,sk,cF,cE,kr,hS⟩;have ik:=Ac lu cF;obtain⟨p',hp',hcell'⟩:=DI (hl.grown ik) h0;cases hp';refine⟨_,_,_,_,rfl,⟨by omega,by omega⟩,_,hcell',?_⟩;rw [wrap_i64 (n:=((l.getD 0 0).toNat:Int)) (by omega) (by omega)];refine⟨_,os,rB,rI,ok2,rfl,sk.before lu,ik,cE,kr,λ K ls hp=>?_⟩;obtain⟨_,bX,o,q,_⟩:=oU K ls hp;obtain⟨s1,s2⟩:=hS ls bX (fz K ls hp).2 hp.D7.null;exact⟨s1,q.kind,s2⟩
end
theorem KR.read{K:Int}{ls:List AB}{b:List UInt8}(hg:Be K ls)(h:KR K ls b):E2 K ls (b.take (b.length-4))/\5<=b.length/\b=b.take (b.length-4)++VC (crc (b.take (b.length-4))):=by
 obtain⟨o,h1,h2,rfl⟩:=h.ex;have hs:∀ x,(VC x).length=4:=λ x=>rfl;have eC:1<=(FD K ls).length:=by simp [FD]
 have e:(FD K ls++DS ls++o++VC (crc (FD K ls++DS ls++o))).take ((FD K ls++DS ls++o++VC (crc (FD K ls++DS ls++o))).length-4)=FD K ls++DS ls++o:=by
  rw [Alb,hs,Nat.add_sub_cancel,List.take_left]
 rw [e];refine⟨⟨hg,o,h1,h2,rfl⟩,?_,rfl⟩;simp only [Alb,hs];omega
def QH(l:List UInt8)(w w':World)(v:Value):Prop :=
 ∃(K:Int) (ls:List AB) (a:Option Addr) (c:Nat) (e:Int),v=.tuple #[.int .i64 K,.slice a ls.length c,.int .i64 e]/\XR w w' a (AP ls)/\Below w.heap.size w w'/\ls.length<=4096 /\
  ((Be K ls/\KR K ls l/\e=0/\∀ K' cC,Be K' cC->KR K' cC l->K'=K/\cC=ls)\/((∀ K' cC,Be K' cC->¬ KR K' cC l)/\K=0/\ls=[]/\e=80))
theorem QH.bad{l:List UInt8}{w w':World}(hb:Below w.heap.size w w')(h:∀ K' cC,Be K' cC->¬ KR K' cC l):QH l w w' (.tuple #[.int .i64 0,.slice none 0 0,.int .i64 80]) :=
 ⟨0,[],none,0,80,rfl,XR.nil _ _,hb,by simp,.inr ⟨h,rfl,rfl,rfl⟩⟩
section
variable {w:World}{a:Option Addr}{c:Nat}{l:List UInt8}
theorem Ta(hl:Rd w a (l.map Ag))(hc:l.length<=c)(hs:l.length<=9223372036854775807) :
  Calls Tryz.prog f.XY #[.slice a l.length c] w (AG λ v w'=>QH l w w' v):=by
 apply R.NN
 delta R.WD R.AR R.Cb R.F R.H R.I R.O R.S R.W R.Y;try dsimp only [R.Ps]
 refine Aa (λ h=>QH.bad (.refl _ _) λ K ls hg hC=>by have:=(hC.read hg).2.1;omega) (λ aI=>?_);rw [wrap_i64 (n:=(l.length:Int)-4) (by omega) (by omega),show ((l.length:Int)-4).toNat=l.length-4 by omega];refine⟨⟨by omega,by omega,by omega⟩,?_⟩;have bD:=hl.OY 0 (l.length-4) c 1 (by omega);rw [Alh,AmE,Alh,List.drop_zero,<- List.map_take] at bD;have aB:(l.take (l.length-4)).length=l.length-4:=by rw [Al7];omega
 have hR:=V1 (c:=c) bD (by omega) (by omega);rw [aB] at hR;rw [AmE,AmE];refine hR.mono ?_;rintro _ w1 ⟨_,rfl,K,os,a1,c1,ok,rfl,R1,B1,cE,kr,hP⟩;refine⟨_,_,_,_,_,rfl,(Ke K R1.rd (by omega) kr).mono ?_⟩;rintro _ w2 ⟨_,rfl,h2⟩;obtain⟨b2,a2,c2,e2,rfl,R2,B2,q2⟩:=h2.open;have C2:=Ac B1 B2;have key:∀ K' cC,Be K' cC->KR K' cC l->ok=true/\K=K'/\os=cC:=λ K' cC hg hC=>hP K' cC (hC.read hg).1;refine⟨_,_,_,_,rfl,As (Aq (λ aK=>?_) (λ aK=>QH.bad C2 λ K' cC hg hC=>?_))⟩
 case refine_2 =>
  have:=(key K' cC hg hC).1;rw [this] at aK;cases aK
 rcases q2 with ⟨hr,hI,rfl⟩ | ⟨hr,rfl,rfl⟩
 ·refine Ah (λ h=>absurd rfl h) (λ _=>(HC R2 (hl.grown C2)).mono ?_);rintro _ w3 ⟨_,rfl,rfl,rfl⟩;refine⟨_,rfl,As (Aa (λ he=>?_) (λ he=>QH.bad C2 λ K' cC hg hC=>?_))⟩
  ·subst he;refine⟨K,os,a1,c1,0,rfl,R1.grown B2,C2,cE,.inl ⟨⟨hr,kr⟩,hI,rfl,λ K' cC hg hC=>?_⟩⟩;obtain⟨_,e1,e2⟩:=key K' cC hg hC;exact⟨e1.symm,e2.symm⟩
  ·obtain⟨_,rfl,rfl⟩:=key K' cC hg hC;exact he (hI.one hC)
 ·refine Ah (λ _=>QH.bad C2 λ K' cC hg hC=>?_) (λ h=>absurd h (by decide));obtain⟨_,rfl,rfl⟩:=key K' cC hg hC;rw [hg.right] at hr;cases hr
end
end Go.Proofs.YtpnaifmmggnimaaGreatDoor

namespace Go.Proofs.YtpnaifmmggnimaaGreatDoor
open _root_.Bool renaming and_eq_true -> AkM
open _root_.Int renaming tdiv -> AlT, tdiv_eq_ediv_of_nonneg -> AlP, toNat_natCast -> Ale
open _root_.List renaming append_assoc -> Alc, countP_le_length -> AmF, getElem?_eq_getElem -> Al5, getElem_mem -> AlS, length_append -> Alb, length_cons -> Ald, length_drop -> AlE, length_take -> Al7, map_take -> AlG, mem_append -> Al8, mem_singleton -> Al9, replicate -> Ak9, take_of_length_le -> AlK, take_succ_eq_append_getElem -> Al6
open _root_.Nat renaming le_trans -> Als, mul_one -> Alh, sub_zero -> AmE
open _root_.Option.some renaming inj -> Ami
open _root_.UInt8 renaming ofNat -> Alj
set_option maxRecDepth 100000
open Go.Dn Go.Proofs
open Go.RowKit (Below)
set_option linter.unusedVariables false
def IA(l:List UInt8)(n:Nat)(w w':World)(v:Value):Prop :=
 ∃(ms:List Int) (a:Option Addr) (c:Nat),v=.slice a ms.length c/\FJ w w' ms a c/\(∀ x∈ms,Fs x)/\ms.length<=100000/\∀ ls,DK l n ls->ms=ls
theorem IA.bad{l:List UInt8}{n:Nat}{w w':World}(hb:Below w.heap.size w w')(h:∀ ls,¬ DK l n ls):IA l n w w' (.slice none 0 0) :=
 ⟨[],none,0,rfl,⟨Row.nil _ _ _,by simp [AD],hb⟩,by simp,by simp,λ ls aM=>absurd aM (h ls)⟩
section
variable {w:World}{a:Option Addr}{c:Nat}{l:List UInt8}
theorem Tr.Aj9{f n:Nat}{out:List Int}{at_:Nat}(h:Tr l f n out at_)(hf:f<=1)(hn:n<=4096)(ho:out.length<n){ls:List Int}(aM:DK l n ls):∃ many aL nx x,out=ls.take out.length/\Step l f at_ ls out.length many aL nx x:=by
 obtain⟨k,hk,jc,hr⟩:=h ls aM;have hlen:=aM.len;have aO:out.length=k:=by rw [jc,Al7];omega
 rw [<- aO] at jc hr;obtain⟨many,aL,nx,x,hs⟩:=Ad1 hf aM.num (by omega) hr (by omega);exact⟨many,aL,nx,x,jc,hs⟩
theorem Vj(hl:Rd w a (l.map Ag))(hs:l.length<=9223372036854775807)(h0:0<l.length){fm:Nat}(cf:fm=(l.getD 0 0).toNat)(hf:fm<=1){n:Nat}(hn:n<=4096) :
  Calls Tryz.prog f.Wi #[.slice a l.length c,.int .i64 (n:Int)] w (AG λ v w'=>IA l n w w' v):=by
 apply R.MW
 delta R.Ka R.Bu R.F R.I R.J R.Ks R.Ly R.N R.O R.EM R.S R.U R.W R.Wu R.X R.AhM;try dsimp only [R.Ps]
 have xF:Tr l fm n [] 1:=by
  intro ls aM;refine⟨0,by omega,rfl,?_⟩;have:=aM.enc;rw [<- cf] at this;rw [List.drop_zero];rcases (by omega:fm=0\/fm=1) with rfl | rfl
  ·rw [this];simp [DR,GG]
  ·rw [this];simp [DR,GG]
 refine⟨λ s w1=>∃(at_:Nat) (out:List Int) (oa:Option Addr) (oc:Nat),s=[.slice oa out.length oc,.int .i64 (at_:Int)]/\FJ w w1 out oa oc/\(∀ x∈out,Fs x)/\out.length<=10000/\at_<=9223372036854775807/\Tr l fm n out at_,λ s _=>match s with
   | [.slice _ m _,_]=>n-m
   | _=>0,⟨1,[],none,0,rfl,FJ.nil w,by simp,by simp,by omega,xF⟩,?_⟩
 rintro oa _ oc _ w1 ⟨at_,out,_,_,aA,h1,hI,cE,uP,hT⟩;cases aA;refine Aa (λ aB=>?_) (λ aI=>?_)
 case refine_2 =>
  refine⟨out,oa,oc,rfl,h1,hI,by omega,λ ls aM=>?_⟩;obtain⟨k,hk,ho,hr⟩:=hT ls aM;have:=aM.len;have aO:out.length=k:=by rw [ho,Al7];omega
  rw [ho,AlK (by omega)]
 have vy:out.length<n:=by omega
 obtain⟨p,rfl,aE⟩:=DI (hl.grown h1.Ar) h0;have bg:=(l.getD 0 0).toNat_lt;have stay:(∀ ls,¬ DK l n ls)->IA l n w w1 (.slice oa out.length oc):=λ h=>⟨out,oa,oc,rfl,h1,hI,by omega,λ ls aM=>absurd aM (h ls)⟩;refine⟨λ s w3=>w3=w1/\∃(aL many:Nat) (e:Int),s=[.int .i64 (aL:Int),.int .u64 (many:Int),.int .i64 e]/\aL<=9223372036854775807/\((e≠0/\fm=1/\takeN l (at_:Int)=none)\/(e=0/\at_<=aL/\many<18446744073709551616/\((fm=1/\takeN l (at_:Int)=some (many,aL))\/(fm=0/\many=1/\aL=at_)))),?_,?_⟩
 ·refine⟨⟨by omega,by omega⟩,_,aE,Ao (λ h1'=>?_) (λ aQ=>?_)⟩
  ·refine (AJ (hl.grown h1.Ar) hs (at_:Int) (by omega)).mono ?_;rintro _ w2 ⟨_,rfl,rfl,rfl⟩;cases hx:takeN l (at_:Int) with
   | none=>exact⟨_,_,_,rfl,rfl,0,0,20,rfl,by omega,.inl ⟨by decide,by omega,rfl⟩⟩
   | some x =>
    have hb:=Az (n:=x.1) (k:=x.2) hx;exact⟨_,_,_,rfl,rfl,x.2,x.1,0,rfl,by omega,.inr ⟨rfl,by omega,by omega,.inl ⟨by omega,rfl⟩⟩⟩
  ·exact⟨rfl,at_,1,0,rfl,by omega,.inr ⟨rfl,by omega,by omega,.inr ⟨by omega,rfl,rfl⟩⟩⟩
 rintro _ _ e w3 ⟨rfl,aL,many,_,aA,mV,aG⟩;cases aA;refine (FW (hl.grown h1.Ar) hs (aL:Int) (by omega)).mono ?_;rintro _ w4 ⟨_,rfl,rfl,rfl⟩;have key:∀ ls,DK l n ls->∃ nx x,out=ls.take out.length/\e=0/\takeN l (aL:Int)=some (D8 x,nx)/\0<many/\out.length+many<=ls.length/\ls.take (out.length+many)=ls.take out.length++Ak9 many x/\l.drop nx=GG fm (ls.drop (out.length+many)):=by
  intro ls aM;obtain⟨m,a1,nx,x,ho,hs⟩:=hT.Aj9 hf hn vy aM;rcases aG with ⟨_,gg,aP⟩ | ⟨he,_,_,⟨gg,hso⟩ | ⟨fQ,hm1,ha1⟩⟩
  ·rw [hs.num gg] at aP;cases aP
  ·have:=hs.num gg;rw [hso] at this;obtain⟨rfl,rfl⟩:=Prod.mk.injEq .. ▸ Ami this;exact⟨nx,x,ho,he,hs.sgn,hs.pos,hs.le,hs.take,hs.rest⟩
  ·obtain⟨q1,q2⟩:=hs.one fQ;subst q1 q2 hm1 ha1;exact⟨nx,x,ho,he,hs.sgn,hs.pos,hs.le,hs.take,hs.rest⟩
 cases hy:takeN l (aL:Int) with
 | none =>
  have aP:∀ ls,¬ DK l n ls:=λ ls aM=>by
   obtain⟨nx,x,_,_,h,_⟩:=key ls aM;rw [hy] at h;cases h
  exact⟨_,_,_,rfl,Ah (λ _=>stay aP) (λ _=>Ah (λ _=>stay aP) (λ h=>absurd h (by decide)))⟩
 | some y =>
 rw [Qn];have nz:=Az (n:=y.1) (k:=y.2) hy;have l9:=GQ nz.1;rw [Aj (n:=(n:Int)) (by omega) (by omega)];refine⟨_,_,_,rfl,Ah (λ mw=>stay λ ls aM=>?_) (λ oY=>Ah (λ h=>absurd rfl h) (λ _=>Aa (λ gB=>stay λ ls aM=>?_) (λ dX=>?_)))⟩
 ·obtain⟨_,_,_,h,_⟩:=key ls aM;exact mw h
 ·obtain⟨_,_,_,_,_,_,h,_⟩:=key ls aM;have:=aM.len;omega
 have eE:many<=n:=by omega
 rw [wrap_i64 (n:=(many:Int)) (by omega) (by omega)];refine⟨λ s w5=>∃(j:Nat) (o2:List Int) (oa:Option Addr) (oc:Nat),s=[.slice oa o2.length oc,.int .i64 (j:Int)]/\j<=many/\o2=out++Ak9 j (CB y.1)/\FJ w w5 o2 oa oc,λ s _=>match s with
   | [_,.int _ i]=>many-i.toNat
   | _=>0,⟨0,out,oa,oc,rfl,by omega,by simp,h1⟩,?_⟩
 rintro sF _ sG _ w5 ⟨j,o2,_,_,aA,hj,iD,h5⟩;cases aA;have vv:o2.length=out.length+j:=by rw [iD];simp
 have oT:∀ x∈o2,Fs x:=by
  intro x hx;rw [iD] at hx;rcases Al8.1 hx with h | h
  ·exact hI x h
  ·rw [(List.mem_replicate.1 h).2];exact l9
 refine Aa (λ ao=>?_) (λ br=>?_)
 ·refine (SH.start (λ _=>False) w5).An λ b6 w6 kb B6 S6=>Gc (h5.grown B6) (by omega) (S6.get 0 rfl) λ a7 c7 w7 h7=>⟨_,_,_,rfl,?_⟩;rw [Ae (by omega)];refine⟨⟨j+1,_,a7,c7,rfl,by omega,?_,h7⟩,?_⟩
  ·rw [iD,List.replicate_succ',Alc]
  ·simp only [Ale];omega
 ·have vW:j=many:=by omega
  subst vW;refine Ao (λ fU=>?_) (λ fU=>?_)
  ·refine⟨o2,sF,sG,rfl,h5,oT,by omega,λ ls aM=>?_⟩;obtain⟨_,_,_,_,_,h,_⟩:=key ls aM;omega
  ·refine⟨⟨y.2,o2,sF,sG,rfl,h5,oT,by omega,by omega,?_⟩,?_⟩
   ·intro ls aM;obtain⟨nx,x,g1,_,g3,g4,g5,g7,g8⟩:=key ls aM;rw [hy] at g3;have lI:=Ami g3;have ex:CB y.1=x:=by rw [lI];exact Gq
    have tg:y.2=nx:=by rw [lI]
    refine⟨out.length+j,g5,?_,by rw [tg];exact g8⟩;rw [iD,g7,<- g1,ex]
   ·show n-o2.length<n-out.length;omega
end
theorem AfD{s:Nat}(hs:s<18446744073709551616)(h:s % 2=1):IntKind.i64.wrap (IntKind.i64.wrap (0-IntKind.i64.wrap (IntKind.u64.wrap (AlT (s:Int) 2)))-1)=CB s:=by
 have e2:IntKind.u64.wrap (AlT (s:Int) 2)=((s / 2:Nat):Int):=by rw [AlP (by omega),Aj (by omega) (by omega)];omega
 unfold CB;rw [if_pos h,e2,wrap_i64 (n:=((s / 2:Nat):Int)) (by omega) (by omega),wrap_i64 (n:=0-((s / 2:Nat):Int)) (by omega) (by omega),wrap_i64 (by omega) (by omega)];omega
theorem Adi{s:Nat}(hs:s<18446744073709551616)(h:¬ s % 2=1):IntKind.i64.wrap (IntKind.u64.wrap (AlT (s:Int) 2))=CB s:=by
 have e2:IntKind.u64.wrap (AlT (s:Int) 2)=((s / 2:Nat):Int):=by rw [AlP (by omega),Aj (by omega) (by omega)];omega
 unfold CB;rw [if_neg h,e2,wrap_i64 (by omega) (by omega)]
section
variable {w:World}{a:Option Addr}{c:Nat}{l:List UInt8}
theorem Wo(hl:Rd w a (l.map Ag))(hc:l.length<=c)(hs:l.length<=9223372036854775807)(h0:0<l.length){fm:Nat}(cf:fm=(l.getD 0 0).toNat)(hf:fm=2\/fm=3){n:Nat}(hn:n<=4096) :
  Calls Tryz.prog f.YK #[.slice a l.length c,.int .i64 (n:Int)] w (AG λ v w'=>IA l n w w' v):=by
 apply R.Om
 delta R.Ad R.Ka R.AR R.D R.F R.I R.J R.Ks R.Lu R.Ly R.N R.O R.KV R.EM R.S R.W R.Wu R.X R.Y;try dsimp only [R.Ps]
 refine (FW hl hs 1 (by decide)).mono ?_;rintro _ w ⟨_,rfl,rfl,rfl⟩;have zero:n=0->IA l n w w (.slice none 0 0):=λ h=>⟨[],none,0,rfl,FJ.nil w,by simp,by simp,λ ls aM=>(List.eq_nil_of_length_eq_zero (by rw [aM.len,h])).symm⟩;cases hy:takeN l 1 with
 | none =>
  refine⟨_,_,_,rfl,Ao (λ h=>zero (by omega)) (λ jb=>Ah (λ _=>IA.bad (.refl _ _) λ ls aM=>?_) (λ h=>absurd h (by decide)))⟩;obtain⟨k1,k2,k3,_⟩:=Hy aM cf hf (by omega);have:=(ET k3 k1 k2).1;rw [hy] at this;cases this
 | some y =>
 rw [Qn];have nz:=Az (n:=y.1) (k:=y.2) hy;have l9:Fs (CB y.1):=GQ nz.1;refine⟨_,_,_,rfl,Ao (λ h=>zero (by omega)) (λ jb=>Ah (λ h=>absurd rfl h) (λ _=>Aa (λ gB=>IA.bad (.refl _ _) λ ls aM=>?_) (λ aB=>?_)))⟩
 ·obtain⟨k1,k2,k3,_⟩:=Hy aM cf hf (by omega);obtain⟨q1,q2,_⟩:=ET k3 k1 k2;rw [hy] at q1;have:=Ami q1;have:y.2=1+(En (DP fm ls)).length:=by rw [this]
  omega
 have ct:0<n:=by omega
 have hj:y.2<l.length:=by omega
 have hg:l.getD y.2 0=l[y.2]:=Gy hj;have bg:=(l.getD 0 0).toNat_lt;have ud:=(l[y.2]).toNat_lt;have qp:∀(m:Nat),m=(if fm=2 then n-1 else n)->m<=4096->∀ ls,DK l n ls->GP (m:Int) (l[y.2].toNat:Int)/\Sb (l.drop (y.2+1)) m l[y.2].toNat/\BK (l.drop (y.2+1)) m l[y.2].toNat=LU fm ls/\CB y.1=DP fm ls:=by
  intro m hm ko ls aM;obtain⟨k1,k2,k3,k4⟩:=Hy aM cf hf ct;obtain⟨q1,q2,q3,q4⟩:=ET k3 k1 k2;rw [hy] at q1;have qo:=Ami q1;have qm:y.2=1+(En (DP fm ls)).length:=by rw [qo]
  have jl:y.1=D8 (DP fm ls):=by rw [qo]
  rw [<- qm,hg] at q3;rw [<- qm] at q4;rw [<- hm] at k4;obtain⟨u1,u2,u3⟩:=XA k4 ko k2;rw [q3,q4];exact⟨u1,u2,u3,by rw [jl];exact Gq⟩
 obtain⟨p,rfl,aE⟩:=DI hl h0;refine⟨⟨by omega,by omega⟩,_,aE,Ao (λ h3=>?_) (λ h3=>?_)⟩
 ·have tt:fm=3:=by omega
  have bW:¬ fm=2:=by omega
  refine (SH.start (λ _=>False) w).E5 λ w2 B2 _=>?_;rw [wrap_i64 (n:=(y.2:Int)+1) (by omega) (by omega),show ((y.2:Int)+1).toNat=y.2+1 by omega];refine⟨⟨by omega,by omega,by omega⟩,⟨by omega,by omega⟩,?_⟩;have hJ:=Jy (q:=y.2+1) (hl.grown B2) hc;obtain⟨p',hp',hcellj⟩:=byte_at (hl.grown B2) hj;cases hp';refine⟨_,by rw [Ale];exact hcellj,?_⟩;rw [wrap_i64 (n:=(l[y.2].toNat:Int)) (by omega) (by omega),<- AlE (i:=y.2+1) (l:=l)];refine (Gu hJ (n:Int) (l[y.2].toNat:Int) (by rw [AlE];omega)).mono ?_;rintro _ w3 ⟨_,rfl,xs,xa,xc,e,rfl,gb,B3,nw,aG⟩;rw [Ale,Ale] at aG;have C3:=Ac B2 B3;have key:=qp n (by rw [if_neg bW]) hn;refine⟨_,_,_,_,rfl,?_⟩;rcases aG with ⟨ha,hu,bP,rfl⟩ | ⟨aP,rfl,he⟩
  case inr =>
   refine Ah (λ _=>IA.bad C3 λ ls aM=>?_) (λ h=>by rw [he] at h;split at h <;> cases h);obtain⟨u1,u2,_⟩:=key ls aM;exact aP ⟨u1,u2⟩
  refine Ah (λ h=>absurd rfl h) (λ _=>?_);have dB:xs.length=n:=by rw [bP,Ch]
  refine⟨λ s w4=>∃(i:Nat) (out:List Int) (oa:Option Addr) (oc:Nat),s=[.slice oa out.length oc,.int .i64 (i:Int)]/\i<=n/\out.length=i/\(∀ x∈out,Fs x)/\FJ w3 w4 out oa oc/\(∀ ls,DK l n ls->out=ls.take i),λ s _=>match s with
    | [_,.int _ i]=>n-i.toNat
    | _=>0,⟨0,[],none,0,rfl,by omega,rfl,by simp,FJ.nil w3,λ _ _=>rfl⟩,?_⟩
  rintro oa _ oc _ w4 ⟨i,out,_,_,aA,hi,cE,lY,h4,hT⟩;cases aA;refine Aa (λ ao=>⟨⟨by omega,by omega⟩,?_⟩) (λ aI=>?_)
  ·have dP:i<xs.length:=by omega
   obtain⟨p2,rfl,hcx⟩:=GZ (gb.grown h4.Ar) dP;refine⟨_,by rw [Ale];exact hcx,(SH.start (λ _=>False) w4).An λ b5 w5 fg B5 S5=>Gc (h4.grown B5) (by omega) (S5.get 0 rfl) λ a6 c6 w6 h6=>⟨_,_,_,rfl,?_⟩⟩;rw [Ae (by omega)];refine⟨⟨i+1,_,a6,c6,rfl,by omega,by simp [cE],?_,h6,λ ls aM=>?_⟩,?_⟩
   ·intro x hx;rcases Al8.1 hx with h | h
    ·exact lY x h
    ·rw [Al9.1 h];exact F1 _
   ·obtain⟨_,_,u3,u4⟩:=key ls aM;have ny:xs=BI ls:=by rw [bP,u3];simp [LU,bW]
    have dS:i<ls.length:=by have:=aM.len;omega
    have ag:=AlS dS;have nA:DP fm ls=FK ls:=by simp [DP,bW]
    have dI:=UK ny (UH dS) dP;have bU:IntKind.i64.wrap (IntKind.u64.wrap (IntKind.u64.wrap (FK ls)+((ls[i]-FK ls).toNat:Int)))=ls[i]:=UI (aM.num _ ag) (DT aM.num (by omega) _) (MB ag);rw [hT ls aM,Al6 dS,u4,nA,dI,bU]
   ·simp only [Ale];omega
  ·refine⟨out,oa,oc,rfl,⟨h4.row,λ k hk=>Als C3.size (h4.new k hk),Ac C3 h4.Ar⟩,lY,by omega,λ ls aM=>?_⟩;rw [hT ls aM,AlK (by have:=aM.len;omega)]
 ·have bW:fm=2:=by omega
  refine (SH.start (λ _=>False) w).E5 λ w2 B2 _=>?_;rw [wrap_i64 (n:=(y.2:Int)+1) (by omega) (by omega),show ((y.2:Int)+1).toNat=y.2+1 by omega];refine⟨⟨by omega,by omega,by omega⟩,⟨by omega,by omega⟩,?_⟩;have hJ:=Jy (q:=y.2+1) (hl.grown B2) hc;obtain⟨p',hp',hcellj⟩:=byte_at (hl.grown B2) hj;cases hp';refine⟨_,by rw [Ale];exact hcellj,?_⟩;rw [wrap_i64 (n:=(l[y.2].toNat:Int)) (by omega) (by omega),<- AlE (i:=y.2+1) (l:=l),wrap_i64 (n:=(n:Int)-1) (by omega) (by omega)];obtain⟨m,hm⟩:∃ m,m=n-1:=⟨_,rfl⟩;have em:(n:Int)-1=(m:Int):=by omega
  rw [em];refine (Gu hJ (m:Int) (l[y.2].toNat:Int) (by rw [AlE];omega)).mono ?_;rintro _ w3 ⟨_,rfl,xs,xa,xc,e,rfl,gb,B3,nw,aG⟩;rw [Ale,Ale] at aG;have C3:=Ac B2 B3;have key:=qp m (by rw [if_pos bW];exact hm) (by omega);refine⟨_,_,_,_,rfl,?_⟩;rcases aG with ⟨ha,hu,bP,rfl⟩ | ⟨aP,rfl,he⟩
  case inr =>
   refine Ah (λ _=>IA.bad C3 λ ls aM=>?_) (λ h=>by rw [he] at h;split at h <;> cases h);obtain⟨u1,u2,_⟩:=key ls aM;exact aP ⟨u1,u2⟩
  refine Ah (λ h=>absurd rfl h) (λ _=>?_);have dB:xs.length=m:=by rw [bP,Ch]
  have fY:∀ x∈xs,x<18446744073709551616:=λ x hx=>by
   rw [bP] at hx;have:=OV _ _ _ x hx;have iS:l[y.2].toNat<=64:=by have:=ha.2.2.2;omega
   exact Nat.lt_of_lt_of_le this (Nat.pow_le_pow_right (n:=2) (by omega) iS)
  refine (SH.start (λ _=>False) w3).An λ b9 w9 rZ B9 S9=>?_;have h9:FJ w3 w9 [CB y.1] (some ⟨b9,0,none⟩) 1:=⟨⟨rfl,.inr ⟨b9,_,rfl,S9.get 0 rfl,by simp,by omega,rfl,by simp [EE]⟩⟩,λ k hk=>by cases hk;exact rZ,B9⟩;refine⟨λ s w4=>∃(i:Nat) (fi:Int) (out:List Int) (oa:Option Addr) (oc:Nat),s=[.int .i64 fi,.slice oa out.length oc,.int .i64 (i:Int)]/\i<=m/\out.length=1+i/\Fs fi/\(∀ x∈out,Fs x)/\FJ w3 w4 out oa oc/\(∀ ls,DK l n ls->out=ls.take (i+1)/\fi=ls.getD i 0),λ s _=>match s with
    | [_,_,.int _ i]=>m-i.toNat
    | _=>0,⟨0,CB y.1,[CB y.1],_,_,rfl,by omega,rfl,l9,λ x hx=>(by rw [Al9.1 hx];exact l9),h9,λ ls aM=>?_⟩,?_⟩
  ·obtain⟨_,_,_,u4⟩:=key ls aM;have hp:0<ls.length:=by have:=aM.len;omega
   rw [u4];unfold DP;rw [if_pos bW];cases ls with
   | nil=>simp at hp
   | cons x r=>exact⟨rfl,rfl⟩
  rintro fi oa _ oc _ w4 ⟨i,_,out,_,_,aA,hi,cE,kg,lY,h4,hT⟩;cases aA;refine Aa (λ ao=>⟨⟨by omega,by omega⟩,?_⟩) (λ aI=>?_)
  ·have dP:i<xs.length:=by omega
   have qg:=fY _ (AlS dP);obtain⟨p2,rfl,hcx⟩:=GZ (gb.grown h4.Ar) dP;refine⟨_,by rw [Ale];exact hcx,⟨by omega,by omega⟩,_,by rw [Ale];exact hcx,?_⟩;have tZ:Int.tmod (xs[i]:Int) 2=((xs[i] % 2:Nat):Int):=by rw [Int.tmod_eq_emod_of_nonneg (by omega)];omega
   rw [tZ,Ae (by omega)];have cM:m-((i+1:Nat):Int).toNat<m-((i:Nat):Int).toNat:=by
    simp only [Ale];omega
   have fin:∀ {w6:World} {a6:Option Addr} {c6:Nat},FJ w3 w6 (out++[IntKind.i64.wrap (fi+CB xs[i])]) a6 c6 ->
     (∃(i_1:Nat) (fi_1:Int) (out_1:List Int) (oa:Option Addr) (oc:Nat),[Value.int .i64 (IntKind.i64.wrap (fi+CB xs[i])),.slice a6 (out++[IntKind.i64.wrap (fi+CB xs[i])]).length c6,.int .i64 ((i+1:Nat):Int)]=[.int .i64 fi_1,.slice oa out_1.length oc,.int .i64 (i_1:Int)]/\i_1<=m/\out_1.length=1+i_1/\Fs fi_1/\(∀ x∈out_1,Fs x)/\FJ w3 w6 out_1 oa oc/\(∀ ls,DK l n ls->out_1=ls.take (i_1+1)/\fi_1=ls.getD i_1 0))/\m-((i+1:Nat):Int).toNat<m-((i:Nat):Int).toNat:=by
    intro w6 a6 c6 h6;refine⟨⟨i+1,_,_,a6,c6,rfl,by omega,by simp [cE];omega,F1 _,?_,h6,λ ls aM=>?_⟩,cM⟩
    ·intro x hx;rcases Al8.1 hx with h | h
     ·exact lY x h
     ·rw [Al9.1 h];exact F1 _
    ·obtain⟨_,_,u3,_⟩:=key ls aM;obtain⟨t1,t2⟩:=hT ls aM;have ny:xs=Bz ls:=by rw [bP,u3];simp [LU,bW]
     have dS:i+1<ls.length:=by have:=aM.len;omega
     have dI:=UK ny (VA dS) dP;have bU:IntKind.i64.wrap (fi+CB xs[i])=ls[i+1]:=by
      rw [dI,Gq,t2,Fe (by omega)];exact XE (aM.num _ (AlS _)) (aM.num _ (AlS _))
     rw [bU,t1,Al6 dS,Fe dS];exact⟨rfl,rfl⟩
   refine Ao (λ vw=>?_) (λ vw=>?_)
   ·rw [AfD qg (by omega)];exact (SH.start (λ _=>False) w4).An λ b5 w5 fg B5 S5=>Gc (h4.grown B5) (by omega) (S5.get 0 rfl) λ a6 c6 w6 h6=>⟨_,_,_,rfl,fin h6⟩
   ·rw [Adi qg (by omega)];exact (SH.start (λ _=>False) w4).An λ b5 w5 fg B5 S5=>Gc (h4.grown B5) (by omega) (S5.get 0 rfl) λ a6 c6 w6 h6=>⟨_,_,_,rfl,fin h6⟩
  ·refine⟨out,oa,oc,rfl,⟨h4.row,λ k hk=>Als C3.size (h4.new k hk),Ac C3 h4.Ar⟩,lY,by omega,λ ls aM=>?_⟩;rw [(hT ls aM).1,AlK (by have:=aM.len;omega)]
theorem OD(hl:Rd w a (l.map Ag))(hc:l.length<=c)(hs:l.length<=9223372036854775807)(n:Int) :
  Calls Tryz.prog f.YH #[.slice a l.length c,.int .i64 n] w (AG λ v w'=>Gw l n w w' v):=by
 apply R.Oi
 delta R.AR R.Cs R.F R.H R.I R.Ly R.O R.Rt R.S R.W R.X R.Zs;try dsimp only [R.Ps]
 refine Aa (λ h=>Gw.arg (.refl _ _) (by unfold Cj;omega)) (λ h1=>Aa (λ h=>Gw.arg (.refl _ _) (by unfold Cj;omega)) (λ h2=>?_));have aU:Cj n:=⟨by omega,by omega⟩;obtain⟨n,rfl⟩:∃ m:Nat,n=(m:Int):=⟨n.toNat,by omega⟩;have hn:n<=4096:=by omega
 refine Ao (λ h=>Gw.bad (.refl _ _) aU λ ms hm=>by have:=hm.2;omega) (λ aQ=>?_);have h0:0<l.length:=by omega
 obtain⟨p,rfl,aE⟩:=DI hl h0;have bg:=(l.getD 0 0).toNat_lt;refine⟨⟨by omega,by omega⟩,_,aE,Aa (λ h=>Gw.bad (.refl _ _) aU λ ms hm=>by have:=hm.1.form;omega) (λ hle=>?_)⟩;obtain⟨fm,cf⟩:∃ fm,fm=(l.getD 0 0).toNat:=⟨_,rfl⟩;rw [<- cf] at aE hle;refine⟨λ s w3=>∃(ms:List Int) (a':Option Addr) (c':Nat),s=[.slice a' ms.length c']/\FJ w w3 ms a' c'/\(∀ x∈ms,Fs x)/\ms.length<=100000/\∀ ls,DK l n ls->ms=ls,?_,?_⟩
 ·refine⟨⟨by omega,by omega⟩,_,aE,Aa (λ h=>?_) (λ h=>?_)⟩
  ·refine (Vj hl hs h0 cf (by omega) hn).mono ?_;rintro _ w1 ⟨_,rfl,ms,a1,c1,rfl,q⟩;exact⟨_,_,_,rfl,ms,a1,c1,rfl,q⟩
  ·refine (Wo hl hc hs h0 cf (by omega) hn).mono ?_;rintro _ w1 ⟨_,rfl,ms,a1,c1,rfl,q⟩;exact⟨_,_,_,rfl,ms,a1,c1,rfl,q⟩
 rintro a3 _ c3 w3 ⟨ms,_,_,aA,h3,mJ,qK,aF⟩;cases aA;refine Ah (λ hlen=>Gw.bad h3.Ar aU λ ls aM=>?_) (λ hlen=>?_)
 ·rw [Ale] at aM;have:=aF ls aM.1;have:=aM.1.len
  subst_vars
  omega
 have og:ms.length<=4096:=by omega
 obtain⟨p',hp',hcell3⟩:=DI (hl.grown h3.Ar) h0;cases hp';rw [<- cf] at hcell3;refine⟨⟨by omega,by omega⟩,_,hcell3,?_⟩;rw [wrap_i64 (by omega) (by omega)];refine (Fy (fm:Int) h3.row.rd mJ).mono ?_;rintro _ w4 ⟨_,rfl,hE⟩;obtain⟨a4,c4,rfl,h4⟩:=Kc.D7 (by omega) og hE;have C4:=Ac h3.Ar h4.Ar;refine⟨_,_,_,_,rfl,Ax CA (l:=DR fm ms) rfl h4.rd ⟨_,rfl,Ax CA rfl (hl.grown C4) ⟨_,rfl,?_⟩⟩⟩;rw [A0];refine As (Aa (λ he=>?_) (λ he=>Gw.bad C4 aU λ ls aM=>he ?_))
 ·have k6:DR fm ms=l:=by have:=congrArg bl he;rwa [BN,BN] at this
  refine⟨ms,a3,c3,0,rfl,h3.row.rd.grown h4.Ar,C4,og,mJ,.inr (.inl ⟨aU,?_,h0,?_,rfl⟩)⟩
  ·rw [Ale];exact⟨by omega,mJ,by omega,by rw [<- cf];exact k6.symm⟩
  ·intro ls aM;rw [Ale] at aM;exact (aF ls aM).symm
 ·rw [Ale] at aM;have h1:=aF ls aM.1;have h2:=aM.1.enc;rw [<- cf] at h2;rw [h1,<- h2]
end
def CQ(bits:List Nat):Nat:=bits.countP λ b=>decide (b=0)
theorem VP{bits:List Nat}{i:Nat}(hi:i<bits.length):CQ (bits.take (i+1))=CQ (bits.take i)+if bits[i]=0 then 1 else 0:=by
 unfold CQ;rw [Al6 hi,List.countP_append];by_cases h:bits[i]=0 <;> simp [h]
theorem AbP{bits:List Nat}(i:Nat):CQ (bits.take i)<=CQ bits:=by
 unfold CQ;exact (List.take_sublist i bits).countP_le
theorem VO(ls:List AB):CQ (A4 ls)=(AQ ls).length:=by
 induction ls with
 | nil=>rfl
 | cons v ls ih =>
  unfold CQ A4 AQ at ih ⊢;by_cases h:v.1=0
  ·simp [h] at ih ⊢;exact ih
  ·simp [h] at ih ⊢;omega
def Zq(kind:Int)(bits:List Nat)(l:List UInt8)(w w':World)(v:Value):Prop :=
 ∃(vs:List AB) (a:Option Addr) (c:Nat) (ok:Bool),v=.tuple #[.slice a vs.length c,.bool ok]/\XR w w' a (AP vs)/\Below w.heap.size w w'/\vs.length<=4096/\(∀ v∈vs,BL v) /\
  ∀ ls,Be kind ls->bits=A4 ls->(Au ls<ls.length->D9 kind ls l)->(¬ Au ls<ls.length->l=[])->ok=true/\vs=ls
theorem Zq.bad{kind:Int}{bits:List Nat}{l:List UInt8}{w w':World}(hb:Below w.heap.size w w')(h:∀ ls,Be kind ls->bits=A4 ls->(Au ls<ls.length->D9 kind ls l)->(¬ Au ls<ls.length->l=[])->False):Zq kind bits l w w' (.tuple #[.slice none 0 0,.bool false]) :=
 ⟨[],none,0,false,rfl,XR.nil _ _,hb,by simp,by simp,λ ls h1 h2 h3 h4=>(h ls h1 h2 h3 h4).elim⟩
section
variable {w:World}{ab a:Option Addr}{cb c:Nat}{bits:List Nat}{l:List UInt8}
theorem TC(kind:Int)(hb:Rd w ab (bits.map E1))(hl:Rd w a (l.map Ag))(hc:l.length<=c)(hs:l.length<=9223372036854775807)(au:bits.length<=1024){many:Nat}(eE:many=CQ bits) :
  Calls Tryz.prog f.YR #[.int .i64 kind,.slice ab bits.length cb,.int .i64 (many:Int),.slice a l.length c] w (AG λ v w'=>Zq kind bits l w w' v):=by
 apply R.Ow
 delta R.A R.Ab R.Ad R.AR R.F R.G R.H R.I R.J R.Ks R.Li R.Lt R.Lu R.N R.O R.Aer R.S R.Am R.T R.W R.X R.Zb R.AjK;try dsimp only [R.Ps]
 have ko:many<=bits.length:=by rw [eE];exact AmF
 have oR:∀ ls,bits=A4 ls->(AQ ls).length=many/\ls.length=bits.length/\(Au ls<ls.length↔0<many):=by
  rintro ls rfl;have h1:=VO ls;have h2:=Sx ls;refine⟨by rw [eE,h1],by simp [A4],by omega⟩
 refine⟨λ s w4=>∃(ns:List Int) (na:Option Addr) (nc:Nat) (ss:List ByteArray) (sa:Option Addr) (sc:Nat) (e:Int),s=[.slice na ns.length nc,.slice sa ss.length sc,.int .i64 e]/\Rd w4 na (ns.map EE)/\Rd w4 sa (ss.map Value.string)/\Below w.heap.size w w4/\(∀ x∈ns,Fs x) /\
   (e=0->(kind=3->ss.length=many)/\(kind≠3->ns.length=many)) /\
   (∀ ls,Be kind ls->bits=A4 ls->(Au ls<ls.length->D9 kind ls l)->(¬ Au ls<ls.length->l=[])->e=0/\(kind=3->ss=BB ls)/\(kind≠3->ns=CS ls)),?_,?_⟩
 ·refine⟨λ s w1=>∃ t:Bool,s=[.bool t]/\w1=w/\(t=true↔0<many/\kind=3),?_,?_⟩
  ·refine Aa (λ h=>⟨_,rfl,rfl,by simp;omega⟩) (λ h=>⟨_,rfl,rfl,by simp;omega⟩)
  rintro _ w1 ⟨t,aA,rfl,ht⟩;cases aA;refine Aq (λ h=>?_) (λ h=>?_)
  ·obtain⟨fU,h3⟩:=ht.1 h;refine (Wm hl hc hs (many:Int)).mono ?_;rintro _ w2 ⟨_,rfl,ss,a2,c2,e2,rfl,R2,B2,l2,q2⟩;have aU:Cj (many:Int):=⟨by omega,by omega⟩;rw [Ale] at q2;refine⟨_,_,_,_,rfl,[],none,0,ss,a2,c2,e2,rfl,Rd.nil _ _,R2,B2,by simp,λ he=>⟨λ _=>?_,λ h=>absurd h3 h⟩,λ ls hg bX ho hz=>?_⟩
   ·rcases q2 with ⟨k1,_⟩ | ⟨_,k2,_,_⟩ | ⟨_,_,_,k4⟩
    ·exact absurd aU k1
    ·exact k2.len
    ·rw [he] at k4;cases k4
   ·obtain⟨g1,g2,g3⟩:=oR ls bX;subst h3;obtain⟨d1,d2⟩:=Xe hg (ho (g3.2 fU));have bQ:=NT hg rfl;have eU:(BB ls).length=many:=by rw [<- g1,bQ,List.length_map]
    rw [eU] at d1;rcases q2 with ⟨k1,_⟩ | ⟨_,k2,k3,_⟩ | ⟨_,k2,_⟩
    ·exact absurd aU k1
    ·exact⟨k3,λ _=>k2.one d1,λ h=>absurd rfl h⟩
    ·exact absurd ⟨d1,d2⟩ (k2 _)
  ·have aP:¬ (0<many/\kind=3):=λ hh=>by rw [ht.2 hh] at h;cases h
   refine Aa (λ hm=>?_) (λ hm=>Aa (λ yN=>Zq.bad (.refl _ _) λ ls hg bX ho hz=>?_) (λ yN=>?_))
   ·have h3:kind≠3:=λ hk=>aP ⟨by omega,hk⟩;refine (OD hl hc hs (many:Int)).mono ?_;rintro _ w2 ⟨_,rfl,ns,a2,c2,e2,rfl,R2,B2,l2,hI,q2⟩;have aU:Cj (many:Int):=⟨by omega,by omega⟩;rw [Ale] at q2;refine⟨_,_,_,_,rfl,ns,a2,c2,[],none,0,e2,rfl,R2,Rd.nil _ _,B2,hI,λ he=>⟨λ h=>absurd h h3,λ _=>?_⟩,λ ls hg bX ho hz=>?_⟩
    ·rcases q2 with ⟨k1,_⟩ | ⟨_,k2,_,_,_⟩ | ⟨_,_,_,k4⟩
     ·exact absurd aU k1
     ·exact k2.len
     ·rw [he] at k4;cases k4
    ·obtain⟨g1,g2,g3⟩:=oR ls bX;obtain⟨d1,d2⟩:=AaB hg h3 (ho (g3.2 (by omega)));have bQ:=Q4 hg h3;have eU:(CS ls).length=many:=by rw [<- g1,bQ,List.length_map]
     rw [eU] at d1;rcases q2 with ⟨k1,_⟩ | ⟨_,_,_,k2,k3⟩ | ⟨_,k2,_⟩
     ·exact absurd aU k1
     ·exact⟨k3,λ h=>absurd h h3,λ _=>(k2 _ d1).symm⟩
     ·exact absurd ⟨d1,d2⟩ (k2 _)
   ·obtain⟨g1,g2,g3⟩:=oR ls bX;have:=hz (λ h=>by have:=g3.1 h;omega);subst this;simp at yN
   ·have fU:many=0:=by omega
    refine⟨[],none,0,[],none,0,0,rfl,Rd.nil _ _,Rd.nil _ _,.refl _ _,by simp,λ _=>⟨λ _=>by simp [fU],λ _=>by simp [fU]⟩,λ ls hg bX ho hz=>?_⟩;obtain⟨g1,g2,g3⟩:=oR ls bX;have hf:AQ ls=[]:=List.eq_nil_of_length_eq_zero (by omega);exact⟨rfl,λ _=>by simp [BB,hf],λ _=>by simp [CS,hf]⟩
 rintro na _ nc sa _ sc e w4 ⟨ns,_,_,ss,_,_,_,aA,gZ,hRs,B4,hI,qM,hP⟩;cases aA;refine Ah (λ h=>Zq.bad B4 λ ls h1 h2 h3 h4=>h (hP ls h1 h2 h3 h4).1) (λ he=>?_);obtain⟨len3,lenN'⟩:=qM he;refine⟨λ s w5=>∃(i:Nat) (vs:List AB) (oa:Option Addr) (oc:Nat),s=[.slice oa vs.length oc,.int .i64 (CQ (bits.take i):Int),.int .i64 (i:Int)]/\i<=bits.length/\vs.length=i/\(∀ v∈vs,BL v)/\O5 w4 w5 vs oa oc /\
   (∀ ls,Be kind ls->bits=A4 ls->(Au ls<ls.length->D9 kind ls l)->(¬ Au ls<ls.length->l=[])->vs=ls.take i),λ s _=>match s with
   | [_,_,.int _ i]=>bits.length-i.toNat
   | _=>0,⟨0,[],none,0,rfl,by omega,rfl,by simp,O5.nil w4,λ _ _ _ _ _=>rfl⟩,?_⟩
 rintro oa _ oc _ _ w5 ⟨i,vs,_,_,aA,hi,iI,gN,h5,hT⟩;cases aA;have zle:=AbP (bits:=bits) i;refine Aa (λ aB=>?_) (λ aI=>?_)
 ·have aD:i<bits.length:=by omega
  refine (SH.start (λ _=>False) w5).II λ eh w9 jC B9 S9=>⟨⟨by omega,aB⟩,?_⟩;obtain⟨p,rfl,aE⟩:=GZ ((hb.grown B4).grown (Ac h5.Ar B9)) aD;have kB:=VP aD;have zle2:=AbP (bits:=bits) (i+1);have cM:bits.length-((i+1:Nat):Int).toNat<bits.length-((i:Nat):Int).toNat:=by
   simp only [Ale];omega
  have xC:CQ (bits.take i)<=1024:=by
   have:CQ bits<=bits.length:=AmF;omega
  have bit:∀ {ls:List AB} (h:bits=A4 ls) (hl:i<ls.length),bits[i]=if ls[i].1=0 then 1 else 0:=by
   intro ls h hl;subst h;simp [A4]
  rw [Ae (k:=i) (by omega)];have next:∀ {wx:World} {b:Nat} {t:TypeId} {x:AB} {z:Nat},Below w5.heap.size w5 wx->wx.heap[b]?=some (.cells #[.int .i64 x.1,.int .i64 x.2.1,.string x.2.2] t (0,0))->BL x->CQ (bits.take (i+1))=z ->
    (∀ ls,Be kind ls->bits=A4 ls->(Au ls<ls.length->D9 kind ls l)->(¬ Au ls<ls.length->l=[])->∀ hl:i<ls.length,ls[i]=x) ->
    DB Tryz.prog (Builtin.append_ #[ty.CD,ty.CD] ty.CD #[.slice oa vs.length oc,.slice (some ⟨b,0,none⟩) 1 1]) (λ r al=>∃(t73:Option Addr) (qu qt:Nat),r=.slice t73 qu qt /\
     (∃(i_1:Nat) (vs:List AB) (oa:Option Addr) (oc:Nat),[Value.slice t73 qu qt,.int .i64 (z:Int),.int .i64 ((i+1:Nat):Int)]=[.slice oa vs.length oc,.int .i64 (CQ (bits.take i_1):Int),.int .i64 (i_1:Int)]/\i_1<=bits.length/\vs.length=i_1/\(∀ v∈vs,BL v)/\O5 w4 al vs oa oc /\
      (∀ ls,Be kind ls->bits=A4 ls->(Au ls<ls.length->D9 kind ls l)->(¬ Au ls<ls.length->l=[])->vs=ls.take i_1))/\bits.length-((i+1:Nat):Int).toNat<bits.length-((i:Nat):Int).toNat) wx:=by
   intro wx b t x z Bx y9 hx hz hPx;refine NJ (h5.grown Bx) (by omega) y9 λ a7 c7 w7 h7=>⟨_,_,_,rfl,⟨i+1,_,a7,c7,by rw [hz],by omega,by simp [iI],?_,h7,λ ls g1 g2 g3 g4=>?_⟩,cM⟩
   ·intro v hv;rcases Al8.1 hv with h | h
    ·exact gN v h
    ·rw [Al9.1 h];exact hx
   ·have cl:i<ls.length:=by have:=(oR ls g2).2.1;omega
    rw [hT ls g1 g2 g3 g4,Al6 cl,hPx ls g1 g2 g3 g4 cl]
  refine⟨_,by rw [Ale];exact aE,Ao (λ hz=>?_) (λ jb=>?_)⟩
  ·have eA:bits[i]=0:=by omega
   rw [if_pos eA] at kB;rw [Ae (by omega)];have hzlt:CQ (bits.take i)<many:=by omega
   have at_of:∀ {ls:List AB},bits=A4 ls->∀ hl:i<ls.length,(AQ ls)[CQ (bits.take i)]?=some ls[i]:=by
    intro ls g2 hl;have cI:=bit g2 hl;have jb:¬ ls[i].1=0:=λ h=>by rw [if_pos h] at cI;omega
    have bQ:=CU hl;rw [if_neg jb] at bQ;have cY:AQ (ls.take (i+1)) <+: AQ ls:=by
     unfold AQ;exact (List.take_prefix (i+1) ls).filter _
    rw [bQ] at cY;obtain⟨r,hr⟩:=cY;have e1:CQ (bits.take i)=(AQ (ls.take i)).length:=by
     rw [<- VO];congr 1;rw [g2];unfold A4;rw [AlG]
    rw [e1,<- hr,Alc];simp
   refine S9.I2 0 rfl (aC:=#[.int .i64 kind,.int .i64 0,.string ⟨#[]⟩]) (show 0<3 by decide) rfl λ bV xN js=>?_;have bp:Below w5.heap.size w5 bV:=js.below;refine Ao (λ h3=>⟨⟨by omega,by have:=len3 h3;omega⟩,?_⟩) (λ h3=>⟨⟨by omega,by have:=lenN' h3;omega⟩,?_⟩)
   ·have bD:CQ (bits.take i)<ss.length:=by have:=len3 h3;omega
    obtain⟨ps,rfl,aj⟩:=Fa (hRs.grown (Ac h5.Ar bp)) bD;refine⟨_,by rw [Ale];exact aj,js.I2 0 rfl (aC:=#[.int .i64 kind,.int .i64 0,.string ss[CQ (bits.take i)]]) (show 2<3 by decide) rfl λ aY eL bE=>?_⟩;refine⟨_,bE.cell 0 rfl rfl,_,bE.cell 0 rfl rfl,_,bE.cell 0 rfl rfl,bE.An λ xW bK kZ ic lC=>next (x:=(kind,0,ss[CQ (bits.take i)])) lC.below (lC.get 0 rfl) ⟨by simp,by simp⟩ kB λ ls g1 g2 g3 g4 cl=>?_⟩;have wg:=(hP ls g1 g2 g3 g4).2.1 h3;have hf:=at_of g2 cl;rw [NT g1 h3,<- wg,List.getElem?_map,Al5 bD] at hf;exact (Ami hf).symm
   ·have bn:CQ (bits.take i)<ns.length:=by have:=lenN' h3;omega
    obtain⟨pn,rfl,lP⟩:=Dq (gZ.grown (Ac h5.Ar bp)) bn;have yd:=hI _ (AlS bn);refine⟨_,by rw [Ale];exact lP,js.I2 0 rfl (aC:=#[.int .i64 kind,.int .i64 ns[CQ (bits.take i)],.string ⟨#[]⟩]) (show 1<3 by decide) rfl λ aY eL bE=>?_⟩;refine⟨_,bE.cell 0 rfl rfl,_,bE.cell 0 rfl rfl,_,bE.cell 0 rfl rfl,bE.An λ xW bK kZ ic lC=>next (x:=(kind,ns[CQ (bits.take i)],E0)) lC.below (lC.get 0 rfl) ⟨yd.1,yd.2⟩ kB λ ls g1 g2 g3 g4 cl=>?_⟩;have wg:=(hP ls g1 g2 g3 g4).2.2 h3;have hf:=at_of g2 cl;rw [Q4 g1 h3,<- wg,List.getElem?_map,Al5 bn] at hf;exact (Ami hf).symm
  ·have eA:¬ bits[i]=0:=by omega
   rw [if_neg eA,Nat.add_zero] at kB;refine⟨_,S9.cell 0 rfl rfl,_,S9.cell 0 rfl rfl,_,S9.cell 0 rfl rfl,S9.An λ xW bK kZ ic lC=>next (x:=(0,0,E0)) lC.below (lC.get 0 rfl) ⟨by simp,by simp⟩ kB λ ls g1 g2 g3 g4 cl=>?_⟩;have cI:=bit g2 cl;have o5:ls[i].1=0:=by
    by_cases h:ls[i].1=0
    ·exact h
    ·rw [if_neg h] at cI;exact absurd cI eA
   exact g1.null _ (AlS cl) o5
 ·refine⟨vs,oa,oc,true,rfl,⟨h5.row.rd,λ k hk=>Als B4.size (h5.new k hk)⟩,Ac B4 h5.Ar,by omega,gN,λ ls g1 g2 g3 g4=>⟨rfl,?_⟩⟩;have:=(oR ls g2).2.1;rw [hT ls g1 g2 g3 g4,AlK (by omega)]
end
section
variable {w:World}{a:Option Addr}{c:Nat}{l:List UInt8}
theorem TB(hl:Rd w a (l.map Ag))(hc:l.length<=c)(hs:l.length<=9223372036854775807) :
  Calls Tryz.prog f.YP #[.slice a l.length c] w (AG λ v w'=>QH l w w' v):=by
 apply R.Ou
 delta R.Ad R.AbS R.AR R.Bu R.F R.G R.H R.I R.Lu R.Ly R.O R.NH R.Rs R.Rt R.S R.Am R.U R.W R.X R.Y R.Z R.Zb R.Zis;try dsimp only [R.Ps]
 refine Aa (λ h=>QH.bad (.refl _ _) λ K ls hg hC=>by have:=(hC.read hg).2.1;omega) (λ aI=>?_);have h0:0<l.length:=by omega
 obtain⟨li,jT⟩:∃ li,li=l.take (l.length-4):=⟨_,rfl⟩;have aB:li.length=l.length-4:=by rw [jT,Al7];omega
 have rW:∀ K ls,Be K ls->KR K ls l->E2 K ls li:=λ K ls hg hC=>by rw [jT];exact (hC.read hg).1
 have eC:l.getD 0 0=li.getD 0 0:=by
  rw [jT];have:0<l.length-4:=by omega
  simp only [List.getD,List.getElem?_take,if_pos this]
 have bD:=hl.OY 0 (l.length-4) c 1 (by omega);rw [Alh,AmE,Alh,List.drop_zero,<- AlG,<- jT] at bD;obtain⟨p,rfl,aE⟩:=DI hl h0;have bg:=(l.getD 0 0).toNat_lt;rw [wrap_i64 (n:=(l.length:Int)-4) (by omega) (by omega),show ((l.length:Int)-4).toNat=li.length by omega,AmE,AmE];refine⟨⟨by omega,by omega⟩,_,aE,⟨by omega,by omega,by omega⟩,?_⟩;obtain⟨ai,hai⟩:∃ ai,ai=Cm (some p) 0 c 1:=⟨_,rfl⟩;rw [<- hai] at bD ⊢;have vf:li.length<=c:=by omega
 have qN:li.length<=9223372036854775807:=by omega
 refine (AJ bD qN 1 (by decide)).mono ?_;rintro _ w ⟨_,rfl,rfl,rfl⟩;obtain⟨n,aL,e1,hv1,cI,cH⟩:∃(n aL:Nat) (e1:Int),LR (takeN li 1)=.tuple #[.int .u64 (n:Int),.int .i64 (aL:Int),.int .i64 e1]/\(n<18446744073709551616/\aL<=li.length)/\(∀ K ls,E2 K ls li->e1=0/\n=ls.length/\takeN li 1=some (n,aL)):=by
  cases hx:takeN li 1 with
  | none =>
   refine⟨0,0,20,rfl,by omega,λ K ls hp=>?_⟩;obtain⟨_,_,_,q⟩:=hp.q;have:=q.n1;rw [hx] at this;cases this
  | some x =>
   have hb:=Az (n:=x.1) (k:=x.2) hx;refine⟨x.1,x.2,0,rfl,by omega,λ K ls hp=>?_⟩;obtain⟨_,_,_,q⟩:=hp.q;have:=q.n1;rw [hx] at this;have:=Ami this;exact⟨rfl,by rw [this],rfl⟩
 rw [hv1];refine⟨_,_,_,rfl,(AJ bD qN (aL:Int) (by omega)).mono ?_⟩;rintro _ w ⟨_,rfl,rfl,rfl⟩;obtain⟨no,aZ,e2,iH,dF,hP2⟩:∃(no aZ:Nat) (e2:Int),LR (takeN li (aL:Int))=.tuple #[.int .u64 (no:Int),.int .i64 (aZ:Int),.int .i64 e2]/\(no<18446744073709551616/\aZ<=li.length)/\(∀ K ls,E2 K ls li->e2=0/\no=Au ls/\∃ o,Ng K ls li aL aZ o):=by
  have step:∀ K ls,E2 K ls li->∃ aZ o,Ng K ls li aL aZ o:=by
   intro K ls hp;obtain⟨a1,a2,o,q⟩:=hp.q;have h1:=(cH K ls hp).2.2;have h2:=q.n1;rw [h1] at h2;obtain rfl:aL=a1:=by have:=Ami h2;simpa using congrArg Prod.snd this
   exact⟨a2,o,q⟩
  cases hx:takeN li (aL:Int) with
  | none =>
   refine⟨0,0,20,rfl,by omega,λ K ls hp=>?_⟩;obtain⟨_,_,q⟩:=step K ls hp;have:=q.n2;rw [hx] at this;cases this
  | some x =>
   have hb:=Az (n:=x.1) (k:=x.2) hx;refine⟨x.1,x.2,0,rfl,by omega,λ K ls hp=>?_⟩;obtain⟨a2,o,q⟩:=step K ls hp;have:=q.n2;rw [hx] at this;have ql:=Ami this;obtain rfl:x.2=a2:=by rw [ql]
   exact⟨rfl,by rw [ql],o,q⟩
 rw [iH,wrap_i64 (n:=((l.getD 0 0).toNat:Int)) (by omega) (by omega)];obtain⟨kd,rm⟩:∃ kd,kd=((l.getD 0 0).toNat:Int):=⟨_,rfl⟩;rw [<- rm];have bL:∀ {wx:World},Below w.heap.size w wx->(∀ K ls,¬ E2 K ls li)->QH l w wx (.tuple #[.int .i64 0,.slice none 0 0,.int .i64 80]):=λ B h=>QH.bad B λ K ls hg hC=>h K ls (rW K ls hg hC);have eD:∀ K ls,E2 K ls li->kd=K:=λ K ls hp=>by
  obtain⟨_,_,_,q⟩:=hp.q;rw [rm,eC];exact q.kind
 refine⟨_,_,_,rfl,Ah (λ h=>bL (.refl _ _) λ K ls hp=>h (cH K ls hp).1) (λ uy=>Ah (λ h=>bL (.refl _ _) λ K ls hp=>h (hP2 K ls hp).1) (λ mq=>Aa (λ h=>bL (.refl _ _) λ K ls hp=>?_) (λ eR=>Aa (λ h=>bL (.refl _ _) λ K ls hp=>?_) (λ gI =>
  Aa (λ h=>bL (.refl _ _) λ K ls hp=>?_) (λ cg=>Aa (λ h=>bL (.refl _ _) λ K ls hp=>?_) (λ bA=>?_))))))⟩
 ·have:=(cH K ls hp).2.1;have:=hp.D7.len;omega
 ·have:=(cH K ls hp).2.1;have:=(hP2 K ls hp).2.1;have:=Dc ls;omega
 ·have:=eD K ls hp;have:=hp.D7.kind;omega
 ·have:=eD K ls hp;have:=hp.D7.kind;omega
 have hn:n<=1024:=by omega
 have aP:no<=n:=by omega
 refine Ea tU (l:=(n:Int)) (c:=(n:Int)) (by omega) (by omega) (by omega) (by omega) λ bo w3 fO B3 gv=>?_;rw [Ale] at gv ⊢;have j6:w3.heap[bo]?=some (.cells ⟨Ak9 n (.int .u64 0)⟩ ty.uint64 (0,0)):=by
  have e:madeCells (Value.int .u64 0).cells (n*1)=⟨Ak9 n (.int .u64 0)⟩:=by
   apply Array.ext';rw [El _ rfl,Alh]
  rw [<- e];exact gv
 have rep:∀(k:Nat) (x:Nat),(Ak9 k x).map E1=Ak9 k (.int .u64 (x:Int)):=λ k x=>by rw [List.map_replicate];rfl
 refine⟨_,_,_,rfl,λ s w6=>∃(bH:Nat) (bits:List Nat) (ab:Option Addr) (cb:Nat),s=[.int .i64 (bH:Int),.slice ab bits.length cb]/\Rd w6 ab (bits.map E1)/\Below w.heap.size w w6/\bits.length<=1024/\bH<=li.length /\
   (no=n->ab=some ⟨bo,0,none⟩/\bits=Ak9 n 0/\w6.heap[bo]?=some (.cells ⟨Ak9 n (.int .u64 0)⟩ ty.uint64 (0,0))) /\
   (∀ K ls,E2 K ls li->(no≠n->bits=A4 ls)/\∃ o,Ng K ls li aL aZ o/\li.drop bH=o),?_,?_⟩
 ·refine⟨λ s w4=>∃ t:Bool,s=[.bool t]/\w4=w3/\(t=true↔0<no/\no<n),?_,?_⟩
  ·refine Aa (λ h=>⟨_,rfl,rfl,by simp;omega⟩) (λ h=>⟨_,rfl,rfl,by simp;omega⟩)
  rintro _ w4 ⟨t,aA,rfl,ht⟩;cases aA;refine Aq (λ h=>?_) (λ h=>?_)
  ·obtain⟨hm1,om⟩:=ht.1 h;obtain⟨sz,aw⟩:∃ sz,sz=DA n 1:=⟨_,rfl⟩;have wi:sz=(n+7) / 8:=by rw [aw];unfold DA;rw [Alh]
   have tj:IntKind.i64.wrap (AlT (IntKind.i64.wrap (IntKind.i64.wrap (n:Int)+7)) 8)=(sz:Int):=by
    rw [wrap_i64 (n:=(n:Int)) (by omega) (by omega),wrap_i64 (n:=(n:Int)+7) (by omega) (by omega),AlP (by omega),wrap_i64 (by omega) (by omega)];omega
   rw [tj,wrap_i64 (n:=(li.length:Int)-(aZ:Int)) (by omega) (by omega),wrap_i64 (n:=(n:Int)) (by omega) (by omega)];have di:∀ K ls,E2 K ls li->∃ o,Ng K ls li aL aZ o/\li.drop aZ=A5 (A4 ls) 1++o/\(A5 (A4 ls) 1).length=sz:=by
    intro K ls hp;obtain⟨_,gJ,o,q⟩:=hP2 K ls hp;have cm:=(cH K ls hp).2.1;refine⟨o,q,?_,?_⟩
    ·rw [q.rest];unfold DS;rw [if_pos (by omega)]
    ·rw [BR,aw,cm];simp [A4]
   refine Aa (λ h=>bL B3 λ K ls hp=>?_) (λ aI=>?_)
   ·obtain⟨o,_,e,e2⟩:=di K ls hp;have:=congrArg List.length e;rw [AlE,Alb] at this;omega
   rw [wrap_i64 (n:=(aZ:Int)+(sz:Int)) (by omega) (by omega)];refine⟨⟨by omega,by omega,by omega⟩,?_⟩;rw [Ale,show ((aZ:Int)+(sz:Int)).toNat=aZ+sz by omega,Nat.add_sub_cancel_left];have kz:=(bD.grown B3).OY aZ (aZ+sz) c 1 (by omega);rw [Alh,Alh,Nat.add_sub_cancel_left,<- List.map_drop,<- AlG] at kz;have nh:((li.drop aZ).take sz).length=sz:=by rw [Al7,AlE];omega
   have hU:=Gu (c:=c-aZ) kz (n:Int) 1 (by omega);rw [nh] at hU;refine hU.mono ?_;rintro _ w7 ⟨_,rfl,xs,xa,xc,e,rfl,gb,B7,nw,aG⟩;have C7:=Ac B3 B7;rw [Ale,show (1:Int).toNat=1 from rfl] at aG;have D7:∀ K ls,E2 K ls li->∃ o,Ng K ls li aL aZ o/\li.drop (aZ+sz)=o/\GP (n:Int) 1/\Sb ((li.drop aZ).take sz) n 1/\BK ((li.drop aZ).take sz) n 1=A4 ls:=by
    intro K ls hp;obtain⟨o,q,e3,e4⟩:=di K ls hp;have cm:=(cH K ls hp).2.1;have au:(A4 ls).length=n:=by rw [cm];simp [A4]
    have dA:(li.drop aZ).take sz=A5 (A4 ls) 1:=by rw [e3,<- e4,List.take_left]
    have gM:=Iv (TW ls);rw [au] at gM;rw [dA];exact⟨o,q,by rw [<- e4,<- List.drop_drop,e3,List.drop_left],⟨by omega,by omega,by omega,by omega⟩,⟨by rw [BR,au],by rw [gM]⟩,gM⟩
   rcases aG with ⟨_,_,bP,rfl⟩ | ⟨hno2,rfl,he⟩
   ·have dB:xs.length=n:=by rw [bP,Ch]
    refine⟨_,_,_,_,rfl,Ah (λ h=>absurd rfl h) (λ _=>⟨aZ+sz,xs,xa,xc,by simp,gb,C7,by omega,by omega,λ h=>absurd h (by omega),λ K ls hp=>?_⟩)⟩;obtain⟨o,q,g1,_,_,g4⟩:=D7 K ls hp;exact⟨λ _=>by rw [bP,g4],o,q,g1⟩
   ·refine⟨_,_,_,_,rfl,Ah (λ _=>bL C7 λ K ls hp=>?_) (λ h=>by rw [he] at h;split at h <;> cases h)⟩;obtain⟨o,_,_,g2,g3,_⟩:=D7 K ls hp;exact hno2 ⟨g2,g3⟩
  ·have bY:¬ (0<no/\no<n):=λ hh=>by rw [ht.2 hh] at h;cases h
   refine⟨aZ,Ak9 n 0,some ⟨bo,0,none⟩,n,by rw [List.length_replicate],?_,B3,by simp;omega,dF.2,λ _=>⟨rfl,rfl,j6⟩,λ K ls hp=>?_⟩
   ·have:=Rd.Ak j6;rw [rep];exact this
   ·obtain⟨_,gJ,o,q⟩:=hP2 K ls hp;have cm:=(cH K ls hp).2.1;refine⟨λ aQ=>?_,o,q,?_⟩
    ·rw [WO (by omega),cm]
    ·rw [q.rest];unfold DS;rw [if_neg (by omega)];rfl
 rintro _ ab _ cb w6 ⟨bH,bits,_,_,aA,rX,B6,au,uO,fM,oU⟩;cases aA;obtain⟨fin,cr⟩:∃ fin:List Nat,fin=(if no=n then Ak9 n 1 else bits):=⟨_,rfl⟩;have cd:fin.length=bits.length:=by
  rw [cr];split
  ·rename_i h;rw [(fM h).2.1];simp
  ·rfl
 have hPf:∀ K ls,E2 K ls li->fin=A4 ls:=by
  intro K ls hp;rw [cr];split
  ·rename_i h;have cm:=(cH K ls hp).2.1;have gJ:=(hP2 K ls hp).2.1;rw [ZK (by omega),cm]
  ·rename_i h;exact (oU K ls hp).1 h
 refine⟨λ s w7=>∃ i:Nat,i<=bits.length/\s=[.int .i64 (CQ (fin.take i):Int),.int .i64 (i:Int)]/\Below w.heap.size w w7/\((no=n/\Ai (λ k=>k=bo) w6 w7/\w7.heap[bo]?=some (.cells ⟨Ak9 i (.int .u64 1)++Ak9 (n-i) (.int .u64 0)⟩ ty.uint64 (0,0)))\/(no≠n/\w7=w6)),λ s _=>match s with
   | [_,.int _ i]=>bits.length-i.toNat
   | _=>0,⟨0,by omega,rfl,B6,?_⟩,?_⟩
 ·by_cases h:no=n
  ·exact .inl ⟨h,.refl _ _,by simpa using (fM h).2.2⟩
  ·exact .inr ⟨h,rfl⟩
 rintro _ _ w7 ⟨i,hi,aA,B7,aG⟩;cases aA;have xC:CQ (fin.take i)<=1024:=by
  have h1:CQ (fin.take i)<=(fin.take i).length:=AmF;rw [Al7] at h1;omega
 refine Aa (λ aB=>?_) (λ aI=>?_)
 ·have aD:i<bits.length:=by omega
  have vP:i<fin.length:=by omega
  have nT:no=n->bits.length=n:=λ h=>by rw [(fM h).2.1];simp
  refine⟨λ s w9=>s=[]/\Below w.heap.size w w9/\(∃ p,ab=some p/\w9.cell? (p.add (i*1))=some (.int .u64 (fin[i]:Int)))/\((no=n/\Ai (λ k=>k=bo) w6 w9/\w9.heap[bo]?=some (.cells ⟨Ak9 (i+1) (.int .u64 1)++Ak9 (n-(i+1)) (.int .u64 0)⟩ ty.uint64 (0,0)))\/(no≠n/\w9=w6)),?_,?_⟩
  ·refine Ao (λ heq=>⟨⟨by omega,aB⟩,?_⟩) (λ vm=>?_)
   ·have jO:no=n:=by omega
    rcases aG with ⟨_,K7,gY⟩ | ⟨h,_⟩
    ·obtain⟨rfl,bX,_⟩:=fM jO;have hbn:=nT jO;rw [Ale];unfold Av;simp only;refine VB gY (p:=(⟨bo,0,none⟩:Addr).add (i*1)) (i:=i) (by rw [Ay];simp) (by show i<(_++_:List Value).length;simp;omega) λ w8 K8 kU=>?_;have e:(⟨Ak9 i (.int .u64 1)++Ak9 (n-i) (.int .u64 0)⟩:Array Value).setIfInBounds i (.int .u64 1)=⟨Ak9 (i+1) (.int .u64 1)++Ak9 (n-(i+1)) (.int .u64 0)⟩:=by
      apply Array.ext';simp only [Array.toList_setIfInBounds];rw [List.set_append_right _ _ (by simp),List.length_replicate,Nat.sub_self,show n-i=(n-(i+1))+1 by omega,List.replicate_succ (n:=n-(i+1)),List.set_cons_zero,List.replicate_succ' (n:=i),Alc];rfl
     rw [e] at kU;have zF:=K7.trans K8 (λ _ _ h=>h);refine⟨trivial,B7.trans (K8.below B7.size λ k hk he=>by omega),⟨_,rfl,?_⟩,.inl ⟨jO,zF,kU⟩⟩;have kg:fin[i]=1:=by
      have:fin[i]?=some 1:=by rw [cr,if_pos jO,List.getElem?_replicate,if_pos (by omega)]
      rw [Al5 vP] at this;exact Ami this
     rw [kg];obtain⟨q,hq,hcq⟩:=Rd.Ak kU i (.int .u64 1) (by
      show (Ak9 (i+1) (Value.int .u64 1)++Ak9 (n-(i+1)) (.int .u64 0))[i]?=_;rw [List.getElem?_append_left (by simp),List.getElem?_replicate,if_pos (by omega)])
     cases hq;rw [Alh];exact hcq
    ·exact absurd jO h
   ·have aQ:no≠n:=λ h=>vm (by omega);rcases aG with ⟨h,_⟩ | ⟨_,rfl⟩
    ·exact absurd h aQ
    ·refine⟨rfl,B7,?_,.inr ⟨aQ,rfl⟩⟩;obtain⟨p,hp,cG⟩:=GZ rX aD;refine⟨p,hp,?_⟩;have k7:fin=bits:=by rw [cr,if_neg aQ]
     have:fin[i]=bits[i]:=UK k7 (Al5 aD) vP;rw [this];exact cG
  rintro w9 ⟨_,B9,⟨pb,rfl,hcb⟩,jI⟩;refine⟨⟨by omega,aB⟩,_,by rw [Ale];exact hcb,?_⟩;have kB:=VP vP;have cM:bits.length-((i+1:Nat):Int).toNat<bits.length-((i:Nat):Int).toNat:=by
   simp only [Ale];omega
  rw [Ae (by omega),Ae (by omega)];refine Ao (λ hz=>?_) (λ hz=>?_)
  ·rw [if_pos (by omega)] at kB;exact⟨⟨i+1,by omega,by rw [kB],B9,jI⟩,cM⟩
  ·rw [if_neg (by omega)] at kB;exact⟨⟨i+1,by omega,by rw [kB];rfl,B9,jI⟩,cM⟩
 have hib:i=bits.length:=by omega
 have dA:fin.take i=fin:=AlK (by omega);rw [dA];have hRf:Rd w7 ab (fin.map E1):=by
  rcases aG with ⟨heq,K7,gY⟩ | ⟨aQ,rfl⟩
  ·obtain⟨rfl,bX,_⟩:=fM heq;have cD:i=n:=by rw [hib,bX];simp
   rw [cD,Nat.sub_self,List.replicate_zero,List.append_nil] at gY;have:=Rd.Ak gY;rw [cr,if_pos heq,rep];exact this
  ·rw [cr,if_neg aQ];exact rX
 refine⟨⟨by omega,by omega,by omega⟩,?_⟩;rw [Ale,<- AlE (i:=bH) (l:=li)];have hJ:=Jy (q:=bH) (bD.grown B7) vf;have hF:=TC (cb:=cb) kd hRf hJ (by rw [AlE];omega:(li.drop bH).length<=c-bH) (by rw [AlE];omega) (by omega) rfl;rw [cd] at hF;refine hF.mono ?_;rintro _ bV ⟨_,rfl,vs,xU,xd,ok,rfl,r8,bp,iI,gN,hD⟩;have lu:=Ac B7 bp;have fz:∀ K ls,E2 K ls li->ok=true/\vs=ls:=by
  intro K ls hp;obtain⟨_,o,q,ho⟩:=oU K ls hp;have hk:=eD K ls hp;refine hD ls (by rw [hk];exact hp.D7) (hPf K ls hp) (λ h=>?_) (λ h=>?_)
  ·rw [hk,ho];exact q.oth h
  ·rw [ho];exact q.none h
 refine⟨_,_,_,_,rfl,As (Aq (λ aK=>?_) (λ aK=>bL lu λ K ls hp=>?_))⟩
 case refine_2 =>
  have:=(fz K ls hp).1;rw [this] at aK;cases aK
 refine (Km kd r8.rd (by omega) gN).mono ?_;rintro _ aY ⟨_,rfl,pK⟩;obtain⟨iO,rB,rI,e11,rfl,sk,cF,q11⟩:=pK.open;have ik:=Ac lu cF;refine⟨_,_,_,_,rfl,?_⟩;rcases q11 with ⟨hr,hI,rfl⟩ | ⟨hr,rfl,rfl⟩
 ·refine Ah (λ h=>absurd rfl h) (λ _=>Ax CA rfl sk ⟨_,rfl,Ax CA rfl (hl.grown ik) ⟨_,rfl,?_⟩⟩);rw [A0];refine As (Aa (λ he=>?_) (λ he=>QH.bad ik λ K' cC hg hC=>?_))
  ·have k6:iO=l:=by have:=congrArg bl he;rwa [BN,BN] at this
   subst k6;refine⟨kd,vs,xU,xd,0,rfl,(r8.before B7).grown cF,ik,iI,.inl ⟨⟨hr,gN⟩,hI,rfl,λ K' cC hg hC=>?_⟩⟩;have hp:=rW K' cC hg hC;exact⟨(eD K' cC hp).symm,((fz K' cC hp).2).symm⟩
  ·have hp:=rW K' cC hg hC;obtain rfl:=eD K' cC hp;obtain rfl:=(fz _ cC hp).2;exact he (by rw [hI.one hC])
 ·refine Ah (λ _=>QH.bad ik λ K' cC hg hC=>?_) (λ h=>absurd h (by decide));have hp:=rW K' cC hg hC;obtain rfl:=eD K' cC hp;obtain rfl:=(fz _ cC hp).2;rw [hg.right] at hr;cases hr
end
abbrev BF:=Option Addr × Nat × List AB
def Cz(p:BF):Value:=.slice p.1 p.2.2.length p.2.1
abbrev rws(ps:List BF):List (List AB):=ps.map (·.2.2)
structure Ba(w:World)(a:Option Addr)(ps:List BF):Prop where
 top:Rd w a (ps.map Cz)
 each:∀ p∈ps,Rd w p.1 (AP p.2.2)
theorem Ba.grown{w w':World}{a:Option Addr}{ps:List BF}(h:Ba w a ps)(B:Below w.heap.size w w'):Ba w' a ps:=⟨h.top.grown B,λ p hp=>(h.each p hp).grown B⟩
theorem Ba.at{w:World}{a:Option Addr}{ps:List BF}(h:Ba w a ps){i:Nat}(hi:i<ps.length):∃ q,a=some q/\w.cell? (q.add (i*1))=some (.slice ps[i].1 ps[i].2.2.length ps[i].2.1)/\Rd w ps[i].1 (AP ps[i].2.2):=by
 obtain⟨q,hq,hc⟩:=h.top i (Cz ps[i]) (by simp [hi]);exact⟨q,hq,by rw [Alh];exact hc,h.each _ (AlS hi)⟩
def Bs(rows:List (List AB))(c:Nat):List AB:=rows.map λ r=>r.getD c Z0
theorem Gh(rows:List (List AB))(c:Nat):(Bs rows c).length=rows.length:=by simp [Bs]
theorem Uw(ps:List BF){c i:Nat}(hi:i<ps.length)(hc:c<ps[i].2.2.length):Bs (rws (ps.take (i+1))) c=Bs (rws (ps.take i)) c++[ps[i].2.2[c]]:=by
 unfold Bs rws;rw [Al6 hi,List.map_append,List.map_append];simp only [List.map_cons,List.map_nil,List.getD,Al5 hc,Option.getD_some]
def Mp(a:Option Addr)(c:Nat)(vs:List AB):It:=It.row ty.AW 3 a vs.length c (AP vs)
section
variable {w0 w:World}{H:List It}{a:Option Addr}{c:Nat}{vs:List AB}
theorem Ahg(S:ST w0 w H)(n:Nat)(hn:H[n]?=some (Mp a c vs)):Rd w a (AP vs):=S.rd n hn
theorem Y6(S:ST w0 w H)(n:Nat){t:TypeId}(ht:M9 Tryz.prog t=some (ty.AW,3,32,.agg #[.int .i64 0,.int .i64 0,.string ⟨#[]⟩]))(hn:H[n]?=some (Mp a c vs)){x:AB}{b:Nat}(hs:Rd w (some ⟨b,0,none⟩) (H6 x))(hl:vs.length+1<=1000000){f:Value->World->Prop}
  (hf:∀ a' c' w',ST w0 w' (H.set n (Mp a' c' (vs++[x])))->f (.slice a' (vs++[x]).length c') w') :
  DB Tryz.prog (Builtin.append_ #[t,t] t #[.slice a vs.length c,.slice (some ⟨b,0,none⟩) 1 1]) f w:=by
 refine S.app n hn ht rfl (by omega) (by omega) hs (mm:=1) rfl (by simp [H6];exact⟨rfl,rfl,rfl⟩) (by omega) λ a' c' w' S'=>?_;have e1:(vs++[x]).length=vs.length+1:=by simp
 have e2:AP vs++H6 x=AP (vs++[x]):=by simp [AP]
 rw [e2] at S';have:=hf a' c' w' (by unfold Mp;rw [e1];exact S');rwa [e1] at this
end
section
variable {w:World}{a:Option Addr}{c:Nat}{ps:List BF}
theorem TE(hr:Ba w a ps)(hn:ps.length<=900000){k:Nat}(hk:∀ p∈ps,k<p.2.2.length) :
  Calls Tryz.prog f.YT #[.slice a ps.length c,.int .i64 (k:Int)] w (AG λ v w'=>∃ a' c',v=.slice a' (Bs (rws ps) k).length c'/\ST w w' [Mp a' c' (Bs (rws ps) k)]):=by
 apply R.Oy
 delta R.Ad R.F R.I R.J R.Ks R.Li R.Ls R.Lt R.N R.O R.EM R.S R.T R.W R.X;try dsimp only [R.Ps]
 refine⟨λ s w1=>∃(i:Nat) (oa:Option Addr) (oc:Nat) (os:List AB),s=[.slice oa os.length oc,.int .i64 (i:Int)]/\i<=ps.length/\os=Bs (rws (ps.take i)) k/\ST w w1 [Mp oa oc os],λ s _=>match s with
   | [_,.int _ i]=>ps.length-i.toNat
   | _=>0,⟨0,none,0,[],rfl,by omega,rfl,(ST.start w).nil _ _⟩,?_⟩
 rintro oa _ oc _ w1 ⟨i,_,_,os,aA,hi,ho,S⟩;cases aA;have cE:os.length=i:=by rw [ho,Gh];simp;omega
 refine Aa (λ aB=>⟨⟨by omega,aB⟩,?_⟩) (λ aI=>?_)
 ·have aD:i<ps.length:=by omega
  have aO:=hk _ (AlS aD);obtain⟨q,rfl,hq,hv⟩:=(hr.grown S.Ar).at aD;obtain⟨p,hp,c0,c1,c2⟩:=Di hv aO;refine⟨_,_,_,by rw [Ale];exact hq,⟨by omega,by omega⟩,?_⟩;rw [hp];refine⟨_,by rw [Ale];exact c0,_,by rw [Ale];exact c1,_,by rw [Ale];exact c2,S.An λ dk w2 _ _ S=>?_⟩;have aW:Rd w2 (some ⟨dk,0,none⟩) (H6 ps[i].2.2[k]):=S.GD 0 rfl;refine Y6 S 1 Ad3 rfl aW (by omega) λ a3 c3 w3 S=>⟨_,_,_,rfl,?_⟩;rw [Ae (by omega)];refine⟨⟨i+1,a3,c3,_,rfl,by omega,by rw [Uw ps aD aO,ho],S.drop 1⟩,?_⟩;show ps.length-((i+1:Nat):Int).toNat<ps.length-((i:Nat):Int).toNat;simp only [Ale];omega
 ·rw [AlK (by omega)] at ho;subst ho;exact⟨oa,oc,rfl,S⟩
theorem Mf{a2:Option Addr}{c2 n:Nat}:Calls Tryz.prog f.Qk #[.slice a2 n c2,.slice a ps.length c] w (AG λ v w'=>∃ b1 b2,v=.func (.func f.GK) #[] #[.pointer (some ⟨b1,0,none⟩),.pointer (some ⟨b2,0,none⟩)] /\
  ST w w' [It.cells b2 #[.slice a ps.length c] ty.Ce,It.cells b1 #[.slice a2 n c2] ty.AX]):=by
 apply R.Jk
 delta R.J R.N R.P R.S;try dsimp only [R.Ps]
 exact (ST.start w).An λ b1 w1 _ _ S1=>S1.An λ b2 w2 _ _ S2=>⟨b1,b2,rfl,S2⟩
theorem SY{L b1 b2 n c2:Nat}{a2:Option Addr}(hn:n<=9223372036854775807)(hm:ps.length<=900000)(hk:∀ p∈ps,p.2.2.length=n)(J:Nat->World->Prop)(cw:∀ k w,J k w->Ba w a ps/\w.cell? ⟨b2,0,none⟩=some (.slice a ps.length c))
  (bu:∀ k w w',J k w->Below w.heap.size w w'->J k w') (ae:∀ k w la lc,k<n->J k w->Rd w la (AP (Bs (rws ps) k))->O8 Tryz.prog L #[.int .i64 (k:Int),.slice la ps.length lc] (λ y w'=>y=true/\J (k+1) w') w)
  (h0:J 0 w) (hb:w.cell? ⟨b1,0,none⟩=some (.slice a2 n c2)) :
  Calls Tryz.prog f.GK #[.func (.yield L) #[] #[],.pointer (some ⟨b1,0,none⟩),.pointer (some ⟨b2,0,none⟩)] w (AG λ _ w'=>J n w'):=by
 apply R.H0
 delta R.A R.Ad R.F R.H R.I R.J R.Ks R.Li R.Ls R.Lt R.N R.O R.Qi R.EM R.S R.T R.W R.X;try dsimp only [R.Ps]
 refine⟨_,_,_,hb,λ s w1=>∃ k:Nat,k<=n/\s=[.int .i64 (k:Int)]/\J k w1,λ s _=>match s with
   | [.int _ i]=>n-i.toNat
   | _=>0,⟨0,by omega,rfl,h0⟩,?_⟩
 rintro _ w1 ⟨k,rp,aA,hj⟩;cases aA;refine Aa (λ aB=>?_) (λ aI=>?_)
 ·have aO:k<n:=by omega
  refine⟨_,_,_,(cw _ _ hj).2,?_⟩;refine⟨λ s w2=>∃(i:Nat) (oa:Option Addr) (oc:Nat) (os:List AB),s=[.slice oa os.length oc,.int .i64 (i:Int)]/\i<=ps.length/\os=Bs (rws (ps.take i)) k/\ST w1 w2 [Mp oa oc os],λ s _=>match s with
   | [_,.int _ i]=>ps.length-i.toNat
   | _=>0,⟨0,none,0,[],rfl,by omega,rfl,(ST.start w1).nil _ _⟩,?_⟩
  rintro oa _ oc _ w2 ⟨i,_,_,os,aA,hi,ho,S⟩;cases aA;have cE:os.length=i:=by rw [ho,Gh];simp;omega
  refine Aa (λ aB=>⟨⟨by omega,aB⟩,?_⟩) (λ aI=>?_)
  ·have aD:i<ps.length:=by omega
   have dh:k<ps[i].2.2.length:=by rw [hk _ (AlS aD)];exact aO
   obtain⟨q,rfl,hq,hv⟩:=((cw _ _ hj).1.grown S.Ar).at aD;obtain⟨p,hp,c0,c1,c2⟩:=Di hv dh;refine⟨_,_,_,by rw [Ale];exact hq,⟨by omega,by omega⟩,?_⟩;rw [hp];refine⟨_,by rw [Ale];exact c0,_,by rw [Ale];exact c1,_,by rw [Ale];exact c2,S.An λ dk w2 _ _ S=>?_⟩;have aW:Rd w2 (some ⟨dk,0,none⟩) (H6 ps[i].2.2[k]):=S.GD 0 rfl;refine Y6 S 1 Ad3 rfl aW (by omega) λ a3 c3 w3 S=>⟨_,_,_,rfl,?_⟩;rw [Ae (by omega)];refine⟨⟨i+1,a3,c3,_,rfl,by omega,by rw [Uw ps aD dh,ho],S.drop 1⟩,?_⟩;show ps.length-((i+1:Nat):Int).toNat<ps.length-((i:Nat):Int).toNat;simp only [Ale];omega
  ·have bF:i=ps.length:=by omega
   rw [AlK (by omega)] at ho;subst ho;rw [cE,bF,Ae (by omega)];refine (ae k w2 oa oc aO (bu _ _ _ hj S.Ar) (Ahg S 0 rfl)).mono ?_;rintro y w3 ⟨rfl,h⟩;refine AV ⟨⟨k+1,by omega,rfl,h⟩,?_⟩;show n-((k+1:Nat):Int).toNat<n-((k:Nat):Int).toNat;simp only [Ale];omega
 ·have:k=n:=by omega
  subst this;exact hj
end
structure Bv(cs:List BQ)(rows:List (List AB)):Prop where
 right:Ap cs=true
 len:rows.length<=1024
 fits:∀ r∈rows,C8 cs r=true
 ok:∀ r∈rows,∀ v∈r,BL v
section
variable {cs:List BQ}{rows:List (List AB)}
theorem I9{r:List AB}(h:C8 cs r=true):r.length=cs.length:=by
 simp only [C8,AkM,decide_eq_true_eq] at h;exact h.1
theorem TX{r:List AB}(h:C8 cs r=true){k:Nat}(h1:k<cs.length)(h2:k<r.length):GW cs[k] r[k]=true:=by
 simp only [C8,AkM,V6,List.all_eq_true] at h;exact h.2 (cs[k],r[k]) (List.mem_iff_getElem.2 ⟨k,by simp;omega,by simp⟩)
theorem Bv.Vn(h:Bv cs rows){r:List AB}(hr:r∈rows):r.length=cs.length:=I9 (h.fits r hr)
theorem Bv.D7(h:Bv cs rows){k:Nat}(hk:k<cs.length):Be cs[k].2.1 (Bs rows k):=by
 have key:∀ v∈Bs rows k,okV cs[k].2.1 v=true/\BL v:=by
  intro v hv;obtain⟨r,hr,rfl⟩:=List.mem_map.1 hv;have hl:=h.Vn hr;have oe:k<r.length:=by omega
  have e:r.getD k Z0=r[k]:=by simp [List.getD,oe]
  rw [e];refine⟨?_,h.ok r hr _ (AlS oe)⟩;have:=TX (h.fits r hr) hk oe;simp only [GW,AkM,Bool.or_eq_true,decide_eq_true_eq] at this;simp only [okV,AkM,Bool.or_eq_true,decide_eq_true_eq];exact⟨this.1,this.2.imp id λ h=>h.2⟩
 obtain⟨_,h1,h2,_⟩:=Dr h.right (AlS hk);refine⟨?_,λ v hv=>(key v hv).2⟩;have h3:(Bs rows k).all (okV cs[k].2.1)=true:=List.all_eq_true.2 λ v hv=>(key v hv).1;have h4:1<=cs[k].2.1/\cs[k].2.1<=3/\(Bs rows k).length<=1024:=⟨h1,h2,by rw [Gh];exact h.len⟩;simp [DW,h3,h4]
end
theorem AiA{P:AB->Prop}{ls:List AB}(h0:P Z0)(h:∀ v∈ls,P v):P (Ga ls).1/\P (Ga ls).2:=by
 have key:∀ i,i<=ls.length->∀ p,Ms (ls.take i)=some p->P p.1/\P p.2:=by
  intro i
  induction i with
  | zero=>intro _ p hp;simp [Ms] at hp
  | succ i ih =>
   intro hi p hp;have aD:i<ls.length:=by omega
   have hm:=h _ (AlS aD);rw [J9 aD] at hp;unfold XI at hp;split at hp
   ·exact ih (by omega) p hp
   ·split at hp
    ·cases hp;exact⟨hm,hm⟩
    ·rename_i q hq;obtain⟨q1,q2⟩:=ih (by omega) q hq;cases hp;refine⟨?_,?_⟩
     ·show P (if _ then _ else _);split
      ·exact hm
      ·exact q1
     ·show P (if _ then _ else _);split
      ·exact hm
      ·exact q2
 unfold Ga;cases hz:Ms ls with
 | none=>exact⟨h0,h0⟩
 | some p =>
  have:=key ls.length (Nat.le_refl _) p (by rw [List.take_length];exact hz);exact this
theorem Be.Ag4{k:Int}{ls:List AB}(h:Be k ls):∀ v∈ls,AK v=true/\BL v:=by
 intro v hv;have:=h.all v hv;simp only [okV,AkM] at this;exact⟨this.1,h.ok v hv⟩
theorem Be.Adm{k:Int}{ls:List AB}(h:Be k ls):(AK (Ga ls).1=true/\BL (Ga ls).1)/\(AK (Ga ls).2=true/\BL (Ga ls).2) :=
 AiA (P:=λ v=>AK v=true/\BL v) ⟨by decide,AbH (by decide) (by decide)⟩ h.Ag4
theorem Be.G9{k:Int}{ls:List AB}(h:Be k ls):G9 ls:=⟨h.len,λ v hv=>(h.Ag4 v hv).1⟩
theorem HM{v:AB}(h:AK v=true)(hv:BL v):(CC v).length<=1040:=by
 unfold CC;split
 ·have:=Al (F2 hv.lo hv.hi);simp only [Ald];omega
 ·split
  ·simp
  ·split
   ·rename_i h3;have hs:v.2.2.size<=1024:=by
     rcases Gl h with h | h | ⟨h,_⟩ | ⟨_,h⟩
     ·omega
     ·omega
     ·omega
     ·exact h
    have:=Sa hs;simp only [Ald];omega
   ·simp
theorem KR.len{k:Int}{ls:List AB}{b:List UInt8}(hg:Be k ls)(h:KR k ls b):b.length<=2000300:=by
 obtain⟨o,h1,h2,rfl⟩:=h.ex;have hs:∀ x,(VC x).length=4:=λ x=>rfl;have e1:=Q8 hg;have e2:=Jf hg;have e3:o.length<=2000000:=by
  by_cases hn:Au ls<ls.length
  ·exact (h1 hn).len hg
  ·rw [h2 hn];simp
 simp only [Alb,hs];omega
def LP(n:Nat):List UInt8:=[Alj (n % 256),Alj (n / 256 % 256),Alj (n / 65536 % 256),Alj (n / 16777216 % 256)]
def Ck:List UInt8:=[83,89,68,49]
def Kh(x:List UInt8)(l:List AB):List UInt8:=Af x.length++Af (Au l)++CC (Ga l).1++CC (Ga l).2
def Cr(rows:List (List AB))(xs:List (List UInt8)):List UInt8:=(xs.mapIdx λ i x=>Kh x (Bs rows i)).flatten
theorem Sn(rows:List (List AB))(xs:List (List UInt8))(x:List UInt8):Cr rows (xs++[x])=Cr rows xs++Kh x (Bs rows xs.length):=by
 unfold Cr;rw [List.mapIdx_concat];simp
def DQ(cs:List BQ)(rows:List (List AB))(xs:List (List UInt8)):List UInt8:=CF cs++Af rows.length++Cr rows xs
def KC(cs:List BQ)(rows:List (List AB))(xs:List (List UInt8)):List UInt8:=Ck++xs.flatten++DQ cs rows xs++LP (DQ cs rows xs).length
def Mb(p:List UInt8):List UInt8:=p++IE p
structure Et(cs:List BQ)(rows:List (List AB))(xs:List (List UInt8)):Prop where
 len:xs.length<=cs.length
 each:∀ i (h1:i<cs.length) (h2:i<xs.length),KR cs[i].2.1 (Bs rows i) xs[i]
theorem Et.nil(cs:List BQ)(rows:List (List AB)):Et cs rows []:=⟨by simp,λ i _ h=>by simp at h⟩
theorem Et.snoc{cs:List BQ}{rows:List (List AB)}{xs:List (List UInt8)}(h:Et cs rows xs){x:List UInt8}(h1:xs.length<cs.length)(hx:KR cs[xs.length].2.1 (Bs rows xs.length) x):Et cs rows (xs++[x]):=by
 refine⟨by simp;omega,λ i g1 g2=>?_⟩;rcases Nat.lt_or_ge i xs.length with h3 | h3
 ·rw [List.getElem_append_left h3];exact h.each i g1 h3
 ·have:i=xs.length:=by simp at g2;omega
  subst this;simp only [List.getElem_concat_length];exact hx
theorem Et.one{cs:List BQ}{rows:List (List AB)}{xs ys:List (List UInt8)}(h:Et cs rows xs)(h':Et cs rows ys)(hl:xs.length=ys.length):xs=ys:=by
 refine List.ext_getElem hl λ i h1 h2=>?_;have:=h.len;exact (h.each i (by omega) h1).one (h'.each i (by omega) h2)
theorem UG{xs:List (List UInt8)}{m:Nat}(h:∀ x∈xs,x.length<=m):xs.flatten.length<=xs.length*m:=by
 induction xs with
 | nil=>simp
 | cons x xs ih =>
  have h1:=h x (by simp);have h2:=ih λ y hy=>h y (by simp [hy]);simp only [List.flatten_cons,Alb,Ald,Nat.add_mul];omega
theorem AeL{k:Int}{x:List UInt8}{l:List AB}(hg:Be k l)(hx:x.length<=2000300):(Kh x l).length<=2100:=by
 have h1:=Al (n:=x.length) (by omega);have h2:=Al (n:=Au l) (by have:=Dc l;have:=hg.len;omega);have h3:=HM hg.Adm.1.1 hg.Adm.1.2;have h4:=HM hg.Adm.2.1 hg.Adm.2.2;simp only [Kh,Alb];omega
section
variable {cs:List BQ}{rows:List (List AB)}{xs:List (List UInt8)}
theorem Et.lens(h:Et cs rows xs)(hs:Bv cs rows):∀ x∈xs,x.length<=2000300:=by
 intro x hx;obtain⟨i,hi,rfl⟩:=List.getElem_of_mem hx;have:=h.len;exact (h.each i (by omega) hi).len (hs.D7 (by omega))
theorem Et.flat(h:Et cs rows xs)(hs:Bv cs rows):xs.flatten.length<=33000000:=by
 have h1:=UG (h.lens hs);have h2:=h.len;have h3:=A6 hs.right;have:xs.length*2000300<=16*2000300:=Nat.mul_le_mul_right _ (by omega);omega
theorem Et.Agn(h:Et cs rows xs)(hs:Bv cs rows):(Cr rows xs).length<=34000:=by
 have h1:(Cr rows xs).length<=(xs.mapIdx λ i x=>Kh x (Bs rows i)).length*2100:=by
  refine UG λ x hx=>?_;obtain⟨i,hi,rfl⟩:=List.mem_mapIdx.1 hx;have:=h.len;exact AeL (hs.D7 (by omega:i<cs.length)) (h.lens hs _ (AlS hi))
 rw [List.length_mapIdx] at h1;have h2:=h.len;have h3:=A6 hs.right;omega
theorem Et.TY(h:Et cs rows xs)(hs:Bv cs rows):(DQ cs rows xs).length<=35000:=by
 have h1:=h.Agn hs;have h2:=GJ hs.right;have h3:=Al (n:=rows.length) (by have:=hs.len;omega);simp only [DQ,Alb];omega
theorem Et.AcG(h:Et cs rows xs)(hs:Bv cs rows):(KC cs rows xs).length<=34000000:=by
 have h1:=h.TY hs;have h2:=h.flat hs;simp only [KC,Alb,Ck,LP,Ald,List.length_nil];omega
end
structure FL(cs:List BQ)(rows:List (List AB))(b:List UInt8):Prop where
 ex:∃ xs,xs.length=cs.length/\Et cs rows xs/\b=Mb (KC cs rows xs)
theorem FL.one{cs:List BQ}{rows:List (List AB)}{b b':List UInt8}(h:FL cs rows b)(h':FL cs rows b'):b=b':=by
 obtain⟨xs,h1,h2,rfl⟩:=h.ex;obtain⟨ys,k1,k2,rfl⟩:=h'.ex;rw [h2.one k2 (by omega)]
def Ef(cs:List BQ)(rows:List (List AB)):Int:=if Ap cs=false then 50 else if 1024<rows.length\/∃ r∈rows,C8 cs r=false then 51 else 0
def Aes(cs:List BQ)(rows:List (List AB))(v:Value):Prop :=
 (¬ Bv cs rows/\v=.tuple #[.string ⟨#[]⟩,.int .i64 (Ef cs rows)]/\Ef cs rows≠0)\/(Bv cs rows/\∃ b,v=.tuple #[.string (BC b),.int .i64 0]/\FL cs rows b)
end Go.Proofs.YtpnaifmmggnimaaGreatDoor
namespace Go.Dn
set_option linter.unusedVariables false
set_option maxRecDepth 100000
open Go.RowKit (Below)
theorem ZU{P:Program}{bt el:TypeId}(hb:P.underlying bt=some (.slice el))(he:P.underlying el=some (.int .u8)){w:World}{b n c:Nat}{cs:Array Value}{e:TypeId}(hg:w.heap[b]?=some (.cells cs e (0,0))){f:Value->World->Prop}
  (hf:∀ w',Ai (·=b) w w'->w'.heap[b]?=some (.cells cs e (cs.size,cs.size+1))->f (.slice (some ⟨b,0,none⟩) n c) w'):DB P (convert bt bt (.slice (some ⟨b,0,none⟩) n c)) f w:=by
 have gL:w.shape? b=some (e,cs.size):=by simp [World.shape?,hg]
 have jX:(markStringish ⟨b,0,none⟩).run P w=.ok () (w.freeze ⟨b,cs.size,none⟩ 1):=by simp [markStringish,gL]
 have aH:(convert bt bt (.slice (some ⟨b,0,none⟩) n c)).run P w=.ok (.slice (some ⟨b,0,none⟩) n c) (w.freeze ⟨b,cs.size,none⟩ 1):=by
  simp only [convert,Sem.run_bind,run_underlying hb,run_underlying he,Result.andThen_ok,beq_self_eq_true,jX,Sem.run_pure]
 unfold DB;rw [aH];refine hf _ (Pz (·=b) w ⟨b,cs.size,none⟩ 1 rfl) ?_;unfold World.freeze;simp [Array.getElem?_modify,hg]
theorem ZE{P:Program}{t ty e:TypeId}{sz bytes:Nat}{z:Value}(hT:M9 P t=some (e,sz,bytes,z))(hz:z.cells.size=sz)(aw:0<sz)(bg:0<bytes)
  {w:World} {p:Addr} {n c:Nat} {xs:List Value} (hr:Rd w (some p) xs) (dB:xs.length=n*sz) {b:Option Addr} {m mc:Nat} {news:List Value} (hs:Rd w b news) (hl:news.length=m*sz) (hm:0<m)
  (hc:c<n+m) (_hnc:n<=c) (db:(n+m)*bytes<=140737488355328) :
  ∃ a' c' w',(Builtin.append_ #[t,t] ty #[.slice (some p) n c,.slice b m mc]).run P w=.ok (.slice a' (n+m) c') w'/\Row w' e sz a' (n+m) c' (xs++news)/\Below w.heap.size w w'/\(∀ k,AD a'=some k->w.heap.size<=k):=by
 obtain⟨hu,i,hi,hiz,rfl,rfl⟩:=Qo hT;have bz:n+m<=140737488355328:=Nat.le_trans (Nat.le_mul_of_pos_right _ bg) db;have hlen:(xs++news).length=(n+m)*i.size:=by rw [List.length_append,dB,hl,Nat.add_mul]
 have h0:0<news.length:=by rw [hl];exact Nat.mul_pos hm aw
 obtain⟨q,rfl,_⟩:=hs 0 news[0] (List.getElem?_eq_getElem h0);have hq:∀ j u,news[j]?=some u->w.cell? (q.add j)=some u:=by
  intro j u hu;obtain⟨q',kt,hc⟩:=hs j u hu;cases kt;exact hc
 have hold:∀ j v,xs[j]?=some v->w.cell? (p.add j)=some v:=by
  intro j v hv;obtain⟨q',kt,hc⟩:=hr j v hv;cases kt;exact hc
 have aI:=grownCap_ge w (n+m) c e;have jK:grownCap w (n+m) c e<=maxLen:=grownCap_le_maxLen w (n+m) c e (by unfold maxLen;omega);have aH:=run_append_grow (P:=P) w t ty e i z hu hi hiz p n c xs dB hold q m mc news hl hq (by omega) (by omega) (growslice_fits (by omega) db);refine⟨_,_,_,aH,⟨hlen,.inr ⟨w.heap.size,_,rfl,heap_alloc_new w.drew _,aI,by unfold maxLen at jK;omega,?_,?_⟩⟩,((Below.refl _ w).drew).alloc (Nat.le_refl _) _,λ k hk=>?_⟩
 ·simp only [Array.size_append,List.size_toArray,size_zeroCells,hz,dB,hl,<- Nat.add_mul];congr 1;omega
 ·simp only [Array.toList_append,List.append_assoc];rw [<- List.append_assoc,<- hlen];exact List.take_left
 ·simp [AD] at hk;omega
def It.buf(e:TypeId)(sz:Nat)(a:Option Addr)(n c:Nat)(xs:List Value):It where
 CJ:=AD a
 ok:=λ w=>Row w e sz a n c xs\/(∃ p,a=some p/\c=n/\Rd w a xs/\xs.length=n*sz/\p.block<w.heap.size)
 st:=λ w w' h h0=>by
  rcases h0 with h0 | ⟨p,rfl,h1,h2,h3,h4⟩
  ·exact .inl ((It.row e sz a n c xs).st w w' h h0)
  ·refine .inr ⟨p,rfl,h1,?_,h3,?_⟩
   ·intro j v hv;obtain⟨q,hq,hc⟩:=h2 j v hv;cases hq;exact⟨p,rfl,by rw [World.cell?_of_block (w:=w) (by rw [DN];exact h p.block rfl)];exact hc⟩
   ·have:=h p.block rfl;rw [Array.getElem?_eq_getElem h4] at this;exact (Array.getElem?_eq_some_iff.1 this).1
 lt:=λ w h k hk=>by
  rcases h with h | ⟨p,rfl,_,_,_,h4⟩
  ·exact h.lt hk
  ·cases hk;exact h4
section
variable {w0 w:World}{H:List It}
theorem ST.Ako(S:ST w0 w H)(n:Nat){P:Program}{t ty e:TypeId}{sz bytes:Nat}{z:Value}{a:Option Addr}{m c:Nat}{xs:List Value}(hn:H[n]?=some (It.buf e sz a m c xs))(hT:M9 P t=some (e,sz,bytes,z))(hz:z.cells.size=sz)(aw:0<sz)(bg:0<bytes)
  {b:Option Addr} {mm mc:Nat} {news:List Value} (hs:Rd w b news) (hl:news.length=mm*sz) (jY:0<mm) (h1:∀ u∈news,u.oneCell'=true) (db:(m+mm)*bytes<=140737488355328) {f:Value->World->Prop}
  (hf:∀ a' c' w',ST w0 w' (H.set n (It.row e sz a' (m+mm) c' (xs++news)))->f (.slice a' (m+mm) c') w'):DB P (Builtin.append_ #[t,t] ty #[.slice a m c,.slice b mm mc]) f w:=by
 rcases S.get n hn with h | ⟨p,rfl,rfl,h2,h3,h4⟩
 ·obtain⟨a',c',w',aH,aJ,hk,bG⟩:=BZ (ty:=ty) (mc:=mc) hT hz aw bg h hs hl h1 db;unfold DB;rw [aH];exact hf a' c' w' (S.I2 n hn hk _ aJ bG)
 ·obtain⟨a',c',w',aH,aJ,hB,bG⟩:=ZE (ty:=ty) (mc:=mc) hT hz aw bg h2 h3 hs hl jY (by omega) (Nat.le_refl _) db;unfold DB;rw [aH];exact hf a' c' w' (S.I2 n hn (Ai.AA hB) _ aJ (λ k hk=>.inr (bG k hk)))
theorem ST.rdF(S:ST w0 w H)(n:Nat){e:TypeId}{sz:Nat}{a:Option Addr}{m c:Nat}{xs:List Value}(hn:H[n]?=some (It.buf e sz a m c xs)):Rd w a xs:=by
 rcases S.get n hn with h | ⟨p,rfl,rfl,h2,h3,h4⟩
 ·exact h.rd
 ·exact h2
end
end Go.Dn
