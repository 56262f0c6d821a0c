/-
  Texts of this claim, laid one behind the other by a program of mine (install.py): G.CmpL, G.Ch6, G.Ch7, G.Ch8, G.Ch9, G.Ch11, G.Ch12, G.ChgE, G.IntsH, G.IntsI, G.Ch13, G.Ch14, G.Seg1, G.Seg2, Dn.Lit.
-/
import Derived.Test.YtpnaifmmggnimaaGreatDoorM7
import Derived.Test.YtpnaifmmggnimaaGreatDoorM4
import Derived.Test.YtpnaifmmggnimaaGreatDoorM6
namespace Go.Dn
end Go.Dn
namespace Go.Proofs.YtpnaifmmggnimaaGreatDoor
open _root_.UInt8 renaming lt_irrefl -> Amr
open Go.Dn Go.Proofs
open Go.RowKit (Below)
set_option linter.unusedVariables false
set_option maxRecDepth 20000
/-! ### orders -/
structure PE{α:Type}(f:α->α->Int):Prop where
 neg:∀ x y,f y x =-f x y
 zero:∀ x y,f x y=0↔x=y
 trans:∀ x y z,f x y<=0->f y z<=0->f x z<=0
theorem PE.strict{α:Type}{f:α->α->Int}(h:PE f)(x y z:α)(h1:f x y<0)(h2:f y z<=0):f x z<0:=by
 have h3:=h.trans x y z (by omega) h2;rcases Int.lt_or_eq_of_le h3 with h4 | h4
 ·exact h4
 ·have:=(h.zero x z).1 h4;subst this;have:=h.neg x y;omega
theorem PF:PE Dk:=by
 refine⟨λ x y=>?_,λ x y=>?_,λ x y z=>?_⟩
 ·unfold Dk;split <;> split <;> (try split) <;> (try split) <;> omega
 ·unfold Dk;split
  ·constructor <;> intro h <;> omega
  ·split
   ·constructor <;> intro h <;> omega
   ·constructor <;> intro h <;> omega
 ·unfold Dk;intro h1 h2;split at h1 <;> split at h2 <;> split <;> (try split at h1) <;> (try split at h2) <;> (try split) <;> omega
theorem AfU:∀ x y:List UInt8,Lib.compareBytes y x =-Lib.compareBytes x y
 | [],[]=>rfl
 | [],_ :: _=>rfl
 | _ :: _,[]=>rfl
 | a :: x,b :: y=>by
  simp only [Lib.compareBytes];by_cases h1:a<b
  ·have h2:¬ b<a:=λ h=>absurd (UInt8.lt_trans h1 h) (Amr a);simp [h1,h2]
  ·by_cases h2:b<a
   ·simp [h1,h2]
   ·simp [h1,h2,AfU x y]
theorem AdC{a b:UInt8}(h1:¬ a<b)(h2:¬ b<a):a=b:=UInt8.le_antisymm (UInt8.not_lt.1 h2) (UInt8.not_lt.1 h1)
theorem AdH:∀ x y:List UInt8,Lib.compareBytes x y=0↔x=y
 | [],[]=>by simp [Lib.compareBytes]
 | [],_ :: _=>by simp [Lib.compareBytes]
 | _ :: _,[]=>by simp [Lib.compareBytes]
 | a :: x,b :: y=>by
  simp only [Lib.compareBytes];by_cases h1:a<b
  ·rw [if_pos h1];constructor
   ·intro h;cases h
   ·intro h;cases h;exact absurd h1 (Amr a)
  ·rw [if_neg h1];by_cases h2:b<a
   ·rw [if_pos h2];constructor
    ·intro h;cases h
    ·intro h;cases h;exact absurd h2 (Amr a)
   ·rw [if_neg h2,AdH x y,AdC h1 h2];simp
theorem AaV:∀ x y z:List UInt8,Lib.compareBytes x y<=0->Lib.compareBytes y z<=0->Lib.compareBytes x z<=0
 | [],_,[],_,_=>by simp [Lib.compareBytes]
 | [],_,_ :: _,_,_=>by simp [Lib.compareBytes]
 | _ :: _,[],_,h,_=>by simp [Lib.compareBytes] at h
 | _ :: _,_ :: _,[],_,h=>by simp [Lib.compareBytes] at h
 | a :: x,b :: y,c :: z,h1,h2=>by
  simp only [Lib.compareBytes] at h1 h2 ⊢;by_cases e1:a<b
  ·by_cases e2:b<c
   ·rw [if_pos (UInt8.lt_trans e1 e2)];decide
   ·rw [if_neg e2] at h2;by_cases e3:c<b
    ·rw [if_pos e3] at h2;omega
    ·have:=AdC e2 e3;subst this;rw [if_pos e1];decide
  ·rw [if_neg e1] at h1;by_cases e2:b<a
   ·rw [if_pos e2] at h1;omega
   ·have:=AdC e1 e2;subst this;rw [if_neg e2] at h1;by_cases e3:a<c
    ·rw [if_pos e3];decide
    ·rw [if_neg e3] at h2 ⊢;by_cases e4:c<a
     ·rw [if_pos e4] at h2;omega
     ·rw [if_neg e4] at h2 ⊢;exact AaV x y z h1 h2
def Ab7{α β:Type}(f:α->α->Int)(g:β->β->Int)(x y:α × β):Int:=if f x.1 y.1≠0 then f x.1 y.1 else g x.2 y.2
theorem PE.lex{α β:Type}{f:α->α->Int}{g:β->β->Int}(hf:PE f)(hg:PE g):PE (Ab7 f g):=by
 refine⟨λ x y=>?_,λ x y=>?_,λ x y z=>?_⟩
 ·have h1:=hf.neg x.1 y.1;have h2:=hg.neg x.2 y.2;unfold Ab7;split <;> split <;> omega
 ·have h1:=hf.zero x.1 y.1;have h2:=hg.zero x.2 y.2;unfold Ab7;split
  ·rename_i h;constructor
   ·intro e;exact absurd e h
   ·intro e;rw [e] at h;exact absurd ((hf.zero _ _).2 rfl) h
  ·rename_i h;have e1:x.1=y.1:=h1.1 (by omega);rw [h2];constructor
   ·intro e;exact Prod.ext e1 e
   ·intro e;rw [e]
 ·unfold Ab7;intro a b;by_cases h1:f x.1 y.1=0
  ·have e1:=(hf.zero _ _).1 h1;rw [if_neg (by omega)] at a;rw [<- e1] at b;by_cases h2:f x.1 z.1=0
   ·rw [if_neg (by omega)] at b ⊢;exact hg.trans _ _ _ a b
   ·rw [if_pos h2] at b ⊢;exact b
  ·rw [if_pos h1] at a;by_cases h2:f y.1 z.1=0
   ·have e2:=(hf.zero _ _).1 h2;rw [<- e2,if_pos h1];exact a
   ·rw [if_pos h2] at b;have:=hf.strict x.1 y.1 z.1 (by omega) b;rw [if_pos (by omega)];omega
def AiM(a b:AB):Int:=Ab7 Dk (Ab7 Dk (λ s t=>Lib.compareBytes (bl s) (bl t))) a b
theorem Aiq(a b:AB):D3 a b=AiM a b:=by
 simp only [D3,AiM,Ab7]
theorem AhJ:PE (λ s t:ByteArray=>Lib.compareBytes (bl s) (bl t)) :=
 ⟨λ x y=>AfU _ _,λ x y=>(AdH _ _).trans ⟨λ h=>Rn h,λ h=>by rw [h]⟩,λ x y z=>AaV _ _ _⟩
theorem Jq:PE D3:=by
 have:D3=AiM:=by funext a b;exact Aiq a b
 rw [this];exact PF.lex (PF.lex AhJ)
theorem Ac6(a b:AB) : -1<=D3 a b/\D3 a b<=1:=by
 have h1:∀ x y,-1<=Dk x y/\Dk x y<=1:=by intro x y;unfold Dk;split <;> (try split) <;> decide
 have h2:∀ x y,-1<=Lib.compareBytes x y/\Lib.compareBytes x y<=1:=by
  intro x
  induction x with
  | nil=>intro y;cases y <;> simp [Lib.compareBytes]
  | cons a x ih =>
   intro y;cases y with
   | nil=>simp [Lib.compareBytes]
   | cons b y=>simp only [Lib.compareBytes];split;decide;split;decide;exact ih y
 unfold D3;split
 ·exact h1 _ _
 ·split
  ·exact h1 _ _
  ·exact h2 _ _
theorem Nd:∀ x y:List UInt8,Op.bytesLess x y=true↔Lib.compareBytes x y<0
 | [],[]=>by simp [Op.bytesLess,Lib.compareBytes]
 | [],_ :: _=>by simp [Op.bytesLess,Lib.compareBytes]
 | _ :: _,[]=>by simp [Op.bytesLess,Lib.compareBytes]
 | a :: x,b :: y=>by
  simp only [Op.bytesLess,Lib.compareBytes,Bool.or_eq_true,decide_eq_true_eq,Bool.and_eq_true,beq_iff_eq,Nd x y];by_cases h1:a<b
  ·simp [h1]
  ·by_cases h2:b<a
   ·have:a≠b:=λ e=>by subst e;exact Amr a h2
    simp [h1,h2,this]
   ·have:=AdC h1 h2;simp [this]
theorem ZW(s t:ByteArray):EJ s t=true↔Lib.compareBytes (bl s) (bl t)<0:=by
 unfold EJ;rw [ByteArray.toList_eq,ByteArray.toList_eq];exact Nd _ _
theorem Sw{v:AB}(h:AK v=true)(h3:¬ v.1=3):v.2.2=E0:=by
 unfold AK at h;split at h
 ·simp at h;exact h.2
 ·split at h
  ·simpa using h
  ·split at h
   ·simp at h;exact h.2
   ·cases h
theorem Adk{a b:AB}(ha:AK a=true)(hb:AK b=true):D3 a b=WL a b:=by
 have hs:=Ac6 a b;have dZ:=Jq.neg a b;have key:∀ x y:AB,AK x=true->AK y=true->(I3 x y=true↔D3 x y<0):=by
  intro x y hx hy;by_cases h1:x.1=y.1
  ·have e0:Dk x.1 y.1=0:=(PF.zero _ _).2 h1;have c0:D3 x y=if Dk x.2.1 y.2.1≠0 then Dk x.2.1 y.2.1 else Lib.compareBytes (bl x.2.2) (bl y.2.2):=by unfold D3;rw [if_neg (by omega)]
   have l0:I3 x y=if x.1=3 then EJ x.2.2 y.2.2 else decide (x.2.1<y.2.1):=by unfold I3;rw [if_neg (by omega)]
   rw [c0,l0];by_cases h3:x.1=3
   ·have vB:y.1=3:=h1 ▸ h3;rw [if_pos h3];unfold AK at hx hy;simp [h3] at hx;simp [vB] at hy;have e1:Dk x.2.1 y.2.1=0:=(PF.zero _ _).2 (by rw [hx.1,hy.1]);rw [if_neg (by omega)];exact ZW _ _
   ·rw [if_neg h3];have e2:x.2.2=E0/\y.2.2=E0:=⟨Sw hx h3,Sw hy (h1 ▸ h3)⟩;rw [e2.1,e2.2];have e3:Lib.compareBytes (bl E0) (bl E0)=0:=rfl;rw [e3];unfold Dk;split
    ·simp;omega
    ·split
     ·simp;omega
     ·simp;omega
  ·have e0:Dk x.1 y.1≠0:=λ h=>h1 ((PF.zero _ _).1 h);have c0:D3 x y=Dk x.1 y.1:=by unfold D3;rw [if_pos e0]
   have l0:I3 x y=decide (x.1<y.1):=by unfold I3;rw [if_pos h1]
   rw [c0,l0];unfold Dk at *;split
   ·simp;omega
   ·split
    ·simp;omega
    ·rename_i n1 n2;omega
 unfold WL;by_cases h1:I3 a b=true
 ·rw [if_pos h1];have:=(key a b ha hb).1 h1;omega
 ·rw [if_neg h1];have n1:¬ D3 a b<0:=λ h=>h1 ((key a b ha hb).2 h);by_cases h2:I3 b a=true
  ·rw [if_pos h2];have:=(key b a hb ha).1 h2;omega
  ·rw [if_neg h2];have n2:¬ D3 b a<0:=λ h=>h2 ((key b a hb ha).2 h);omega
/-! ### the laws -/
end Go.Proofs.YtpnaifmmggnimaaGreatDoor
namespace Go.Dn
open _root_.List renaming getElem?_eq_some_iff -> AkN, getElem?_set_self -> AkP, set_set -> Ak0
open Go.RowKit (Below)
section
variable {F:Nat->Prop}{w0 w:World}{H:List Y9}
theorem SH.IX(S:SH F w0 w H)(n:Nat){b:Nat}{cs aC:Array Value}{t:TypeId}(hn:H[n]?=some (b,cs,t)){i:Nat}{v:Value}{k:World->Prop}(hi:i<cs.size)(hc:cs.setIfInBounds i v=aC)
  (hk:∀ w',Ai (·=b) w w'->SH F w0 w' (H.set n (b,aC,t))->k w'):DV ⟨b,i,none⟩ v k w:=by
 subst hc;exact S.ZR n hn hi hk
theorem SH.Zl(S:SH F w0 w H)(n:Nat){b:Nat}{x0 x1 x2 x3 x4 x5 x6 v0 v1 v2 v3 v4 v5 v6:Value}{t:TypeId}(hn:H[n]?=some (b,#[x0,x1,x2,x3,x4,x5,x6],t)){k:World->Prop}
  (hk:∀ w',Ai (·=b) w w'->SH F w0 w' (H.set n (b,#[v0,v1,v2,v3,v4,v5,v6],t))->k w') :
  DV ⟨b,0,none⟩ v0 (λ w=>DV ⟨b,1,none⟩ v1 (λ w=>DV ⟨b,2,none⟩ v2 (λ w=>DV ⟨b,3,none⟩ v3 (λ w=>DV ⟨b,4,none⟩ v4 (λ w=>DV ⟨b,5,none⟩ v5 (λ w=>DV ⟨b,6,none⟩ v6 k w) w) w) w) w) w) w:=by
 have aB:=(AkN.1 hn).1;have tr:∀ {a c d:World},Ai (·=b) a c->Ai (·=b) c d->Ai (·=b) a d:=λ h h'=>h.trans h' (λ _ _ h=>h);refine S.IX n hn (aC:=#[v0,x1,x2,x3,x4,x5,x6]) (by simp) rfl λ w1 K1 S1=>?_;refine S1.IX n (AkP aB) (aC:=#[v0,v1,x2,x3,x4,x5,x6]) (by simp) rfl λ w2 K2 S2=>?_;rw [Ak0] at S2;refine S2.IX n (AkP aB) (aC:=#[v0,v1,v2,x3,x4,x5,x6]) (by simp) rfl λ w3 K3 S3=>?_;rw [Ak0] at S3;refine S3.IX n (AkP aB) (aC:=#[v0,v1,v2,v3,x4,x5,x6]) (by simp) rfl λ w4 K4 S4=>?_;rw [Ak0] at S4;refine S4.IX n (AkP aB) (aC:=#[v0,v1,v2,v3,v4,x5,x6]) (by simp) rfl λ w5 K5 S5=>?_;rw [Ak0] at S5;refine S5.IX n (AkP aB) (aC:=#[v0,v1,v2,v3,v4,v5,x6]) (by simp) rfl λ w6 K6 S6=>?_;rw [Ak0] at S6;refine S6.IX n (AkP aB) (aC:=#[v0,v1,v2,v3,v4,v5,v6]) (by simp) rfl λ w7 K7 S7=>?_;rw [Ak0] at S7;exact hk w7 (tr (tr (tr (tr (tr (tr K1 K2) K3) K4) K5) K6) K7) S7
theorem SH.XQ(S:SH F w0 w H)(n:Nat){b:Nat}{x0 x1 x2 x3 x4 x5 x6 v1 v2 v3:Value}{t:TypeId}(hn:H[n]?=some (b,#[x0,x1,x2,x3,x4,x5,x6],t)){k:World->Prop}
  (hk:∀ w',Ai (·=b) w w'->SH F w0 w' (H.set n (b,#[x0,v1,v2,v3,x4,x5,x6],t))->k w'):DV ⟨b,1,none⟩ v1 (λ w=>DV ⟨b,2,none⟩ v2 (λ w=>DV ⟨b,3,none⟩ v3 k w) w) w:=by
 have aB:=(AkN.1 hn).1;have tr:∀ {a c d:World},Ai (·=b) a c->Ai (·=b) c d->Ai (·=b) a d:=λ h h'=>h.trans h' (λ _ _ h=>h);refine S.IX n hn (aC:=#[x0,v1,x2,x3,x4,x5,x6]) (by simp) rfl λ w1 K1 S1=>?_;refine S1.IX n (AkP aB) (aC:=#[x0,v1,v2,x3,x4,x5,x6]) (by simp) rfl λ w2 K2 S2=>?_;rw [Ak0] at S2;refine S2.IX n (AkP aB) (aC:=#[x0,v1,v2,v3,x4,x5,x6]) (by simp) rfl λ w3 K3 S3=>?_;rw [Ak0] at S3;exact hk w3 (tr (tr K1 K2) K3) S3
theorem SH.Yx(S:SH F w0 w H)(n:Nat){b:Nat}{x0 x1 x2 x3 x4 x5 x6 v4 v5 v6:Value}{t:TypeId}(hn:H[n]?=some (b,#[x0,x1,x2,x3,x4,x5,x6],t)){k:World->Prop}
  (hk:∀ w',Ai (·=b) w w'->SH F w0 w' (H.set n (b,#[x0,x1,x2,x3,v4,v5,v6],t))->k w'):DV ⟨b,4,none⟩ v4 (λ w=>DV ⟨b,5,none⟩ v5 (λ w=>DV ⟨b,6,none⟩ v6 k w) w) w:=by
 have aB:=(AkN.1 hn).1;have tr:∀ {a c d:World},Ai (·=b) a c->Ai (·=b) c d->Ai (·=b) a d:=λ h h'=>h.trans h' (λ _ _ h=>h);refine S.IX n hn (aC:=#[x0,x1,x2,x3,v4,x5,x6]) (by simp) rfl λ w1 K1 S1=>?_;refine S1.IX n (AkP aB) (aC:=#[x0,x1,x2,x3,v4,v5,x6]) (by simp) rfl λ w2 K2 S2=>?_;rw [Ak0] at S2;refine S2.IX n (AkP aB) (aC:=#[x0,x1,x2,x3,v4,v5,v6]) (by simp) rfl λ w3 K3 S3=>?_;rw [Ak0] at S3;exact hk w3 (tr (tr K1 K2) K3) S3
end
end Go.Dn
namespace Go.Proofs.YtpnaifmmggnimaaGreatDoor
open Go.Dn Go.Proofs
open Go.RowKit (Below)
set_option linter.unusedVariables false
set_option maxRecDepth 20000
abbrev Z0:AB:=(0,0,E0)
def WI(z:Option (AB × AB))(v:AB):Option (AB × AB) :=
 if v.1=0 then z else match z with
 | none=>some (v,v)
 | some p=>some (if D3 v p.1<0 then v else p.1,if 0<D3 v p.2 then v else p.2)
def L9(ls:List AB):Option (AB × AB):=ls.foldl WI none
def F7(ls:List AB):AB × AB:=(L9 ls).getD (Z0,Z0)
def zC(n:Int)(p:AB × AB):Array Value:=#[.int .i64 n,.int .i64 p.1.1,.int .i64 p.1.2.1,.string p.1.2.2,.int .i64 p.2.1,.int .i64 p.2.2.1,.string p.2.2.2]
def zV(n:Int)(p:AB × AB)(e:Int):Value:=.tuple #[.agg (zC n p),.int .i64 e]
theorem JE{ls:List AB}{i:Nat}(hi:i<ls.length):L9 (ls.take (i+1))=WI (L9 (ls.take i)) ls[i]:=by
 unfold L9;rw [List.take_succ_eq_append_getElem hi,List.foldl_append];rfl
theorem WS{ls:List AB}:∀ i,i<=ls.length->((L9 (ls.take i)).isNone=true↔(AQ (ls.take i)).length=0)
 | 0,_=>by simp [L9,AQ]
 | i+1,h=>by
  have ih:=WS (ls:=ls) i (by omega);have hi:i<ls.length:=by omega
  rw [JE hi,CT hi];unfold WI;by_cases h0:ls[i].1=0
  ·rw [if_pos h0,if_pos h0,List.append_nil];exact ih
  ·rw [if_neg h0,if_neg h0];cases L9 (ls.take i) <;> simp
theorem Pr{ls:List AB}{i:Nat}(hi:i<ls.length)(h0:ls[i].1≠0):F7 (ls.take (i+1))=(if (AQ (ls.take i)).length=0\/D3 ls[i] (F7 (ls.take i)).1<0 then ls[i] else (F7 (ls.take i)).1,if (AQ (ls.take i)).length=0\/0<D3 ls[i] (F7 (ls.take i)).2 then ls[i] else (F7 (ls.take i)).2):=by
 have hn:=WS (ls:=ls) i (by omega);unfold F7;rw [JE hi];unfold WI;rw [if_neg h0];cases hz:L9 (ls.take i) with
 | none =>
  rw [hz] at hn;have:(AQ (ls.take i)).length=0:=hn.1 rfl;simp [this]
 | some p =>
  rw [hz] at hn;have:¬ (AQ (ls.take i)).length=0:=λ h=>by simpa using hn.2 h
  simp [this]
theorem OY{ls:List AB}{i:Nat}(hi:i<ls.length)(h0:ls[i].1=0):F7 (ls.take (i+1))=F7 (ls.take i):=by
 unfold F7;rw [JE hi];unfold WI;rw [if_pos h0]
theorem AbN(ls:List AB):As ls+(AQ ls).length=ls.length:=by
 induction ls with
 | nil=>rfl
 | cons v ls ih =>
  unfold As AQ at ih ⊢;by_cases h:v.1=0
  ·simp [h];omega
  ·simp [h];omega
def GS(ls:List AB):Prop:=ls.length<=1024/\∀ v∈ls,AK v=true
def Z5(ls:List AB)(r:Value):Prop:=(GS ls/\r=zV (As ls:Int) (F7 ls) 0)\/(¬ GS ls/\r=zV 0 (Z0,Z0) 2)
section
variable {w:World}{a:Option Addr}{c:Nat}{ls:List AB}
theorem Qc{H:List Y9}{wx:World}{b2 n:Nat}{x:Int}{p:AB × AB}(S:SH (λ _=>False) w wx H)(hn:H[n]?=some (b2,zC x p,ty.AU))(aP:¬ GS ls) :
  DV ⟨b2,0,none⟩ (.int .i64 0) (λ w2=>DV ⟨b2,1,none⟩ (.int .i64 0) (λ w3=>DV ⟨b2,2,none⟩ (.int .i64 0) (λ w4=>DV ⟨b2,3,none⟩ (.string ⟨#[]⟩) (λ w5=>DV ⟨b2,4,none⟩ (.int .i64 0) (λ w6=>DV ⟨b2,5,none⟩ (.int .i64 0) (λ w7=>DV ⟨b2,6,none⟩ (.string ⟨#[]⟩) (λ w8 =>
   ∃ r0:Int,w8.cell? ⟨b2,0,none⟩=some (.int .i64 r0)/\∃ r1:Int,w8.cell? ⟨b2,1,none⟩=some (.int .i64 r1)/\∃ r2:Int,w8.cell? ⟨b2,2,none⟩=some (.int .i64 r2)/\∃ r3:ByteArray,w8.cell? ⟨b2,3,none⟩=some (.string r3)/\∃ r4:Int,w8.cell? ⟨b2,4,none⟩=some (.int .i64 r4)/\∃ r5:Int,w8.cell? ⟨b2,5,none⟩=some (.int .i64 r5)/\∃ r6:ByteArray,w8.cell? ⟨b2,6,none⟩=some (.string r6) /\
   (λ v w'=>Z5 ls v/\Below w.heap.size w w') (.tuple #[.agg #[.int .i64 r0,.int .i64 r1,.int .i64 r2,.string r3,.int .i64 r4,.int .i64 r5,.string r6],.int .i64 2]) w8) w7) w6) w5) w4) w3) w2) wx:=by
 have aB:=(List.getElem?_eq_some_iff.1 hn).1;refine S.Zl n hn λ w8 K8 S8=>?_;have nC:=List.getElem?_set_self (l:=H) (a:=(b2,(#[Value.int .i64 0,.int .i64 0,.int .i64 0,.string ⟨#[]⟩,.int .i64 0,.int .i64 0,.string ⟨#[]⟩]:Array Value),ty.AU)) aB;exact⟨_,S8.cell n nC rfl,_,S8.cell n nC rfl,_,S8.cell n nC rfl,_,S8.cell n nC rfl,_,S8.cell n nC rfl,_,S8.cell n nC rfl,_,S8.cell n nC rfl,.inr ⟨aP,rfl⟩,S8.below⟩
end
end Go.Proofs.YtpnaifmmggnimaaGreatDoor
namespace Go.Proofs.YtpnaifmmggnimaaGreatDoor
open _root_.Array renaming getElem?_eq_some_iff -> AlG
open _root_.Int renaming toNat_natCast -> Ak4
open _root_.List renaming append_nil -> Al2, getElem_mem -> AlI, length_append -> Ak1, length_drop -> Alu, length_replicate -> Amt, length_take -> AlX, mem_append -> AlY, mem_cons -> AkL, mem_cons_of_mem -> AlE, mem_cons_self -> AlD, mem_singleton -> AlZ, not_mem_nil -> Al5, replicate -> AkZ, set_cons_zero -> Ams, take_succ_eq_append_getElem -> AlW
open _root_.Nat renaming mul_one -> Ak7, sub_zero -> Amu
open _root_.Option.some renaming inj -> Al8
set_option maxRecDepth 100000
open Go.Dn Go.Proofs
open Go.RowKit (Below)
set_option linter.unusedVariables false
theorem AdU{α:Type}{p q:Prop}[Decidable p][Decidable (p\/q)](h:p)(x y:α):(if p\/q then x else y)=x:=if_pos (.inl h)
section
variable {w:World}{a:Option Addr}{c:Nat}{ls:List AB}
theorem Nx(hl:Rd w a (AO ls)):Calls Tryz.prog f.Acs #[.slice a ls.length c] w (AG λ v w'=>Z5 ls v/\Below w.heap.size w w'):=by
 apply R.R9
 delta R.A R.Ab R.Cb R.Cf R.Ci R.E R.F R.H R.I R.Li R.Lt R.N R.Qi R.S R.Am R.T R.W R.X R.Z;try dsimp only [R.Ps]
 refine (SH.start (λ _=>False) w).An λ b2 w1 dC B1 S1=>Aa (λ gJ=>?_) (λ hle=>?_)
 ·exact Qc (p:=(Z0,Z0)) (x:=0) S1 (n:=0) rfl (λ h=>by have:=h.1;omega)
 have hlen:ls.length<=1024:=by omega
 refine S1.An λ dO w9 kW B9 S9=>S9.Zl 0 rfl λ cf jz zv=>?_;refine⟨λ s cP=>∃ i:Nat,i<=ls.length/\s=[.int .i64 (i:Int)]/\SH (λ _=>False) w cP [(dO,zC 0 (Z0,Z0),ty.AU),(b2,zC 0 (Z0,Z0),ty.AU)]/\∀ v∈ls.take i,AK v=true,λ s _=>match s with
   | [.int _ i]=>ls.length-i.toNat
   | _=>0,⟨0,by omega,rfl,zv,by simp⟩,?_⟩
 rintro _ cP ⟨i,hi,aA,fv,aF⟩;cases aA;refine Aa (λ aB=>⟨⟨by omega,aB⟩,?_⟩) (λ aJ=>?_)
 ·have aD:i<ls.length:=by omega
  obtain⟨p,rfl,c0,c1,c2⟩:=De (hl.grown fv.below) aD;refine⟨_,by rw [Ak4];exact c0,_,by rw [Ak4];exact c1,_,by rw [Ak4];exact c2,fv.Iz λ ld gp zI k7 oU=>?_⟩;refine⟨_,oU.cell 0 rfl rfl,_,oU.cell 0 rfl rfl,_,oU.cell 0 rfl rfl,(Ex gp ls[i]).mono ?_⟩;rintro _ iM ⟨_,rfl,rfl,kU⟩;have kZ:=oU.grown kU;refine⟨_,rfl,Au (Ap (λ hr=>?_) (λ hr=>?_))⟩
  ·rw [Ae (by omega)];refine⟨⟨i+1,by omega,rfl,kZ.drop 1,λ v hv=>?_⟩,?_⟩
   ·rw [AlW aD] at hv;rcases AlY.1 hv with h | h
    ·exact aF v h
    ·rw [AlZ.1 h];exact hr
   ·simp only [Ak4];omega
  ·exact Qc (p:=(Z0,Z0)) (x:=0) kZ (n:=2) rfl (λ h=>by have:=h.2 _ (AlI aD);rw [this] at hr;cases hr)
 have bG:ls.take i=ls:=List.take_of_length_le (by omega);rw [bG] at aF;have aK:GS ls:=⟨hlen,aF⟩;refine fv.An λ iO eA yg fW oT=>oT.IX 0 rfl (aC:=#[.int .i64 0]) (show 0<1 by decide) rfl λ kB K31 S31=>NF.mono ?_;rintro _ cQ ⟨_,rfl,bI,rfl,xz⟩;have qk:SH (λ _=>False) w cQ [(iO,#[.int .i64 0],ty.int),(dO,zC 0 (Z0,Z0),ty.AU),(b2,zC 0 (Z0,Z0),ty.AU)]:=S31.grown xz.below;refine⟨_,_,_,rfl,by kernel_rfl,λ rr aA dR hy=>?_⟩;obtain⟨W1,hW1⟩:∃ W1,W1=(cQ.alloc (.deferred (some []))).alloc (.loop rr):=⟨_,rfl⟩;rw [<- hW1];have gK:Below cQ.heap.size cQ W1:=by rw [hW1];exact (((Below.refl _ cQ).alloc (Nat.le_refl _) _).alloc (by simp) _)
 have rR:W1.heap.size=cQ.heap.size+2:=by rw [hW1];simp
 have gf:W1.heap[cQ.heap.size+1]?=some (.loop rr):=by
  rw [hW1];have:=World.alloc_heap_new (cQ.alloc (.deferred (some []))) (.loop rr);rwa [World.size_alloc] at this
 have ku:W1.heap[cQ.heap.size]?=some (.deferred (some [])):=by
  rw [hW1];exact (Below.heap_alloc _ _ _ (by simp)).trans (World.alloc_heap_new cQ _)
 obtain⟨L,hLd⟩:∃ L,L=cQ.heap.size+1:=⟨_,rfl⟩;rw [<- hLd] at gf hy ⊢;have l30:=qk.lt (x:=(iO,_,_)) (AlD ..);have l10:=qk.lt (x:=(dO,_,_)) (AlE _ (AlD ..));have l2:=qk.lt (x:=(b2,_,_)) (AlE _ (AlE _ (AlD ..)));have w0le:=qk.below.size;let H:Nat->List Y9:=λ q=>[(iO,#[.int .i64 ((AQ (ls.take q)).length:Int)],ty.int),(dO,zC 0 (F7 (ls.take q)),ty.AU),(b2,zC 0 (Z0,Z0),ty.AU)];let J:Nat->World->Prop:=λ q wx=>SH (λ _=>False) w wx (H q)/\wx.heap[L]?=some (.loop rr)/\wx.heap[cQ.heap.size]?=some (.deferred (some []));have hI:W1.cell? ⟨bI,0,none⟩=some (.slice a ls.length c):=Dw ((Ai.AA (F:=λ _=>False) gK).at (xz.get 0 rfl) (by simp));have bA:=U0 (w:=W1) (L:=L) (b:=bI) (by omega) J (λ q wx hj=>hl.grown hj.1.below) (λ q wx wy hj B=>by
   have K:=Ai.AA (F:=λ _=>False) B;exact⟨hj.1.grown B,K.at hj.2.1 (by simp),K.at hj.2.2 (by simp)⟩) (λ q wx hq hz hj=>by
   have e1:H (q+1)=H q:=by
    have:=CT hq;rw [if_pos hz,Al2] at this;show [(iO,#[Value.int .i64 ((AQ (ls.take (q+1))).length:Int)],ty.int),(dO,zC 0 (F7 (ls.take (q+1))),ty.AU),(b2,zC 0 (Z0,Z0),ty.AU)]=_;rw [this,OY hq hz]
   exact⟨by rw [e1];exact hj.1,hj.2⟩) (by
  rintro q wx hq aQ ⟨SJ,hL,hD⟩;have cj:(AQ (ls.take q)).length<=1024:=by
   have:(AQ (ls.take q)).length<=(ls.take q).length:=List.length_filter_le ..;rw [AlX] at this;omega
  have j9:H (q+1)=[(iO,#[.int .i64 (((AQ (ls.take q)).length+1:Nat):Int)],ty.int),(dO,zC 0 (if (AQ (ls.take q)).length=0\/D3 ls[q] (F7 (ls.take q)).1<0 then ls[q] else (F7 (ls.take q)).1,if (AQ (ls.take q)).length=0\/0<D3 ls[q] (F7 (ls.take q)).2 then ls[q] else (F7 (ls.take q)).2),ty.AU),(b2,zC 0 (Z0,Z0),ty.AU)]:=by
   have e1:=CT hq;rw [if_neg aQ] at e1;show [(iO,#[Value.int .i64 ((AQ (ls.take (q+1))).length:Int)],ty.int),(dO,zC 0 (F7 (ls.take (q+1))),ty.AU),(b2,zC 0 (Z0,Z0),ty.AU)]=_;rw [Pr hq aQ,e1,Ak1];rfl
  obtain⟨n,eM⟩:∃ n,n=(AQ (ls.take q)).length:=⟨_,rfl⟩;obtain⟨mm,ir⟩:∃ mm,mm=F7 (ls.take q):=⟨_,rfl⟩;have SJ':SH (λ _=>False) w wx [(iO,#[.int .i64 (n:Int)],ty.int),(dO,zC 0 mm,ty.AU),(b2,zC 0 (Z0,Z0),ty.AU)]:=by rw [eM,ir];exact SJ
  rw [<- eM,<- ir] at j9;rw [<- eM] at cj;obtain⟨v,hvd⟩:∃ v,v=ls[q]:=⟨_,rfl⟩;rw [<- hvd] at j9 ⊢;refine hy _ _ _ _ wx hL ?_;refine SJ'.Iz λ xZ iU zk B37 oN=>?_;have yM:=Ai.AA (F:=λ _=>False) B37;have pw:=yM.at hL (by simp);have uj:=yM.at hD (by simp);refine⟨pw,?_⟩;obtain⟨wB,hwB⟩:∃ wB,wB=iU.putObj L (.loop { rr with state:=.busy }):=⟨_,rfl⟩;rw [<- hwB];have eT:L<iU.heap.size:=(AlG.1 pw).1;have hLx:L<wx.heap.size:=(AlG.1 hL).1;have KB:Ai (λ k=>k=L) iU wB:=by rw [hwB];exact AP _ _ _
  have vY:wB.heap[L]?=some (.loop { rr with state:=.busy }):=by rw [hwB];exact World.putObj_heap_same eT
  have hDB:=KB.at uj (show ¬ cQ.heap.size=L by omega);have SB:SH (λ _=>False) w wB [(xZ,#[.int .i64 v.1,.int .i64 v.2.1,.string v.2.2],ty.AW),(iO,#[.int .i64 (n:Int)],ty.int),(dO,zC 0 mm,ty.AU),(b2,zC 0 (Z0,Z0),ty.AU)]:=oN.kept KB (by
   intro y hy;simp only [AkL,Al5,or_false] at hy;rcases hy with rfl | rfl | rfl | rfl <;> simp only <;> omega) (λ k hk h=>by omega)
  let G:World->AB->AB->Int->Prop:=λ wy mn mx m=>SH (λ _=>False) w wy [(xZ,#[.int .i64 v.1,.int .i64 v.2.1,.string v.2.2],ty.AW),(iO,#[.int .i64 m],ty.int),(dO,zC 0 (mn,mx),ty.AU),(b2,zC 0 (Z0,Z0),ty.AU)]/\wy.heap[L]?=some (.loop { rr with state:=.busy })/\wy.heap[cQ.heap.size]?=some (.deferred (some []));have fI:∀ {wy wz:World} {b:Nat},Ai (·=b) wy wz->b≠L->b≠cQ.heap.size->wy.heap[L]?=some (.loop { rr with state:=.busy })/\wy.heap[cQ.heap.size]?=some (.deferred (some []))->wz.heap[L]?=some (.loop { rr with state:=.busy })/\wz.heap[cQ.heap.size]?=some (.deferred (some [])) :=
   λ K h1 h2 h=>⟨K.at h.1 (λ e=>h1 e.symm),K.at h.2 (λ e=>h2 e.symm)⟩
  have lN:∀ {wy wz:World} {mn mx:AB} {m:Int},G wy mn mx m->Below wy.heap.size wy wz->G wz mn mx m:=λ h B=>by
   have K:=Ai.AA (F:=λ _=>False) B;exact⟨h.1.grown B,K.at h.2.1 (by simp),K.at h.2.2 (by simp)⟩
  have fin:∀ {wy:World} {mn mx:AB},G wy mn mx (n:Int)->mn=(if n=0\/D3 v mm.1<0 then v else mm.1)->mx=(if n=0\/0<D3 v mm.2 then v else mm.2) ->
    ∃ t50:Int,wy.cell? ⟨iO,0,none⟩=some (.int .i64 t50)/\DV ⟨iO,0,none⟩ (.int .i64 (IntKind.i64.wrap (t50+1))) (λ w50=>Gk rr L (λ y w'=>y=true/\(SH (λ _=>False) w w' (H (q+1))/\w'.heap[L]?=some (.loop rr)/\w'.heap[cQ.heap.size]?=some (.deferred (some [])))) none w50) wy:=by
   rintro wy mn mx ⟨Sy,Ly⟩ rfl rfl;refine⟨_,Sy.cell 1 rfl rfl,?_⟩;rw [Ae (by omega)];refine Sy.IX 1 rfl (aC:=#[.int .i64 ((n+1:Nat):Int)]) (show 0<1 by decide) rfl λ wz Kz Sz=>?_;obtain⟨Lz,Dz⟩:=fI Kz (by omega) (by omega) Ly;refine⟨Lz,rfl,?_⟩;rw [IU aA dR];have lz:L<wz.heap.size:=(AlG.1 Lz).1;have KP:=AP wz L (.loop rr);refine⟨?_,World.putObj_heap_same lz,KP.at Dz (show ¬ cQ.heap.size=L by omega)⟩;rw [j9];exact (Sz.drop 1).kept KP (by
    intro y hy;simp only [List.set_cons_succ,Ams,List.drop_succ_cons,List.drop_zero,AkL,Al5,or_false] at hy;rcases hy with rfl | rfl | rfl <;> simp only <;> omega) (λ k hk h=>by omega)
  have GB:G wB mm.1 mm.2 (n:Int):=⟨SB,vY,hDB⟩;refine⟨λ s ot=>s=[]/\G ot (if n=0\/D3 v mm.1<0 then v else mm.1) mm.2 (n:Int),?_,?_⟩
  ·refine⟨_,GB.1.cell 1 rfl rfl,Ao (λ h0=>?_) (λ h0=>?_)⟩
   ·have dB:n=0:=by omega
    refine⟨_,GB.1.cell 0 rfl rfl,_,GB.1.cell 0 rfl rfl,_,GB.1.cell 0 rfl rfl,GB.1.XQ 2 rfl λ pg sF tH=>⟨rfl,?_⟩⟩;rw [AdU dB];exact⟨tH,fI sF (by omega) (by omega) GB.2⟩
   ·have dB:¬ n=0:=by omega
    refine⟨_,GB.1.cell 0 rfl rfl,_,GB.1.cell 0 rfl rfl,_,GB.1.cell 0 rfl rfl,_,GB.1.cell 2 rfl rfl,_,GB.1.cell 2 rfl rfl,_,GB.1.cell 2 rfl rfl,(Jm wB v mm.1).mono ?_⟩;rintro _ lH ⟨_,rfl,rfl,B42⟩;have og:=lN GB B42;refine⟨_,rfl,Aa (λ hc=>⟨_,og.1.cell 0 rfl rfl,_,og.1.cell 0 rfl rfl,_,og.1.cell 0 rfl rfl,og.1.XQ 2 rfl λ pg sF tH=>⟨rfl,?_⟩⟩) (λ hc=>⟨rfl,?_⟩)⟩
    ·rw [if_pos (.inr hc)];exact⟨tH,fI sF (by omega) (by omega) og.2⟩
    ·rw [if_neg (by omega)];exact og
  rintro ot ⟨_,gu⟩;refine⟨_,gu.1.cell 1 rfl rfl,Ao (λ h0=>?_) (λ h0=>?_)⟩
  ·have dB:n=0:=by omega
   refine⟨_,gu.1.cell 0 rfl rfl,_,gu.1.cell 0 rfl rfl,_,gu.1.cell 0 rfl rfl,gu.1.Yx 2 rfl λ w49 vq vh=>fin (mx:=v) ⟨vh,fI vq (by omega) (by omega) gu.2⟩ rfl (by rw [AdU dB])⟩
  ·have dB:¬ n=0:=by omega
   refine⟨_,gu.1.cell 0 rfl rfl,_,gu.1.cell 0 rfl rfl,_,gu.1.cell 0 rfl rfl,_,gu.1.cell 2 rfl rfl,_,gu.1.cell 2 rfl rfl,_,gu.1.cell 2 rfl rfl,(Jm ot v mm.2).mono ?_⟩;rintro _ w51 ⟨_,rfl,rfl,B51⟩;have oO:=lN gu B51;refine⟨_,rfl,Aa (λ hc=>⟨_,oO.1.cell 0 rfl rfl,_,oO.1.cell 0 rfl rfl,_,oO.1.cell 0 rfl rfl,oO.1.Yx 2 rfl λ w49 vq vh=>fin (mx:=v) ⟨vh,fI vq (by omega) (by omega) oO.2⟩ rfl (by rw [if_pos (.inr (by omega))])⟩) (λ hc=>fin oO rfl (by rw [if_neg (by omega)]))⟩)
  ⟨qk.grown gK,gf,ku⟩ hI
 refine bA.mono ?_;rintro _ tM ⟨_,rfl,SJ,um,sY⟩;have SJ':SH (λ _=>False) w tM [(iO,#[.int .i64 ((AQ ls).length:Int)],ty.int),(dO,zC 0 (F7 ls),ty.AU),(b2,zC 0 (Z0,Z0),ty.AU)]:=by
  have:=SJ;simp only [H,List.take_length] at this;exact this
 refine⟨⟨_,rfl⟩,none,by rw [IU aA dR];exact um,rfl,?_⟩;obtain⟨uE,hw58⟩:∃ uE,uE=tM.putObj L (.loop { rr with state:=.exhausted,pending:=none }):=⟨_,rfl⟩;rw [<- hw58];have xm:Ai (λ k=>k=L) tM uE:=by rw [hw58];exact AP _ _ _
 have yD:=SJ'.kept xm (by
  intro y hy;simp only [AkL,Al5,or_false] at hy;rcases hy with rfl | rfl | rfl <;> simp only <;> omega) (λ k hk h=>by omega)
 have vS:=xm.at sY (show ¬ cQ.heap.size=L by omega);have x9:=AbN ls;have en:IntKind.i64.wrap ((ls.length:Int)-((AQ ls).length:Int))=(As ls:Int):=by rw [wrap_i64 (by omega) (by omega)];omega
 refine⟨_,yD.cell 0 rfl rfl,?_⟩;rw [en];refine yD.IX 1 rfl (aC:=zC (As ls:Int) (F7 ls)) (show 0<7 by decide) rfl λ w59 K59 lB=>?_;refine⟨_,lB.cell 1 rfl rfl,_,lB.cell 1 rfl rfl,_,lB.cell 1 rfl rfl,_,lB.cell 1 rfl rfl,_,lB.cell 1 rfl rfl,_,lB.cell 1 rfl rfl,_,lB.cell 1 rfl rfl,lB.Zl 2 rfl λ yC xP yx=>?_⟩;have wW:=xP.at (K59.at vS (show ¬ cQ.heap.size=dO by omega)) (show ¬ cQ.heap.size=b2 by omega);have KP:=AP yC cQ.heap.size (.deferred none);have SP:=yx.kept KP (by
  intro y hy;simp only [List.set_cons_succ,Ams,AkL,Al5,or_false] at hy;rcases hy with rfl | rfl | rfl <;> simp only <;> omega) (λ k hk h=>by omega)
 exact⟨wW,_,SP.cell 2 rfl rfl,_,SP.cell 2 rfl rfl,_,SP.cell 2 rfl rfl,_,SP.cell 2 rfl rfl,_,SP.cell 2 rfl rfl,_,SP.cell 2 rfl rfl,_,SP.cell 2 rfl rfl,.inl ⟨aK,rfl⟩,SP.below⟩
end
theorem Uv:AK Z0=true:=by decide
theorem W3{ls:List AB}(h:∀ v∈ls,AK v=true):∀ i,i<=ls.length->AK (F7 (ls.take i)).1=true/\AK (F7 (ls.take i)).2=true
 | 0,_=>⟨Uv,Uv⟩
 | i+1,hi=>by
  have aD:i<ls.length:=by omega
  obtain⟨h1,h2⟩:=W3 h i (by omega);by_cases h0:ls[i].1=0
  ·rw [OY aD h0];exact⟨h1,h2⟩
  ·rw [Pr aD h0];have hv:=h _ (AlI aD);refine⟨?_,?_⟩
   ·simp only;split
    ·exact hv
    ·exact h1
   ·simp only;split
    ·exact hv
    ·exact h2
theorem AgJ{ls:List AB}{i:Nat}{p:AB->Prop}(aD:i<ls.length)(aF:∀ v∈ls.take i,p v)(hr:p ls[i]):∀ v∈ls.take (i+1),p v:=by
 intro v hv;rw [AlW aD] at hv;rcases AlY.1 hv with h | h
 ·exact aF v h
 ·rw [AlZ.1 h];exact hr
section
variable {w:World}{a:Option Addr}{c:Nat}{ls:List AB}
theorem Wl(hl:Rd w a (AO ls)):Calls Tryz.prog f.AbS #[.slice a ls.length c] w (AG λ v w'=>Z5 ls v/\Below w.heap.size w w'):=by
 apply R.Rh
 delta R.A R.Ab R.Cb R.Ci R.D R.E R.F R.G R.H R.I R.Li R.Lt R.N R.Qbi R.Am R.T R.W R.X R.Z;try dsimp only [R.Ps]
 refine (SH.start (λ _=>False) w).An λ b2 w1 dC B1 S1=>Aa (λ gJ=>?_) (λ hle=>?_)
 ·exact Qc (p:=(Z0,Z0)) (x:=0) S1 (n:=0) rfl (λ h=>by have:=h.1;omega)
 have hlen:ls.length<=1024:=by omega
 refine S1.An λ dO w9 kW B9 S9=>?_;refine⟨λ s cP=>∃ i:Nat,i<=ls.length/\s=[.bool (decide ((AQ (ls.take i)).length=0)),.int .i64 (i:Int)]/\SH (λ _=>False) w cP [(dO,zC (As (ls.take i):Int) (F7 (ls.take i)),ty.AU),(b2,zC 0 (Z0,Z0),ty.AU)]/\∀ v∈ls.take i,AK v=true,λ s _=>match s with
   | [_,.int _ i]=>ls.length-i.toNat
   | _=>0,⟨0,by omega,rfl,S9,by simp⟩,?_⟩
 rintro _ _ cP ⟨i,hi,aA,fv,aF⟩;cases aA;have bn:=Dc (ls.take i);rw [AlX] at bn;refine Aa (λ aB=>⟨⟨by omega,aB⟩,?_⟩) (λ aJ=>?_)
 ·have aD:i<ls.length:=by omega
  obtain⟨p,rfl,c0,c1,c2⟩:=De (hl.grown fv.below) aD;refine⟨_,by rw [Ak4];exact c0,_,by rw [Ak4];exact c1,_,by rw [Ak4];exact c2,(FX cP ls[i]).mono ?_⟩;rintro _ eK ⟨_,rfl,rfl,B18⟩;have gj:=fv.grown B18;refine⟨_,rfl,Au (Ap (λ hr=>?_) (λ hr=>?_))⟩
  case refine_2=>exact Qc (p:=(Z0,Z0)) (x:=0) gj (n:=1) rfl (λ h=>by have:=h.2 _ (AlI aD);rw [this] at hr;cases hr)
  obtain⟨p',hp',d0,d1,d2⟩:=De (hl.grown gj.below) aD;cases hp';have iX:=AgJ aD aF hr;rw [Ae (k:=i) (by omega)];have cL:ls.length-((i+1:Nat):Int).toNat<ls.length-((i:Nat):Int).toNat:=by
   simp only [Ak4];omega
  refine⟨⟨by omega,aB⟩,_,by rw [Ak4];exact d0,Ao (λ hz=>?_) (λ aQ=>?_)⟩
  ·refine⟨_,gj.cell 0 rfl rfl,?_⟩;rw [Ae (by omega)];refine gj.IX 0 rfl (aC:=zC ((As (ls.take i)+1:Nat):Int) (F7 (ls.take i))) (show 0<7 by decide) rfl λ jl K26 S26=>⟨⟨i+1,by omega,?_,?_,iX⟩,cL⟩
   ·rw [CT aD,if_pos hz,Al2]
   ·rw [FC aD,if_pos hz,OY aD hz];exact S26
  ·obtain⟨n,eM⟩:∃ n,n=(AQ (ls.take i)).length:=⟨_,rfl⟩;obtain⟨mm,ir⟩:∃ mm,mm=F7 (ls.take i):=⟨_,rfl⟩;obtain⟨nu,iT⟩:∃ nu,nu=As (ls.take i):=⟨_,rfl⟩;have sr:=W3 (ls:=ls.take (i+1)) iX i (by rw [AlX];omega);have htt:(ls.take (i+1)).take i=ls.take i:=by rw [List.take_take];congr 1;omega
   rw [htt,<- ir] at sr;have ae:=Pr aD aQ;have o5:(AQ (ls.take (i+1))).length=n+1:=by rw [CT aD,if_neg aQ,Ak1,eM];rfl
   have ow:As (ls.take (i+1))=nu:=by rw [FC aD,if_neg aQ,iT];rfl
   rw [<- eM,<- ir] at ae;rw [<- iT,<- ir] at gj;rw [<- eM];obtain⟨v,hvd⟩:∃ v,v=ls[i]:=⟨_,rfl⟩;rw [<- hvd] at hr ae;have rO:∀ {wx:World},Below w.heap.size w wx->wx.cell? (p.add (i*3))=some (.int .i64 v.1)/\wx.cell? ((p.add (i*3)).add 1)=some (.int .i64 v.2.1)/\wx.cell? ((p.add (i*3)).add 2)=some (.string v.2.2):=λ B=>by
    obtain⟨q,hq,e0,e1,e2⟩:=De (hl.grown B) aD;cases hq;rw [hvd];exact⟨e0,e1,e2⟩
   refine gj.E9 λ kN oE pH=>⟨⟨by omega,aB⟩,?_⟩;obtain⟨e0,e1,e2⟩:=rO pH.below;refine⟨_,by rw [Ak4];exact e0,_,by rw [Ak4];exact e1,_,by rw [Ak4];exact e2,_,pH.cell 0 rfl rfl,_,pH.cell 0 rfl rfl,_,pH.cell 0 rfl rfl,(Lo kN v mm.1).mono ?_⟩;rintro _ nE ⟨_,rfl,rfl,yi⟩;have zb:=pH.grown yi;refine⟨_,rfl,zb.E9 λ kD B29 qg=>⟨⟨by omega,aB⟩,?_⟩⟩;obtain⟨e0,e1,e2⟩:=rO qg.below;refine⟨_,by rw [Ak4];exact e0,_,by rw [Ak4];exact e1,_,by rw [Ak4];exact e2,_,qg.cell 0 rfl rfl,_,qg.cell 0 rfl rfl,_,qg.cell 0 rfl rfl,(Lo kD v mm.2).mono ?_⟩;rintro _ eA ⟨_,rfl,rfl,fW⟩;have oT:=qg.grown fW;rw [<- Adk hr sr.1,<- Adk hr sr.2];have fin:∀ {wy:World} {mn mx:AB},SH (λ _=>False) w wy [(dO,zC (nu:Int) (mn,mx),ty.AU),(b2,zC 0 (Z0,Z0),ty.AU)]->mn=(if n=0\/D3 v mm.1<0 then v else mm.1)->mx=(if n=0\/0<D3 v mm.2 then v else mm.2) ->
     (∃ j:Nat,j<=ls.length/\[Value.bool false,.int .i64 ((i+1:Nat):Int)]=[.bool (decide ((AQ (ls.take j)).length=0)),.int .i64 (j:Int)]/\SH (λ _=>False) w wy [(dO,zC (As (ls.take j):Int) (F7 (ls.take j)),ty.AU),(b2,zC 0 (Z0,Z0),ty.AU)]/\∀ v∈ls.take j,AK v=true)/\ls.length-((i+1:Nat):Int).toNat<ls.length-((i:Nat):Int).toNat:=by
    rintro wy mn mx Sy rfl rfl;refine⟨⟨i+1,by omega,?_,?_,iX⟩,cL⟩
    ·rw [o5];simp
    ·rw [ow,ae];exact Sy
   refine⟨_,rfl,λ s iU=>s=[]/\SH (λ _=>False) w iU [(dO,zC (nu:Int) (if n=0\/D3 v mm.1<0 then v else mm.1,mm.2),ty.AU),(b2,zC 0 (Z0,Z0),ty.AU)],?_,?_⟩
   ·obtain⟨e0,e1,e2⟩:=rO oT.below;refine Aa (λ h0=>⟨⟨by omega,aB⟩,_,by rw [Ak4];exact e0,_,by rw [Ak4];exact e1,_,by rw [Ak4];exact e2,oT.XQ 0 rfl λ iQ uV mS=>⟨rfl,?_⟩⟩)
     (λ h0=>Aa (λ hc=>⟨⟨by omega,aB⟩,_,by rw [Ak4];exact e0,_,by rw [Ak4];exact e1,_,by rw [Ak4];exact e2,oT.XQ 0 rfl λ iQ uV mS=>⟨rfl,?_⟩⟩) (λ hc=>⟨rfl,?_⟩))
    ·rw [if_pos (.inl h0)];exact mS
    ·rw [if_pos (.inr hc)];exact mS
    ·rw [if_neg (by omega)];exact oT
   rintro iU ⟨_,oN⟩;obtain⟨e0,e1,e2⟩:=rO oN.below;refine Aa (λ h0=>⟨⟨by omega,aB⟩,_,by rw [Ak4];exact e0,_,by rw [Ak4];exact e1,_,by rw [Ak4];exact e2,oN.Yx 0 rfl λ iQ uV mS=>fin (mx:=v) mS rfl (by rw [if_pos (.inl h0)])⟩)
     (λ h0=>Aa (λ hc=>⟨⟨by omega,aB⟩,_,by rw [Ak4];exact e0,_,by rw [Ak4];exact e1,_,by rw [Ak4];exact e2,oN.Yx 0 rfl λ iQ uV mS=>fin (mx:=v) mS rfl (by rw [if_pos (.inr (by omega))])⟩) (λ hc=>fin oN rfl (by rw [if_neg (by omega)])))
 ·have bG:ls.take i=ls:=List.take_of_length_le (by omega);rw [bG] at aF fv;have aK:GS ls:=⟨hlen,aF⟩;refine⟨_,fv.cell 0 rfl rfl,_,fv.cell 0 rfl rfl,_,fv.cell 0 rfl rfl,_,fv.cell 0 rfl rfl,_,fv.cell 0 rfl rfl,_,fv.cell 0 rfl rfl,_,fv.cell 0 rfl rfl,fv.Zl 1 rfl λ yC xP SP=>?_⟩;exact⟨_,SP.cell 1 rfl rfl,_,SP.cell 1 rfl rfl,_,SP.cell 1 rfl rfl,_,SP.cell 1 rfl rfl,_,SP.cell 1 rfl rfl,_,SP.cell 1 rfl rfl,_,SP.cell 1 rfl rfl,.inl ⟨aK,rfl⟩,SP.below⟩
end
theorem Z5.open{ls:List AB}{r:Value}(h:Z5 ls r):∃ n p e,r=zV n p e/\((GS ls/\n=(As ls:Int)/\p=F7 ls/\e=0)\/(¬ GS ls/\e=2)):=by
 rcases h with ⟨h,rfl⟩ | ⟨h,rfl⟩
 ·exact⟨_,_,_,rfl,.inl ⟨h,rfl,rfl,rfl⟩⟩
 ·exact⟨_,_,_,rfl,.inr ⟨h,rfl⟩⟩
structure AiI(ls:List AB)(i:Nat):Prop where
 all:∀ v∈ls.take i,v.1≠0->0<=D3 v (F7 (ls.take i)).1/\D3 v (F7 (ls.take i)).2<=0
 some:0<(AQ (ls.take i)).length->((F7 (ls.take i)).1∈ls.take i/\(F7 (ls.take i)).1.1≠0)/\((F7 (ls.take i)).2∈ls.take i/\(F7 (ls.take i)).2.1≠0)
 none:(AQ (ls.take i)).length=0->F7 (ls.take i)=(Z0,Z0)
theorem Aau(v:AB):D3 v v=0:=(Jq.zero v v).2 rfl
theorem Afa{ls:List AB}(h:(AQ ls).length=0):∀ v∈ls,v.1=0:=by
 intro v hv;have hf:AQ ls=[]:=List.eq_nil_of_length_eq_zero h;unfold AQ at hf;have:=List.filter_eq_nil_iff.1 hf v hv;simpa using this
theorem within{ls:List AB}:∀ i,i<=ls.length->AiI ls i
 | 0,_=>⟨by simp,by simp [AQ],λ _=>rfl⟩
 | i+1,hi=>by
  have aD:i<ls.length:=by omega
  obtain⟨h1,h2,h3⟩:=within (ls:=ls) i (by omega);have cw:∀ v,v∈ls.take i->v∈ls.take (i+1):=λ v hv=>by rw [AlW aD];exact List.mem_append_left _ hv
  have cD:ls[i]∈ls.take (i+1):=by rw [AlW aD];exact List.mem_append_right _ (AlZ.2 rfl)
  by_cases h0:ls[i].1=0
  ·have ef:AQ (ls.take (i+1))=AQ (ls.take i):=by rw [CT aD,if_pos h0,Al2]
   have ez:=OY aD h0;refine⟨?_,?_,?_⟩
   ·rw [ez];intro v hv aQ;rw [AlW aD] at hv;rcases AlY.1 hv with h | h
    ·exact h1 v h aQ
    ·rw [AlZ.1 h] at aQ;exact absurd h0 aQ
   ·rw [ef,ez];intro hp;obtain⟨⟨a1,a2⟩,b1,b2⟩:=h2 hp;exact⟨⟨cw _ a1,a2⟩,cw _ b1,b2⟩
   ·rw [ef,ez];exact h3
  ·have ez:=Pr aD h0;have ef:(AQ (ls.take (i+1))).length=(AQ (ls.take i)).length+1:=by rw [CT aD,if_neg h0,Ak1];rfl
   obtain⟨mm,ir⟩:∃ mm,mm=F7 (ls.take i):=⟨_,rfl⟩;obtain⟨n,hn⟩:∃ n,n=(AQ (ls.take i)).length:=⟨_,rfl⟩;rw [<- ir,<- hn] at ez h2;rw [<- ir] at h1;rw [<- hn] at ef;have min_le:0<=D3 ls[i] (if n=0\/D3 ls[i] mm.1<0 then ls[i] else mm.1):=by
    split
    ·rw [Aau];exact Int.le_refl _
    ·omega
   have max_le:D3 ls[i] (if n=0\/0<D3 ls[i] mm.2 then ls[i] else mm.2)<=0:=by
    split
    ·rw [Aau];exact Int.le_refl _
    ·omega
   have old:∀ v∈ls.take i,v.1≠0->¬ n=0:=λ v hv aQ h=>aQ (Afa (by rw [<- hn];exact h) v hv);refine⟨?_,?_,λ h=>by omega⟩
   ·rw [ez];intro v hv aQ;rw [AlW aD] at hv;rcases AlY.1 hv with h | h
    ·obtain⟨k1,k2⟩:=h1 v h aQ;have dB:=old v h aQ;refine⟨?_,?_⟩
     ·simp only;split
      ·rename_i hc;have dw:D3 ls[i] mm.1<0:=hc.resolve_left dB;have k1':D3 mm.1 v<=0:=by have:=Jq.neg v mm.1;omega
       have:=Jq.strict _ _ _ dw k1';have:=Jq.neg ls[i] v;omega
      ·exact k1
     ·simp only;split
      ·rename_i hc;have dw:0<D3 ls[i] mm.2:=hc.resolve_left dB;have:D3 mm.2 ls[i]<=0:=by have:=Jq.neg ls[i] mm.2;omega
       exact Jq.trans _ _ _ k2 this
      ·exact k2
    ·rw [AlZ.1 h];exact⟨min_le,max_le⟩
   ·rw [ez];intro _;refine⟨?_,?_⟩
    ·simp only;split
     ·exact⟨cD,h0⟩
     ·rename_i hc;obtain⟨⟨a1,a2⟩,_⟩:=h2 (by omega);exact⟨cw _ a1,a2⟩
    ·simp only;split
     ·exact⟨cD,h0⟩
     ·rename_i hc;obtain⟨_,b1,b2⟩:=h2 (by omega);exact⟨cw _ b1,b2⟩
structure E2(K:Int)(ls:List AB)(l:List UInt8):Prop where
 D1:Bc K ls
 ex:∃ o,(As ls<ls.length->D7 K ls o)/\(¬ As ls<ls.length->o=[])/\l=FB K ls++DM ls++o
theorem XB{ls:List AB}(h:As ls=0):A3 ls=AkZ ls.length 0:=by
 unfold A3;rw [List.eq_replicate_iff];refine⟨by simp,λ b hb=>?_⟩;obtain⟨v,hv,rfl⟩:=List.mem_map.1 hb;unfold As at h;have:=(List.countP_eq_zero.1 h) v hv;rw [if_neg (by simpa using this)]
theorem Aax{ls:List AB}(h:As ls=ls.length):A3 ls=AkZ ls.length 1:=by
 unfold A3;rw [List.eq_replicate_iff];refine⟨by simp,λ b hb=>?_⟩;obtain⟨v,hv,rfl⟩:=List.mem_map.1 hb;unfold As at h;have:=(List.countP_eq_length.1 h) v hv;rw [if_pos (by simpa using this)]
theorem Bc.null{K:Int}{ls:List AB}(h:Bc K ls):∀ v∈ls,v.1=0->v=(0,0,E0):=by
 intro v hv h0;have aK:=h.all v hv;simp only [okV,Bool.and_eq_true] at aK;have hr:=aK.1;unfold AK at hr;rw [if_pos h0] at hr;simp at hr;obtain⟨v1,v2,v3⟩:=v;simp only at h0 hr;rw [h0,hr.1,hr.2]
theorem Sh(ls:List AB):As ls+(AQ ls).length=ls.length:=by
 induction ls with
 | nil=>rfl
 | cons v ls ih =>
  unfold As AQ at ih ⊢;by_cases h:v.1=0
  ·simp [h];omega
  ·simp [h];omega
structure Nr(K:Int)(ls:List AB)(l:List UInt8)(aL aZ:Nat)(o:List UInt8):Prop where
 kind:((l.getD 0 0).toNat:Int)=K
 n1:takeN l 1=some (ls.length,aL)
 n2:takeN l (aL:Int)=some (As ls,aZ)
 rest:l.drop aZ=DM ls++o
 oth:As ls<ls.length->D7 K ls o
 none:¬ As ls<ls.length->o=[]
theorem E2.q{K:Int}{ls:List AB}{l:List UInt8}(h:E2 K ls l):∃ aL aZ o,Nr K ls l aL aZ o:=by
 obtain⟨o,h1,h2,rfl⟩:=h.ex;have hlen:=h.D1.len;have hk:=h.D1.kind;have bn:=Dc ls;have e1:(FB K ls++DM ls++o).drop 1=Af ls.length++(Af (As ls)++(DM ls++o)):=by simp [FB]
 have e2:=CR e1;have e3:=CR e2;refine⟨_,_,o,?_,Cc (at_:=1) (by omega) e1,Cc (by omega) e2,e3,h1,h2⟩;have:((FB K ls++DM ls++o).getD 0 0)=UInt8.ofNat K.toNat:=by simp [FB]
 rw [this,EY (by omega)];omega
def L1(l:List UInt8)(w w':World)(v:Value):Prop :=
 ∃(K:Int) (os:List AB) (a:Option Addr) (c:Nat) (ok:Bool),v=.tuple #[.int .i64 K,.slice a os.length c,.bool ok]/\Y1 w w' a (AO os)/\Below w.heap.size w w'/\os.length<=4096/\(∀ v∈os,BN v) /\
  ∀ K' ls,E2 K' ls l->ok=true/\K=K'/\os=ls
theorem L1.bad{l:List UInt8}{w w':World}(hb:Below w.heap.size w w')(h:∀ K ls,¬ E2 K ls l):L1 l w w' (.tuple #[.int .i64 0,.slice none 0 0,.bool false]) :=
 ⟨0,[],none,0,false,rfl,Y1.nil _ _,hb,by simp,by simp,λ K ls aM=>absurd aM (h K ls)⟩
section
variable {w:World}{a:Option Addr}{c:Nat}{l:List UInt8}
theorem Wg(hl:Rd w a (l.map Ag))(hc:l.length<=c)(hs:l.length<=9223372036854775807) :
  Calls Tryz.prog f.Adc #[.slice a l.length c] w (AG λ v w'=>L1 l w w' v):=by
 apply R.RZ
 delta R.Ad R.MV R.AbO R.AR R.Bz R.D R.F R.G R.H R.I R.Ly R.O R.Qi R.Rs R.S R.Am R.U R.W R.Wu R.X R.Y R.Ajt;try dsimp only [R.Ps]
 refine Aa (λ h=>L1.bad (.refl _ _) λ K ls hp=>?_) (λ iH=>?_)
 ·obtain⟨_,_,_,q⟩:=hp.q;have:=Az q.n1;omega
 have h0:0<l.length:=by omega
 refine (AL hl hc hs 1).mono ?_;rintro _ w ⟨_,rfl,rfl,rfl⟩;obtain⟨n,aL,e1,hv1,cJ,cO⟩:∃(n aL:Nat) (e1:Int),LX (takeN l 1)=.tuple #[.int .u64 (n:Int),.int .i64 (aL:Int),.int .i64 e1]/\(n<18446744073709551616/\aL<=l.length)/\(∀ K ls,E2 K ls l->e1=0/\n=ls.length/\takeN l 1=some (n,aL)):=by
  cases hx:takeN l 1 with
  | none =>
   refine⟨0,0,20,rfl,by omega,λ K ls hp=>?_⟩;obtain⟨_,_,_,q⟩:=hp.q;have:=q.n1;rw [hx] at this;cases this
  | some x =>
   have hb:=Az (n:=x.1) (k:=x.2) hx;refine⟨x.1,x.2,0,rfl,by omega,λ K ls hp=>?_⟩;obtain⟨_,_,_,q⟩:=hp.q;have:=q.n1;rw [hx] at this;have:=Al8 this;exact⟨rfl,by rw [this],rfl⟩
 rw [hv1];refine⟨_,_,_,rfl,(AL hl hc hs (aL:Int)).mono ?_⟩;rintro _ w ⟨_,rfl,rfl,rfl⟩;obtain⟨no,aZ,e2,gn,dC,hP2⟩:∃(no aZ:Nat) (e2:Int),LX (takeN l (aL:Int))=.tuple #[.int .u64 (no:Int),.int .i64 (aZ:Int),.int .i64 e2]/\(no<18446744073709551616/\aZ<=l.length)/\(∀ K ls,E2 K ls l->e2=0/\no=As ls/\∃ o,Nr K ls l aL aZ o):=by
  have step:∀ K ls,E2 K ls l->∃ aZ o,Nr K ls l aL aZ o:=by
   intro K ls hp;obtain⟨a1,a2,o,q⟩:=hp.q;have h1:=(cO K ls hp).2.2;have h2:=q.n1;rw [h1] at h2;obtain rfl:aL=a1:=by have:=Al8 h2;simpa using congrArg Prod.snd this
   exact⟨a2,o,q⟩
  cases hx:takeN l (aL:Int) with
  | none =>
   refine⟨0,0,20,rfl,by omega,λ K ls hp=>?_⟩;obtain⟨_,_,q⟩:=step K ls hp;have:=q.n2;rw [hx] at this;cases this
  | some x =>
   have hb:=Az (n:=x.1) (k:=x.2) hx;refine⟨x.1,x.2,0,rfl,by omega,λ K ls hp=>?_⟩;obtain⟨a2,o,q⟩:=step K ls hp;have:=q.n2;rw [hx] at this;have qP:=Al8 this;obtain rfl:x.2=a2:=by rw [qP]
   exact⟨rfl,by rw [qP],o,q⟩
 rw [gn];refine⟨_,_,_,rfl,Ah (λ h=>L1.bad (.refl _ _) λ K ls hp=>h (cO K ls hp).1) (λ vi=>Ah (λ h=>L1.bad (.refl _ _) λ K ls hp=>h (hP2 K ls hp).1) (λ ml=>Aa (λ h=>L1.bad (.refl _ _) λ K ls hp=>?_) (λ eN=>Aa (λ h=>L1.bad (.refl _ _) λ K ls hp=>?_) (λ gi=>?_))))⟩
 ·have:=(cO K ls hp).2.1;have:=hp.D1.len;omega
 ·have:=(cO K ls hp).2.1;have:=(hP2 K ls hp).2.1;have:=Dc ls;omega
 have hn:n<=1024:=by omega
 have aP:no<=n:=by omega
 refine Ea tU (l:=(n:Int)) (c:=(n:Int)) (by omega) (by omega) (by omega) (by omega) λ bo w3 fN B3 gm=>?_;rw [Ak4] at gm ⊢;have ie:w3.heap[bo]?=some (.cells ⟨AkZ n (.int .u64 0)⟩ ty.uint64 (0,0)):=by
  have e:madeCells (Value.int .u64 0).cells (n*1)=⟨AkZ n (.int .u64 0)⟩:=by
   apply Array.ext';rw [Ej _ rfl,Ak7]
  rw [<- e];exact gm
 refine⟨_,_,_,rfl,λ s w8=>∃(bH:Nat) (e:Int) (bits:List Nat) (ab:Option Addr) (cb:Nat),s=[.int .i64 (bH:Int),.int .i64 e,.slice ab bits.length cb]/\Rd w8 ab (bits.map ES)/\Below w.heap.size w w8/\bits.length<=4096/\bH<=l.length /\
   (∀ K ls,E2 K ls l->e=0/\bits=A3 ls/\∃ o,Nr K ls l aL aZ o/\l.drop bH=o),?_,?_⟩
 ·have rep:∀(k:Nat) (x:Nat),(AkZ k x).map ES=AkZ k (.int .u64 (x:Int)):=λ k x=>by rw [List.map_replicate];rfl
  refine Ao (λ hz=>?_) (λ hz=>Ao (λ aF=>?_) (λ lx=>?_))
  ·refine⟨aZ,e1,AkZ n 0,some ⟨bo,0,none⟩,n,by rw [Amt],?_,B3,by simp;omega,dC.2,λ K ls hp=>?_⟩
   ·have:=Rd.Ak ie;rw [rep];exact this
   ·obtain⟨_,gF,o,q⟩:=hP2 K ls hp;have cg:=(cO K ls hp).2.1;have dn:As ls=0:=by omega
    refine⟨vi,by rw [XB dn,cg],o,q,?_⟩;rw [q.rest];unfold DM;rw [if_neg (by omega)];rfl
  ·refine⟨λ s w4=>∃ i:Nat,i<=n/\s=[.int .i64 (i:Int)]/\Ai (λ k=>k=bo) w3 w4/\w4.heap[bo]?=some (.cells ⟨AkZ i (.int .u64 1)++AkZ (n-i) (.int .u64 0)⟩ ty.uint64 (0,0)),λ s _=>match s with
     | [.int _ i]=>n-i.toNat
     | _=>0,⟨0,by omega,rfl,.refl _ _,by simpa using ie⟩,?_⟩
   rintro _ w4 ⟨i,hi,aA,K4,qF⟩;cases aA;refine Aa (λ aB=>⟨⟨by omega,aB⟩,?_⟩) (λ aJ=>?_)
   ·rw [Ak4];unfold Av;simp only;refine Uy qF (p:=(⟨bo,0,none⟩:Addr).add (i*1)) (i:=i) (by rw [Ax];simp) (by show i<(_++_:List Value).length;simp;omega) λ w5 K5 fD=>?_;rw [Ae (by omega)];refine⟨⟨i+1,by omega,rfl,K4.trans K5 (λ _ _ h=>h),?_⟩,?_⟩
    ·have e:(⟨AkZ i (.int .u64 1)++AkZ (n-i) (.int .u64 0)⟩:Array Value).setIfInBounds i (.int .u64 1)=⟨AkZ (i+1) (.int .u64 1)++AkZ (n-(i+1)) (.int .u64 0)⟩:=by
      apply Array.ext';simp only [Array.toList_setIfInBounds];rw [List.set_append_right _ _ (by simp),Amt,Nat.sub_self,show n-i=(n-(i+1))+1 by omega,List.replicate_succ (n:=n-(i+1)),Ams,List.replicate_succ' (n:=i),List.append_assoc];rfl
     rw [e] at fD;exact fD
    ·simp only [Ak4];omega
   ·have cD:i=n:=by omega
    subst cD;rw [Nat.sub_self,List.replicate_zero,Al2] at qF;refine⟨aZ,e1,AkZ i 1,some ⟨bo,0,none⟩,i,by rw [Amt],?_,B3.trans (K4.below B3.size λ k hk h=>by omega),by simp;omega,dC.2,λ K ls hp=>?_⟩
    ·have:=Rd.Ak qF;rw [rep];exact this
    ·obtain⟨_,gF,o,q⟩:=hP2 K ls hp;have cg:=(cO K ls hp).2.1;have dn:As ls=ls.length:=by omega
     refine⟨vi,by rw [Aax dn,cg],o,q,?_⟩;rw [q.rest];unfold DM;rw [if_neg (by omega)];rfl
  ·rw [wrap_i64 (n:=(n:Int)) (by omega) (by omega)];refine (JK w3 (n:Int) 1).mono ?_;rintro _ w6 ⟨_,rfl,rfl,rfl⟩;rw [if_pos ⟨by omega,by omega,by omega,by omega⟩];obtain⟨sz,aw⟩:∃ sz,sz=Dv n 1:=⟨_,rfl⟩;have tF:sz=(n+7) / 8:=by rw [aw];unfold Dv;rw [Ak7]
   have vQ:((n:Int)*1+7) / 8=(sz:Int):=by omega
   rw [vQ,wrap_i64 (n:=(l.length:Int)-(aZ:Int)) (by omega) (by omega)];have dY:∀ K ls,E2 K ls l->∃ o,Nr K ls l aL aZ o/\l.drop aZ=A5 (A3 ls) 1++o/\(A5 (A3 ls) 1).length=sz:=by
    intro K ls hp;obtain⟨_,gF,o,q⟩:=hP2 K ls hp;have cg:=(cO K ls hp).2.1;refine⟨o,q,?_,?_⟩
    ·rw [q.rest];unfold DM;rw [if_pos (by omega)]
    ·rw [BS,aw,cg];simp [A3]
   refine⟨_,_,rfl,Aa (λ h=>L1.bad B3 λ K ls hp=>?_) (λ aJ=>?_)⟩
   ·obtain⟨o,_,e,e2⟩:=dY K ls hp;have:=congrArg List.length e;rw [Alu,Ak1] at this;omega
   rw [wrap_i64 (n:=(aZ:Int)+(sz:Int)) (by omega) (by omega)];refine⟨⟨by omega,by omega,by omega⟩,?_⟩;rw [Ak4,show ((aZ:Int)+(sz:Int)).toNat=aZ+sz by omega,Nat.add_sub_cancel_left];have bD:=(hl.grown B3).OV aZ (aZ+sz) c 1 (by omega);rw [Ak7,Ak7,Nat.add_sub_cancel_left,<- List.map_drop,<- List.map_take] at bD;have nv:((l.drop aZ).take sz).length=sz:=by rw [AlX,Alu];omega
   have hU:=HS (c:=c-aZ) bD (n:Int) 1 (by omega);rw [nv] at hU;refine hU.mono ?_;rintro _ w7 ⟨_,rfl,xs,xa,xc,e,rfl,gd,B7,ng,aG⟩;have C7:=Ac B3 B7;have ct:xs.length<=4096:=by
    rcases aG with ⟨_,_,rfl,_⟩ | ⟨_,rfl,_⟩
    ·rw [Ce];omega
    ·simp
   refine⟨_,_,_,_,rfl,aZ+sz,e,xs,xa,xc,rfl,gd,C7,ct,by omega,λ K ls hp=>?_⟩;obtain⟨o,q,e3,e4⟩:=dY K ls hp;have cg:=(cO K ls hp).2.1;have au:(A3 ls).length=n:=by rw [cg];simp [A3]
   have dA:(l.drop aZ).take sz=A5 (A3 ls) 1:=by rw [e3,<- e4,List.take_left]
   have fp:=Iu (T1 ls);rw [au] at fp;rw [dA,Ak4,show (1:Int).toNat=1 from rfl] at aG;have aK:GQ (n:Int) 1/\RJ (A5 (A3 ls) 1) n 1:=⟨⟨by omega,by omega,by omega,by omega⟩,⟨by rw [BS,au],by rw [fp]⟩⟩;rcases aG with ⟨_,_,bN,he⟩ | ⟨hno2,_⟩
   ·exact⟨he,by rw [bN,fp],o,q,by rw [<- e4,<- List.drop_drop,e3,List.drop_left]⟩
   ·exact absurd aK hno2
 rintro _ e ab _ cb w8 ⟨bH,_,bits,_,_,aA,qw,B8,au,tC,oG⟩;cases aA;refine (SH.start (λ _=>False) w8).E9 λ w9 B9 _=>⟨⟨by omega,by omega⟩,?_⟩;have C9:=Ac B8 B9;have iD:=J3 (q:=bH) (hl.grown C9) hc;obtain⟨p,rfl,aE⟩:=DH (hl.grown C9) h0;have bh:=(l.getD 0 0).toNat_lt;refine⟨⟨by omega,by omega,by omega⟩,_,aE,?_⟩;have en:IntKind.i64.wrap (IntKind.u64.wrap ((n:Int)-(no:Int)))=((n-no:Nat):Int):=by rw [Aj (by omega) (by omega),wrap_i64 (by omega) (by omega)];omega
 rw [en,wrap_i64 (n:=((l.getD 0 0).toNat:Int)) (by omega) (by omega),Ak4,<- Alu (i:=bH) (l:=l)];refine (QR ((l.getD 0 0).toNat:Int) iD (by rw [Alu];omega) (by rw [Alu];omega) (n:=n-no) (by omega)).mono ?_;rintro _ bZ ⟨_,rfl,vs,xS,xW,ok,rfl,rA,cA,gr,gD,hD⟩;have mT:=Ac C9 cA;have fe:∀ K ls,E2 K ls l->ok=true/\vs=AQ ls:=by
  intro K ls hp;obtain⟨_,_,o,q,ho⟩:=oG K ls hp;have cg:=(cO K ls hp).2.1;have gF:=(hP2 K ls hp).2.1;have x9:=Sh ls;refine hD ls (by rw [q.kind];exact hp.D1) (by omega) (λ h=>?_) (λ h=>?_)
  ·rw [q.kind,ho];exact q.oth (by omega)
  ·rw [ho];exact q.none (by omega)
 refine⟨_,_,_,_,rfl,Ah (λ h=>L1.bad mT λ K ls hp=>h (oG K ls hp).1) (λ he=>Au (Ap (λ aK=>?_) (λ aK=>L1.bad mT λ K ls hp=>?_)))⟩
 case refine_2 =>
  have:=(fe K ls hp).1;rw [this] at aK;cases aK
 refine (TD ((qw.grown B9).grown cA) rA au gr gD).mono ?_;rintro _ aX ⟨_,rfl,os,r8,qu,zh,rfl,uW,cF,cE,ky,hS⟩;have jJ:=Ac mT cF;obtain⟨p',hp',hcell'⟩:=DH (hl.grown jJ) h0;cases hp';refine⟨_,_,_,_,rfl,⟨by omega,by omega⟩,_,hcell',?_⟩;rw [wrap_i64 (n:=((l.getD 0 0).toNat:Int)) (by omega) (by omega)];refine⟨_,os,r8,qu,zh,rfl,uW.before mT,jJ,cE,ky,λ K ls hp=>?_⟩;obtain⟨_,bY,o,q,_⟩:=oG K ls hp;obtain⟨s1,s2⟩:=hS ls bY (fe K ls hp).2 hp.D1.null;exact⟨s1,q.kind,s2⟩
end
theorem Ld.read{K:Int}{ls:List AB}{b:List UInt8}(hg:Bc K ls)(h:Ld K ls b):E2 K ls (b.take (b.length-4))/\5<=b.length/\b=b.take (b.length-4)++UX (crc (b.take (b.length-4))):=by
 obtain⟨o,h1,h2,rfl⟩:=h.ex;have hs:∀ x,(UX x).length=4:=λ x=>rfl;have eH:1<=(FB K ls).length:=by simp [FB]
 have e:(FB K ls++DM ls++o++UX (crc (FB K ls++DM ls++o))).take ((FB K ls++DM ls++o++UX (crc (FB K ls++DM ls++o))).length-4)=FB K ls++DM ls++o:=by
  rw [Ak1,hs,Nat.add_sub_cancel,List.take_left]
 rw [e];refine⟨⟨hg,o,h1,h2,rfl⟩,?_,rfl⟩;simp only [Ak1,hs];omega
def R0(l:List UInt8)(w w':World)(v:Value):Prop :=
 ∃(K:Int) (ls:List AB) (a:Option Addr) (c:Nat) (e:Int),v=.tuple #[.int .i64 K,.slice a ls.length c,.int .i64 e]/\Y1 w w' a (AO ls)/\Below w.heap.size w w'/\ls.length<=4096 /\
  ((Bc K ls/\Ld K ls l/\e=0/\∀ K' bz,Bc K' bz->Ld K' bz l->K'=K/\bz=ls)\/((∀ K' bz,Bc K' bz->¬ Ld K' bz l)/\K=0/\ls=[]/\e=80))
theorem R0.bad{l:List UInt8}{w w':World}(hb:Below w.heap.size w w')(h:∀ K' bz,Bc K' bz->¬ Ld K' bz l):R0 l w w' (.tuple #[.int .i64 0,.slice none 0 0,.int .i64 80]) :=
 ⟨0,[],none,0,80,rfl,Y1.nil _ _,hb,by simp,.inr ⟨h,rfl,rfl,rfl⟩⟩
section
variable {w:World}{a:Option Addr}{c:Nat}{l:List UInt8}
theorem Ti(hl:Rd w a (l.map Ag))(hc:l.length<=c)(hs:l.length<=9223372036854775807) :
  Calls Tryz.prog f.Yk #[.slice a l.length c] w (AG λ v w'=>R0 l w w' v):=by
 apply R.NT
 delta R.WV R.AR R.Cb R.F R.H R.I R.O R.S R.W R.Y;try dsimp only [R.Ps]
 refine Aa (λ h=>R0.bad (.refl _ _) λ K ls hg hC=>by have:=(hC.read hg).2.1;omega) (λ aJ=>?_);rw [wrap_i64 (n:=(l.length:Int)-4) (by omega) (by omega),show ((l.length:Int)-4).toNat=l.length-4 by omega];refine⟨⟨by omega,by omega,by omega⟩,?_⟩;have bD:=hl.OV 0 (l.length-4) c 1 (by omega);rw [Ak7,Amu,Ak7,List.drop_zero,<- List.map_take] at bD;have aB:(l.take (l.length-4)).length=l.length-4:=by rw [AlX];omega
 have hR:=Wg (c:=c) bD (by omega) (by omega);rw [aB] at hR;rw [Amu,Amu];refine hR.mono ?_;rintro _ w1 ⟨_,rfl,K,os,a1,c1,ok,rfl,R1,B1,cE,ky,hP⟩;refine⟨_,_,_,_,_,rfl,(Kb K R1.rd (by omega) ky).mono ?_⟩;rintro _ w2 ⟨_,rfl,h2⟩;obtain⟨b2,a2,c2,e2,rfl,R2,B2,q2⟩:=h2.open;have C2:=Ac B1 B2;have key:∀ K' bz,Bc K' bz->Ld K' bz l->ok=true/\K=K'/\os=bz:=λ K' bz hg hC=>hP K' bz (hC.read hg).1;refine⟨_,_,_,_,rfl,Au (Ap (λ aK=>?_) (λ aK=>R0.bad C2 λ K' bz hg hC=>?_))⟩
 case refine_2 =>
  have:=(key K' bz hg hC).1;rw [this] at aK;cases aK
 rcases q2 with ⟨hr,hI,rfl⟩ | ⟨hr,rfl,rfl⟩
 ·refine Ah (λ h=>absurd rfl h) (λ _=>(H4 R2 (hl.grown C2)).mono ?_);rintro _ w3 ⟨_,rfl,rfl,rfl⟩;refine⟨_,rfl,Au (Aa (λ he=>?_) (λ he=>R0.bad C2 λ K' bz hg hC=>?_))⟩
  ·subst he;refine⟨K,os,a1,c1,0,rfl,R1.grown B2,C2,cE,.inl ⟨⟨hr,ky⟩,hI,rfl,λ K' bz hg hC=>?_⟩⟩;obtain⟨_,e1,e2⟩:=key K' bz hg hC;exact⟨e1.symm,e2.symm⟩
  ·obtain⟨_,rfl,rfl⟩:=key K' bz hg hC;exact he (hI.one hC)
 ·refine Ah (λ _=>R0.bad C2 λ K' bz hg hC=>?_) (λ h=>absurd h (by decide));obtain⟨_,rfl,rfl⟩:=key K' bz hg hC;rw [hg.right] at hr;cases hr
end
end Go.Proofs.YtpnaifmmggnimaaGreatDoor

namespace Go.Proofs.YtpnaifmmggnimaaGreatDoor
open _root_.Bool renaming and_eq_true -> AkC
open _root_.Int renaming tdiv -> AlJ, tdiv_eq_ediv_of_nonneg -> AlF, toNat_natCast -> Ak4
open _root_.List renaming append_assoc -> Ak2, countP_le_length -> Amv, getElem?_eq_getElem -> AlV, getElem_mem -> AlI, length_append -> Ak1, length_cons -> Ak3, length_drop -> Alu, length_take -> AlX, map_take -> Alw, mem_append -> AlY, mem_singleton -> AlZ, replicate -> AkZ, take_of_length_le -> AlA, take_succ_eq_append_getElem -> AlW
open _root_.Nat renaming le_trans -> Ali, mul_one -> Ak7, sub_zero -> Amu
open _root_.Option.some renaming inj -> Al8
open _root_.UInt8 renaming ofNat -> Ak9
set_option maxRecDepth 100000
open Go.Dn Go.Proofs
open Go.RowKit (Below)
set_option linter.unusedVariables false
def IP(l:List UInt8)(n:Nat)(w w':World)(v:Value):Prop :=
 ∃(ms:List Int) (a:Option Addr) (c:Nat),v=.slice a ms.length c/\FI w w' ms a c/\(∀ x∈ms,Fs x)/\ms.length<=100000/\∀ ls,DU l n ls->ms=ls
theorem IP.bad{l:List UInt8}{n:Nat}{w w':World}(hb:Below w.heap.size w w')(h:∀ ls,¬ DU l n ls):IP l n w w' (.slice none 0 0) :=
 ⟨[],none,0,rfl,⟨Row.nil _ _ _,by simp [AD],hb⟩,by simp,by simp,λ ls aM=>absurd aM (h ls)⟩
section
variable {w:World}{a:Option Addr}{c:Nat}{l:List UInt8}
theorem Tr.Ajo{f n:Nat}{out:List Int}{at_:Nat}(h:Tr l f n out at_)(hf:f<=1)(hn:n<=4096)(ho:out.length<n){ls:List Int}(aM:DU l n ls):∃ many aL nx x,out=ls.take out.length/\Step l f at_ ls out.length many aL nx x:=by
 obtain⟨k,hk,iq,hr⟩:=h ls aM;have hlen:=aM.len;have aO:out.length=k:=by rw [iq,AlX];omega
 rw [<- aO] at iq hr;obtain⟨many,aL,nx,x,hs⟩:=AdY hf aM.num (by omega) hr (by omega);exact⟨many,aL,nx,x,iq,hs⟩
theorem UH(hl:Rd w a (l.map Ag))(hs:l.length<=9223372036854775807)(h0:0<l.length){fm:Nat}(cV:fm=(l.getD 0 0).toNat)(hf:fm<=1){n:Nat}(hn:n<=4096) :
  Calls Tryz.prog f.V4 #[.slice a l.length c,.int .i64 (n:Int)] w (AG λ v w'=>IP l n w w' v):=by
 apply R.MU
 delta R.Kn R.Bz R.F R.I R.J R.Ks R.Ly R.N R.O R.ER R.S R.U R.W R.Wu R.X R.AhT;try dsimp only [R.Ps]
 have wL:Tr l fm n [] 1:=by
  intro ls aM;refine⟨0,by omega,rfl,?_⟩;have:=aM.enc;rw [<- cV] at this;rw [List.drop_zero];rcases (by omega:fm=0\/fm=1) with rfl | rfl
  ·rw [this];simp [DS,GG]
  ·rw [this];simp [DS,GG]
 refine⟨λ s w1=>∃(at_:Nat) (out:List Int) (oa:Option Addr) (oc:Nat),s=[.slice oa out.length oc,.int .i64 (at_:Int)]/\FI w w1 out oa oc/\(∀ x∈out,Fs x)/\out.length<=10000/\at_<=9223372036854775807/\Tr l fm n out at_,λ s _=>match s with
   | [.slice _ m _,_]=>n-m
   | _=>0,⟨1,[],none,0,rfl,FI.nil w,by simp,by simp,by omega,wL⟩,?_⟩
 rintro oa _ oc _ w1 ⟨at_,out,_,_,aA,h1,hI,cE,sI,hT⟩;cases aA;refine Aa (λ aB=>?_) (λ aJ=>?_)
 case refine_2 =>
  refine⟨out,oa,oc,rfl,h1,hI,by omega,λ ls aM=>?_⟩;obtain⟨k,hk,ho,hr⟩:=hT ls aM;have:=aM.len;have aO:out.length=k:=by rw [ho,AlX];omega
  rw [ho,AlA (by omega)]
 have u0:out.length<n:=by omega
 obtain⟨p,rfl,aE⟩:=DH (hl.grown h1.Ar) h0;have bh:=(l.getD 0 0).toNat_lt;have stay:(∀ ls,¬ DU l n ls)->IP l n w w1 (.slice oa out.length oc):=λ h=>⟨out,oa,oc,rfl,h1,hI,by omega,λ ls aM=>absurd aM (h ls)⟩;refine⟨λ s w3=>w3=w1/\∃(aL many:Nat) (e:Int),s=[.int .i64 (aL:Int),.int .u64 (many:Int),.int .i64 e]/\aL<=9223372036854775807/\((e≠0/\fm=1/\takeN l (at_:Int)=none)\/(e=0/\at_<=aL/\many<18446744073709551616/\((fm=1/\takeN l (at_:Int)=some (many,aL))\/(fm=0/\many=1/\aL=at_)))),?_,?_⟩
 ·refine⟨⟨by omega,by omega⟩,_,aE,Ao (λ h1'=>?_) (λ aQ=>?_)⟩
  ·refine (AJ (hl.grown h1.Ar) hs (at_:Int) (by omega)).mono ?_;rintro _ w2 ⟨_,rfl,rfl,rfl⟩;cases hx:takeN l (at_:Int) with
   | none=>exact⟨_,_,_,rfl,rfl,0,0,20,rfl,by omega,.inl ⟨by decide,by omega,rfl⟩⟩
   | some x =>
    have hb:=Az (n:=x.1) (k:=x.2) hx;exact⟨_,_,_,rfl,rfl,x.2,x.1,0,rfl,by omega,.inr ⟨rfl,by omega,by omega,.inl ⟨by omega,rfl⟩⟩⟩
  ·exact⟨rfl,at_,1,0,rfl,by omega,.inr ⟨rfl,by omega,by omega,.inr ⟨by omega,rfl,rfl⟩⟩⟩
 rintro _ _ e w3 ⟨rfl,aL,many,_,aA,me,aG⟩;cases aA;refine (FV (hl.grown h1.Ar) hs (aL:Int) (by omega)).mono ?_;rintro _ w4 ⟨_,rfl,rfl,rfl⟩;have key:∀ ls,DU l n ls->∃ nx x,out=ls.take out.length/\e=0/\takeN l (aL:Int)=some (D4 x,nx)/\0<many/\out.length+many<=ls.length/\ls.take (out.length+many)=ls.take out.length++AkZ many x/\l.drop nx=GG fm (ls.drop (out.length+many)):=by
  intro ls aM;obtain⟨m,a1,nx,x,ho,hs⟩:=hT.Ajo hf hn u0 aM;rcases aG with ⟨_,gO,aP⟩ | ⟨he,_,_,⟨gO,hso⟩ | ⟨fF,hm1,ha1⟩⟩
  ·rw [hs.num gO] at aP;cases aP
  ·have:=hs.num gO;rw [hso] at this;obtain⟨rfl,rfl⟩:=Prod.mk.injEq .. ▸ Al8 this;exact⟨nx,x,ho,he,hs.sgn,hs.pos,hs.le,hs.take,hs.rest⟩
  ·obtain⟨q1,q2⟩:=hs.one fF;subst q1 q2 hm1 ha1;exact⟨nx,x,ho,he,hs.sgn,hs.pos,hs.le,hs.take,hs.rest⟩
 cases hy:takeN l (aL:Int) with
 | none =>
  have aP:∀ ls,¬ DU l n ls:=λ ls aM=>by
   obtain⟨nx,x,_,_,h,_⟩:=key ls aM;rw [hy] at h;cases h
  exact⟨_,_,_,rfl,Ah (λ _=>stay aP) (λ _=>Ah (λ _=>stay aP) (λ h=>absurd h (by decide)))⟩
 | some y =>
 rw [Px];have oA:=Az (n:=y.1) (k:=y.2) hy;have kn:=GJ oA.1;rw [Aj (n:=(n:Int)) (by omega) (by omega)];refine⟨_,_,_,rfl,Ah (λ ly=>stay λ ls aM=>?_) (λ oS=>Ah (λ h=>absurd rfl h) (λ _=>Aa (λ gJ=>stay λ ls aM=>?_) (λ dQ=>?_)))⟩
 ·obtain⟨_,_,_,h,_⟩:=key ls aM;exact ly h
 ·obtain⟨_,_,_,_,_,_,h,_⟩:=key ls aM;have:=aM.len;omega
 have eD:many<=n:=by omega
 rw [wrap_i64 (n:=(many:Int)) (by omega) (by omega)];refine⟨λ s w5=>∃(j:Nat) (o2:List Int) (oa:Option Addr) (oc:Nat),s=[.slice oa o2.length oc,.int .i64 (j:Int)]/\j<=many/\o2=out++AkZ j (CC y.1)/\FI w w5 o2 oa oc,λ s _=>match s with
   | [_,.int _ i]=>many-i.toNat
   | _=>0,⟨0,out,oa,oc,rfl,by omega,by simp,h1⟩,?_⟩
 rintro rD _ r9 _ w5 ⟨j,o2,_,_,aA,hj,iE,h5⟩;cases aA;have vw:o2.length=out.length+j:=by rw [iE];simp
 have yP:∀ x∈o2,Fs x:=by
  intro x hx;rw [iE] at hx;rcases AlY.1 hx with h | h
  ·exact hI x h
  ·rw [(List.mem_replicate.1 h).2];exact kn
 refine Aa (λ ao=>?_) (λ cB=>?_)
 ·refine (SH.start (λ _=>False) w5).An λ b6 w6 kq B6 S6=>Gd (h5.grown B6) (by omega) (S6.get 0 rfl) λ a7 c7 w7 h7=>⟨_,_,_,rfl,?_⟩;rw [Ae (by omega)];refine⟨⟨j+1,_,a7,c7,rfl,by omega,?_,h7⟩,?_⟩
  ·rw [iE,List.replicate_succ',Ak2]
  ·simp only [Ak4];omega
 ·have uS:j=many:=by omega
  subst uS;refine Ao (λ fM=>?_) (λ fM=>?_)
  ·refine⟨o2,rD,r9,rfl,h5,yP,by omega,λ ls aM=>?_⟩;obtain⟨_,_,_,_,_,h,_⟩:=key ls aM;omega
  ·refine⟨⟨y.2,o2,rD,r9,rfl,h5,yP,by omega,by omega,?_⟩,?_⟩
   ·intro ls aM;obtain⟨nx,x,g1,_,g3,g4,g5,g7,g8⟩:=key ls aM;rw [hy] at g3;have lj:=Al8 g3;have ex:CC y.1=x:=by rw [lj];exact Gp
    have tO:y.2=nx:=by rw [lj]
    refine⟨out.length+j,g5,?_,by rw [tO];exact g8⟩;rw [iE,g7,<- g1,ex]
   ·show n-o2.length<n-out.length;omega
end
theorem Aej{s:Nat}(hs:s<18446744073709551616)(h:s % 2=1):IntKind.i64.wrap (IntKind.i64.wrap (0-IntKind.i64.wrap (IntKind.u64.wrap (AlJ (s:Int) 2)))-1)=CC s:=by
 have e2:IntKind.u64.wrap (AlJ (s:Int) 2)=((s / 2:Nat):Int):=by rw [AlF (by omega),Aj (by omega) (by omega)];omega
 unfold CC;rw [if_pos h,e2,wrap_i64 (n:=((s / 2:Nat):Int)) (by omega) (by omega),wrap_i64 (n:=0-((s / 2:Nat):Int)) (by omega) (by omega),wrap_i64 (by omega) (by omega)];omega
theorem Acu{s:Nat}(hs:s<18446744073709551616)(h:¬ s % 2=1):IntKind.i64.wrap (IntKind.u64.wrap (AlJ (s:Int) 2))=CC s:=by
 have e2:IntKind.u64.wrap (AlJ (s:Int) 2)=((s / 2:Nat):Int):=by rw [AlF (by omega),Aj (by omega) (by omega)];omega
 unfold CC;rw [if_neg h,e2,wrap_i64 (by omega) (by omega)]
section
variable {w:World}{a:Option Addr}{c:Nat}{l:List UInt8}
theorem Wn(hl:Rd w a (l.map Ag))(hc:l.length<=c)(hs:l.length<=9223372036854775807)(h0:0<l.length){fm:Nat}(cV:fm=(l.getD 0 0).toNat)(hf:fm=2\/fm=3){n:Nat}(hn:n<=4096) :
  Calls Tryz.prog f.Yv #[.slice a l.length c,.int .i64 (n:Int)] w (AG λ v w'=>IP l n w w' v):=by
 apply R.Oi
 delta R.Ad R.Kn R.AR R.D R.F R.I R.J R.Ks R.Lu R.Ly R.N R.O R.Ll R.ER R.S R.W R.Wu R.X R.Y;try dsimp only [R.Ps]
 refine (FV hl hs 1 (by decide)).mono ?_;rintro _ w ⟨_,rfl,rfl,rfl⟩;have zero:n=0->IP l n w w (.slice none 0 0):=λ h=>⟨[],none,0,rfl,FI.nil w,by simp,by simp,λ ls aM=>(List.eq_nil_of_length_eq_zero (by rw [aM.len,h])).symm⟩;cases hy:takeN l 1 with
 | none =>
  refine⟨_,_,_,rfl,Ao (λ h=>zero (by omega)) (λ jN=>Ah (λ _=>IP.bad (.refl _ _) λ ls aM=>?_) (λ h=>absurd h (by decide)))⟩;obtain⟨k1,k2,k3,_⟩:=Hu aM cV hf (by omega);have:=(EL k3 k1 k2).1;rw [hy] at this;cases this
 | some y =>
 rw [Px];have oA:=Az (n:=y.1) (k:=y.2) hy;have kn:Fs (CC y.1):=GJ oA.1;refine⟨_,_,_,rfl,Ao (λ h=>zero (by omega)) (λ jN=>Ah (λ h=>absurd rfl h) (λ _=>Aa (λ gJ=>IP.bad (.refl _ _) λ ls aM=>?_) (λ aB=>?_)))⟩
 ·obtain⟨k1,k2,k3,_⟩:=Hu aM cV hf (by omega);obtain⟨q1,q2,_⟩:=EL k3 k1 k2;rw [hy] at q1;have:=Al8 q1;have:y.2=1+(Em (DO fm ls)).length:=by rw [this]
  omega
 have dB:0<n:=by omega
 have hj:y.2<l.length:=by omega
 have hg:l.getD y.2 0=l[y.2]:=GM hj;have bh:=(l.getD 0 0).toNat_lt;have vk:=(l[y.2]).toNat_lt;have qO:∀(m:Nat),m=(if fm=2 then n-1 else n)->m<=4096->∀ ls,DU l n ls->GQ (m:Int) (l[y.2].toNat:Int)/\RJ (l.drop (y.2+1)) m l[y.2].toNat/\BI (l.drop (y.2+1)) m l[y.2].toNat=KR fm ls/\CC y.1=DO fm ls:=by
  intro m hm ki ls aM;obtain⟨k1,k2,k3,k4⟩:=Hu aM cV hf dB;obtain⟨q1,q2,q3,q4⟩:=EL k3 k1 k2;rw [hy] at q1;have qZ:=Al8 q1;have p7:y.2=1+(Em (DO fm ls)).length:=by rw [qZ]
  have jd:y.1=D4 (DO fm ls):=by rw [qZ]
  rw [<- p7,hg] at q3;rw [<- p7] at q4;rw [<- hm] at k4;obtain⟨u1,u2,u3⟩:=Xy k4 ki k2;rw [q3,q4];exact⟨u1,u2,u3,by rw [jd];exact Gp⟩
 obtain⟨p,rfl,aE⟩:=DH hl h0;refine⟨⟨by omega,by omega⟩,_,aE,Ao (λ h3=>?_) (λ h3=>?_)⟩
 ·have vB:fm=3:=by omega
  have bW:¬ fm=2:=by omega
  refine (SH.start (λ _=>False) w).E9 λ w2 B2 _=>?_;rw [wrap_i64 (n:=(y.2:Int)+1) (by omega) (by omega),show ((y.2:Int)+1).toNat=y.2+1 by omega];refine⟨⟨by omega,by omega,by omega⟩,⟨by omega,by omega⟩,?_⟩;have iD:=J3 (q:=y.2+1) (hl.grown B2) hc;obtain⟨p',hp',hcellj⟩:=byte_at (hl.grown B2) hj;cases hp';refine⟨_,by rw [Ak4];exact hcellj,?_⟩;rw [wrap_i64 (n:=(l[y.2].toNat:Int)) (by omega) (by omega),<- Alu (i:=y.2+1) (l:=l)];refine (Gu iD (n:Int) (l[y.2].toNat:Int) (by rw [Alu];omega)).mono ?_;rintro _ w3 ⟨_,rfl,xs,xa,xc,e,rfl,gd,B3,ng,aG⟩;rw [Ak4,Ak4] at aG;have C3:=Ac B2 B3;have key:=qO n (by rw [if_neg bW]) hn;refine⟨_,_,_,_,rfl,?_⟩;rcases aG with ⟨ha,hu,bN,rfl⟩ | ⟨aP,rfl,he⟩
  case inr =>
   refine Ah (λ _=>IP.bad C3 λ ls aM=>?_) (λ h=>by rw [he] at h;split at h <;> cases h);obtain⟨u1,u2,_⟩:=key ls aM;exact aP ⟨u1,u2⟩
  refine Ah (λ h=>absurd rfl h) (λ _=>?_);have ct:xs.length=n:=by rw [bN,Ce]
  refine⟨λ s w4=>∃(i:Nat) (out:List Int) (oa:Option Addr) (oc:Nat),s=[.slice oa out.length oc,.int .i64 (i:Int)]/\i<=n/\out.length=i/\(∀ x∈out,Fs x)/\FI w3 w4 out oa oc/\(∀ ls,DU l n ls->out=ls.take i),λ s _=>match s with
    | [_,.int _ i]=>n-i.toNat
    | _=>0,⟨0,[],none,0,rfl,by omega,rfl,by simp,FI.nil w3,λ _ _=>rfl⟩,?_⟩
  rintro oa _ oc _ w4 ⟨i,out,_,_,aA,hi,cE,lM,h4,hT⟩;cases aA;refine Aa (λ ao=>⟨⟨by omega,by omega⟩,?_⟩) (λ aJ=>?_)
  ·have dI:i<xs.length:=by omega
   obtain⟨p2,rfl,hcx⟩:=G8 (gd.grown h4.Ar) dI;refine⟨_,by rw [Ak4];exact hcx,(SH.start (λ _=>False) w4).An λ b5 w5 fX B5 S5=>Gd (h4.grown B5) (by omega) (S5.get 0 rfl) λ a6 c6 w6 h6=>⟨_,_,_,rfl,?_⟩⟩;rw [Ae (by omega)];refine⟨⟨i+1,_,a6,c6,rfl,by omega,by simp [cE],?_,h6,λ ls aM=>?_⟩,?_⟩
   ·intro x hx;rcases AlY.1 hx with h | h
    ·exact lM x h
    ·rw [AlZ.1 h];exact FY _
   ·obtain⟨_,_,u3,u4⟩:=key ls aM;have nY:xs=BJ ls:=by rw [bN,u3];simp [KR,bW]
    have dS:i<ls.length:=by have:=aM.len;omega
    have ag:=AlI dS;have mV:DO fm ls=FJ ls:=by simp [DO,bW]
    have dF:=Vc nY (Vo dS) dI;have bQ:IntKind.i64.wrap (IntKind.u64.wrap (IntKind.u64.wrap (FJ ls)+((ls[i]-FJ ls).toNat:Int)))=ls[i]:=VF (aM.num _ ag) (DJ aM.num (by omega) _) (MD ag);rw [hT ls aM,AlW dS,u4,mV,dF,bQ]
   ·simp only [Ak4];omega
  ·refine⟨out,oa,oc,rfl,⟨h4.row,λ k hk=>Ali C3.size (h4.new k hk),Ac C3 h4.Ar⟩,lM,by omega,λ ls aM=>?_⟩;rw [hT ls aM,AlA (by have:=aM.len;omega)]
 ·have bW:fm=2:=by omega
  refine (SH.start (λ _=>False) w).E9 λ w2 B2 _=>?_;rw [wrap_i64 (n:=(y.2:Int)+1) (by omega) (by omega),show ((y.2:Int)+1).toNat=y.2+1 by omega];refine⟨⟨by omega,by omega,by omega⟩,⟨by omega,by omega⟩,?_⟩;have iD:=J3 (q:=y.2+1) (hl.grown B2) hc;obtain⟨p',hp',hcellj⟩:=byte_at (hl.grown B2) hj;cases hp';refine⟨_,by rw [Ak4];exact hcellj,?_⟩;rw [wrap_i64 (n:=(l[y.2].toNat:Int)) (by omega) (by omega),<- Alu (i:=y.2+1) (l:=l),wrap_i64 (n:=(n:Int)-1) (by omega) (by omega)];obtain⟨m,hm⟩:∃ m,m=n-1:=⟨_,rfl⟩;have em:(n:Int)-1=(m:Int):=by omega
  rw [em];refine (Gu iD (m:Int) (l[y.2].toNat:Int) (by rw [Alu];omega)).mono ?_;rintro _ w3 ⟨_,rfl,xs,xa,xc,e,rfl,gd,B3,ng,aG⟩;rw [Ak4,Ak4] at aG;have C3:=Ac B2 B3;have key:=qO m (by rw [if_pos bW];exact hm) (by omega);refine⟨_,_,_,_,rfl,?_⟩;rcases aG with ⟨ha,hu,bN,rfl⟩ | ⟨aP,rfl,he⟩
  case inr =>
   refine Ah (λ _=>IP.bad C3 λ ls aM=>?_) (λ h=>by rw [he] at h;split at h <;> cases h);obtain⟨u1,u2,_⟩:=key ls aM;exact aP ⟨u1,u2⟩
  refine Ah (λ h=>absurd rfl h) (λ _=>?_);have ct:xs.length=m:=by rw [bN,Ce]
  have fQ:∀ x∈xs,x<18446744073709551616:=λ x hx=>by
   rw [bN] at hx;have:=NH _ _ _ x hx;have iV:l[y.2].toNat<=64:=by have:=ha.2.2.2;omega
   exact Nat.lt_of_lt_of_le this (Nat.pow_le_pow_right (n:=2) (by omega) iV)
  refine (SH.start (λ _=>False) w3).An λ b9 w9 rk B9 S9=>?_;have h9:FI w3 w9 [CC y.1] (some ⟨b9,0,none⟩) 1:=⟨⟨rfl,.inr ⟨b9,_,rfl,S9.get 0 rfl,by simp,by omega,rfl,by simp [EG]⟩⟩,λ k hk=>by cases hk;exact rk,B9⟩;refine⟨λ s w4=>∃(i:Nat) (fi:Int) (out:List Int) (oa:Option Addr) (oc:Nat),s=[.int .i64 fi,.slice oa out.length oc,.int .i64 (i:Int)]/\i<=m/\out.length=1+i/\Fs fi/\(∀ x∈out,Fs x)/\FI w3 w4 out oa oc/\(∀ ls,DU l n ls->out=ls.take (i+1)/\fi=ls.getD i 0),λ s _=>match s with
    | [_,_,.int _ i]=>m-i.toNat
    | _=>0,⟨0,CC y.1,[CC y.1],_,_,rfl,by omega,rfl,kn,λ x hx=>(by rw [AlZ.1 hx];exact kn),h9,λ ls aM=>?_⟩,?_⟩
  ·obtain⟨_,_,_,u4⟩:=key ls aM;have hp:0<ls.length:=by have:=aM.len;omega
   rw [u4];unfold DO;rw [if_pos bW];cases ls with
   | nil=>simp at hp
   | cons x r=>exact⟨rfl,rfl⟩
  rintro fi oa _ oc _ w4 ⟨i,_,out,_,_,aA,hi,cE,kh,lM,h4,hT⟩;cases aA;refine Aa (λ ao=>⟨⟨by omega,by omega⟩,?_⟩) (λ aJ=>?_)
  ·have dI:i<xs.length:=by omega
   have qJ:=fQ _ (AlI dI);obtain⟨p2,rfl,hcx⟩:=G8 (gd.grown h4.Ar) dI;refine⟨_,by rw [Ak4];exact hcx,⟨by omega,by omega⟩,_,by rw [Ak4];exact hcx,?_⟩;have sJ:Int.tmod (xs[i]:Int) 2=((xs[i] % 2:Nat):Int):=by rw [Int.tmod_eq_emod_of_nonneg (by omega)];omega
   rw [sJ,Ae (by omega)];have cL:m-((i+1:Nat):Int).toNat<m-((i:Nat):Int).toNat:=by
    simp only [Ak4];omega
   have fin:∀ {w6:World} {a6:Option Addr} {c6:Nat},FI w3 w6 (out++[IntKind.i64.wrap (fi+CC xs[i])]) a6 c6 ->
     (∃(i_1:Nat) (fi_1:Int) (out_1:List Int) (oa:Option Addr) (oc:Nat),[Value.int .i64 (IntKind.i64.wrap (fi+CC xs[i])),.slice a6 (out++[IntKind.i64.wrap (fi+CC xs[i])]).length c6,.int .i64 ((i+1:Nat):Int)]=[.int .i64 fi_1,.slice oa out_1.length oc,.int .i64 (i_1:Int)]/\i_1<=m/\out_1.length=1+i_1/\Fs fi_1/\(∀ x∈out_1,Fs x)/\FI w3 w6 out_1 oa oc/\(∀ ls,DU l n ls->out_1=ls.take (i_1+1)/\fi_1=ls.getD i_1 0))/\m-((i+1:Nat):Int).toNat<m-((i:Nat):Int).toNat:=by
    intro w6 a6 c6 h6;refine⟨⟨i+1,_,_,a6,c6,rfl,by omega,by simp [cE];omega,FY _,?_,h6,λ ls aM=>?_⟩,cL⟩
    ·intro x hx;rcases AlY.1 hx with h | h
     ·exact lM x h
     ·rw [AlZ.1 h];exact FY _
    ·obtain⟨_,_,u3,_⟩:=key ls aM;obtain⟨t1,t2⟩:=hT ls aM;have nY:xs=BB ls:=by rw [bN,u3];simp [KR,bW]
     have dS:i+1<ls.length:=by have:=aM.len;omega
     have dF:=Vc nY (Ud dS) dI;have bQ:IntKind.i64.wrap (fi+CC xs[i])=ls[i+1]:=by
      rw [dF,Gp,t2,Fi (by omega)];exact WW (aM.num _ (AlI _)) (aM.num _ (AlI _))
     rw [bQ,t1,AlW dS,Fi dS];exact⟨rfl,rfl⟩
   refine Ao (λ uN=>?_) (λ uN=>?_)
   ·rw [Aej qJ (by omega)];exact (SH.start (λ _=>False) w4).An λ b5 w5 fX B5 S5=>Gd (h4.grown B5) (by omega) (S5.get 0 rfl) λ a6 c6 w6 h6=>⟨_,_,_,rfl,fin h6⟩
   ·rw [Acu qJ (by omega)];exact (SH.start (λ _=>False) w4).An λ b5 w5 fX B5 S5=>Gd (h4.grown B5) (by omega) (S5.get 0 rfl) λ a6 c6 w6 h6=>⟨_,_,_,rfl,fin h6⟩
  ·refine⟨out,oa,oc,rfl,⟨h4.row,λ k hk=>Ali C3.size (h4.new k hk),Ac C3 h4.Ar⟩,lM,by omega,λ ls aM=>?_⟩;rw [(hT ls aM).1,AlA (by have:=aM.len;omega)]
theorem NR(hl:Rd w a (l.map Ag))(hc:l.length<=c)(hs:l.length<=9223372036854775807)(n:Int) :
  Calls Tryz.prog f.Yi #[.slice a l.length c,.int .i64 n] w (AG λ v w'=>GF l n w w' v):=by
 apply R.NN
 delta R.AR R.Cs R.F R.H R.I R.Ly R.O R.Rt R.S R.W R.X R.Zs;try dsimp only [R.Ps]
 refine Aa (λ h=>GF.arg (.refl _ _) (by unfold Cj;omega)) (λ h1=>Aa (λ h=>GF.arg (.refl _ _) (by unfold Cj;omega)) (λ h2=>?_));have aU:Cj n:=⟨by omega,by omega⟩;obtain⟨n,rfl⟩:∃ m:Nat,n=(m:Int):=⟨n.toNat,by omega⟩;have hn:n<=4096:=by omega
 refine Ao (λ h=>GF.bad (.refl _ _) aU λ ms hm=>by have:=hm.2;omega) (λ aQ=>?_);have h0:0<l.length:=by omega
 obtain⟨p,rfl,aE⟩:=DH hl h0;have bh:=(l.getD 0 0).toNat_lt;refine⟨⟨by omega,by omega⟩,_,aE,Aa (λ h=>GF.bad (.refl _ _) aU λ ms hm=>by have:=hm.1.form;omega) (λ hle=>?_)⟩;obtain⟨fm,cV⟩:∃ fm,fm=(l.getD 0 0).toNat:=⟨_,rfl⟩;rw [<- cV] at aE hle;refine⟨λ s w3=>∃(ms:List Int) (a':Option Addr) (c':Nat),s=[.slice a' ms.length c']/\FI w w3 ms a' c'/\(∀ x∈ms,Fs x)/\ms.length<=100000/\∀ ls,DU l n ls->ms=ls,?_,?_⟩
 ·refine⟨⟨by omega,by omega⟩,_,aE,Aa (λ h=>?_) (λ h=>?_)⟩
  ·refine (UH hl hs h0 cV (by omega) hn).mono ?_;rintro _ w1 ⟨_,rfl,ms,a1,c1,rfl,q⟩;exact⟨_,_,_,rfl,ms,a1,c1,rfl,q⟩
  ·refine (Wn hl hc hs h0 cV (by omega) hn).mono ?_;rintro _ w1 ⟨_,rfl,ms,a1,c1,rfl,q⟩;exact⟨_,_,_,rfl,ms,a1,c1,rfl,q⟩
 rintro a3 _ c3 w3 ⟨ms,_,_,aA,h3,mw,qC,aF⟩;cases aA;refine Ah (λ hlen=>GF.bad h3.Ar aU λ ls aM=>?_) (λ hlen=>?_)
 ·rw [Ak4] at aM;have:=aF ls aM.1;have:=aM.1.len
  subst_vars
  omega
 have oX:ms.length<=4096:=by omega
 obtain⟨p',hp',hcell3⟩:=DH (hl.grown h3.Ar) h0;cases hp';rw [<- cV] at hcell3;refine⟨⟨by omega,by omega⟩,_,hcell3,?_⟩;rw [wrap_i64 (by omega) (by omega)];refine (FA (fm:Int) h3.row.rd mw).mono ?_;rintro _ w4 ⟨_,rfl,hE⟩;obtain⟨a4,c4,rfl,h4⟩:=J8.D1 (by omega) oX hE;have C4:=Ac h3.Ar h4.Ar;refine⟨_,_,_,_,rfl,Aw CB (l:=DS fm ms) rfl h4.rd ⟨_,rfl,Aw CB rfl (hl.grown C4) ⟨_,rfl,?_⟩⟩⟩;rw [AZ];refine Au (Aa (λ he=>?_) (λ he=>GF.bad C4 aU λ ls aM=>he ?_))
 ·have jj:DS fm ms=l:=by have:=congrArg bl he;rwa [BP,BP] at this
  refine⟨ms,a3,c3,0,rfl,h3.row.rd.grown h4.Ar,C4,oX,mw,.inr (.inl ⟨aU,?_,h0,?_,rfl⟩)⟩
  ·rw [Ak4];exact⟨by omega,mw,by omega,by rw [<- cV];exact jj.symm⟩
  ·intro ls aM;rw [Ak4] at aM;exact (aF ls aM).symm
 ·rw [Ak4] at aM;have h1:=aF ls aM.1;have h2:=aM.1.enc;rw [<- cV] at h2;rw [h1,<- h2]
end
def CO(bits:List Nat):Nat:=bits.countP λ b=>decide (b=0)
theorem Uk{bits:List Nat}{i:Nat}(hi:i<bits.length):CO (bits.take (i+1))=CO (bits.take i)+if bits[i]=0 then 1 else 0:=by
 unfold CO;rw [AlW hi,List.countP_append];by_cases h:bits[i]=0 <;> simp [h]
theorem Aa1{bits:List Nat}(i:Nat):CO (bits.take i)<=CO bits:=by
 unfold CO;exact (List.take_sublist i bits).countP_le
theorem U8(ls:List AB):CO (A3 ls)=(AQ ls).length:=by
 induction ls with
 | nil=>rfl
 | cons v ls ih =>
  unfold CO A3 AQ at ih ⊢;by_cases h:v.1=0
  ·simp [h] at ih ⊢;exact ih
  ·simp [h] at ih ⊢;omega
def Aav(kind:Int)(bits:List Nat)(l:List UInt8)(w w':World)(v:Value):Prop :=
 ∃(vs:List AB) (a:Option Addr) (c:Nat) (ok:Bool),v=.tuple #[.slice a vs.length c,.bool ok]/\Y1 w w' a (AO vs)/\Below w.heap.size w w'/\vs.length<=4096/\(∀ v∈vs,BN v) /\
  ∀ ls,Bc kind ls->bits=A3 ls->(As ls<ls.length->D7 kind ls l)->(¬ As ls<ls.length->l=[])->ok=true/\vs=ls
theorem Aav.bad{kind:Int}{bits:List Nat}{l:List UInt8}{w w':World}(hb:Below w.heap.size w w')(h:∀ ls,Bc kind ls->bits=A3 ls->(As ls<ls.length->D7 kind ls l)->(¬ As ls<ls.length->l=[])->False):Aav kind bits l w w' (.tuple #[.slice none 0 0,.bool false]) :=
 ⟨[],none,0,false,rfl,Y1.nil _ _,hb,by simp,by simp,λ ls h1 h2 h3 h4=>(h ls h1 h2 h3 h4).elim⟩
section
variable {w:World}{ab a:Option Addr}{cb c:Nat}{bits:List Nat}{l:List UInt8}
theorem Tl(kind:Int)(hb:Rd w ab (bits.map ES))(hl:Rd w a (l.map Ag))(hc:l.length<=c)(hs:l.length<=9223372036854775807)(au:bits.length<=1024){many:Nat}(eD:many=CO bits) :
  Calls Tryz.prog f.YN #[.int .i64 kind,.slice ab bits.length cb,.int .i64 (many:Int),.slice a l.length c] w (AG λ v w'=>Aav kind bits l w w' v):=by
 apply R.NO
 delta R.A R.Ab R.Ad R.AR R.F R.G R.H R.I R.J R.Ks R.Li R.Lt R.Lu R.N R.O R.Ae0 R.S R.Am R.T R.W R.X R.Zb R.AjN;try dsimp only [R.Ps]
 have ki:many<=bits.length:=by rw [eD];exact Amv
 have om:∀ ls,bits=A3 ls->(AQ ls).length=many/\ls.length=bits.length/\(As ls<ls.length↔0<many):=by
  rintro ls rfl;have h1:=U8 ls;have h2:=Sh ls;refine⟨by rw [eD,h1],by simp [A3],by omega⟩
 refine⟨λ s w4=>∃(ns:List Int) (na:Option Addr) (nc:Nat) (ss:List ByteArray) (sa:Option Addr) (sc:Nat) (e:Int),s=[.slice na ns.length nc,.slice sa ss.length sc,.int .i64 e]/\Rd w4 na (ns.map EG)/\Rd w4 sa (ss.map Value.string)/\Below w.heap.size w w4/\(∀ x∈ns,Fs x) /\
   (e=0->(kind=3->ss.length=many)/\(kind≠3->ns.length=many)) /\
   (∀ ls,Bc kind ls->bits=A3 ls->(As ls<ls.length->D7 kind ls l)->(¬ As ls<ls.length->l=[])->e=0/\(kind=3->ss=BA ls)/\(kind≠3->ns=CS ls)),?_,?_⟩
 ·refine⟨λ s w1=>∃ t:Bool,s=[.bool t]/\w1=w/\(t=true↔0<many/\kind=3),?_,?_⟩
  ·refine Aa (λ h=>⟨_,rfl,rfl,by simp;omega⟩) (λ h=>⟨_,rfl,rfl,by simp;omega⟩)
  rintro _ w1 ⟨t,aA,rfl,ht⟩;cases aA;refine Ap (λ h=>?_) (λ h=>?_)
  ·obtain⟨fM,h3⟩:=ht.1 h;refine (Wa hl hc hs (many:Int)).mono ?_;rintro _ w2 ⟨_,rfl,ss,a2,c2,e2,rfl,R2,B2,l2,q2⟩;have aU:Cj (many:Int):=⟨by omega,by omega⟩;rw [Ak4] at q2;refine⟨_,_,_,_,rfl,[],none,0,ss,a2,c2,e2,rfl,Rd.nil _ _,R2,B2,by simp,λ he=>⟨λ _=>?_,λ h=>absurd h3 h⟩,λ ls hg bY ho hz=>?_⟩
   ·rcases q2 with ⟨k1,_⟩ | ⟨_,k2,_,_⟩ | ⟨_,_,_,k4⟩
    ·exact absurd aU k1
    ·exact k2.len
    ·rw [he] at k4;cases k4
   ·obtain⟨g1,g2,g3⟩:=om ls bY;subst h3;obtain⟨d1,d2⟩:=Xg hg (ho (g3.2 fM));have bR:=OR hg rfl;have eR:(BA ls).length=many:=by rw [<- g1,bR,List.length_map]
    rw [eR] at d1;rcases q2 with ⟨k1,_⟩ | ⟨_,k2,k3,_⟩ | ⟨_,k2,_⟩
    ·exact absurd aU k1
    ·exact⟨k3,λ _=>k2.one d1,λ h=>absurd rfl h⟩
    ·exact absurd ⟨d1,d2⟩ (k2 _)
  ·have aP:¬ (0<many/\kind=3):=λ hh=>by rw [ht.2 hh] at h;cases h
   refine Aa (λ hm=>?_) (λ hm=>Aa (λ yF=>Aav.bad (.refl _ _) λ ls hg bY ho hz=>?_) (λ yF=>?_))
   ·have h3:kind≠3:=λ hk=>aP ⟨by omega,hk⟩;refine (NR hl hc hs (many:Int)).mono ?_;rintro _ w2 ⟨_,rfl,ns,a2,c2,e2,rfl,R2,B2,l2,hI,q2⟩;have aU:Cj (many:Int):=⟨by omega,by omega⟩;rw [Ak4] at q2;refine⟨_,_,_,_,rfl,ns,a2,c2,[],none,0,e2,rfl,R2,Rd.nil _ _,B2,hI,λ he=>⟨λ h=>absurd h h3,λ _=>?_⟩,λ ls hg bY ho hz=>?_⟩
    ·rcases q2 with ⟨k1,_⟩ | ⟨_,k2,_,_,_⟩ | ⟨_,_,_,k4⟩
     ·exact absurd aU k1
     ·exact k2.len
     ·rw [he] at k4;cases k4
    ·obtain⟨g1,g2,g3⟩:=om ls bY;obtain⟨d1,d2⟩:=AbA hg h3 (ho (g3.2 (by omega)));have bR:=Ro hg h3;have eR:(CS ls).length=many:=by rw [<- g1,bR,List.length_map]
     rw [eR] at d1;rcases q2 with ⟨k1,_⟩ | ⟨_,_,_,k2,k3⟩ | ⟨_,k2,_⟩
     ·exact absurd aU k1
     ·exact⟨k3,λ h=>absurd h h3,λ _=>(k2 _ d1).symm⟩
     ·exact absurd ⟨d1,d2⟩ (k2 _)
   ·obtain⟨g1,g2,g3⟩:=om ls bY;have:=hz (λ h=>by have:=g3.1 h;omega);subst this;simp at yF
   ·have fM:many=0:=by omega
    refine⟨[],none,0,[],none,0,0,rfl,Rd.nil _ _,Rd.nil _ _,.refl _ _,by simp,λ _=>⟨λ _=>by simp [fM],λ _=>by simp [fM]⟩,λ ls hg bY ho hz=>?_⟩;obtain⟨g1,g2,g3⟩:=om ls bY;have hf:AQ ls=[]:=List.eq_nil_of_length_eq_zero (by omega);exact⟨rfl,λ _=>by simp [BA,hf],λ _=>by simp [CS,hf]⟩
 rintro na _ nc sa _ sc e w4 ⟨ns,_,_,ss,_,_,_,aA,gh,zW,B4,hI,qW,hP⟩;cases aA;refine Ah (λ h=>Aav.bad B4 λ ls h1 h2 h3 h4=>h (hP ls h1 h2 h3 h4).1) (λ he=>?_);obtain⟨len3,lenN'⟩:=qW he;refine⟨λ s w5=>∃(i:Nat) (vs:List AB) (oa:Option Addr) (oc:Nat),s=[.slice oa vs.length oc,.int .i64 (CO (bits.take i):Int),.int .i64 (i:Int)]/\i<=bits.length/\vs.length=i/\(∀ v∈vs,BN v)/\O4 w4 w5 vs oa oc /\
   (∀ ls,Bc kind ls->bits=A3 ls->(As ls<ls.length->D7 kind ls l)->(¬ As ls<ls.length->l=[])->vs=ls.take i),λ s _=>match s with
   | [_,_,.int _ i]=>bits.length-i.toNat
   | _=>0,⟨0,[],none,0,rfl,by omega,rfl,by simp,O4.nil w4,λ _ _ _ _ _=>rfl⟩,?_⟩
 rintro oa _ oc _ _ w5 ⟨i,vs,_,_,aA,hi,gr,gD,h5,hT⟩;cases aA;have zle:=Aa1 (bits:=bits) i;refine Aa (λ aB=>?_) (λ aJ=>?_)
 ·have aD:i<bits.length:=by omega
  refine (SH.start (λ _=>False) w5).Iz λ eh w9 jQ B9 S9=>⟨⟨by omega,aB⟩,?_⟩;obtain⟨p,rfl,aE⟩:=G8 ((hb.grown B4).grown (Ac h5.Ar B9)) aD;have js:=Uk aD;have zle2:=Aa1 (bits:=bits) (i+1);have cL:bits.length-((i+1:Nat):Int).toNat<bits.length-((i:Nat):Int).toNat:=by
   simp only [Ak4];omega
  have sW:CO (bits.take i)<=1024:=by
   have:CO bits<=bits.length:=Amv;omega
  have bit:∀ {ls:List AB} (h:bits=A3 ls) (hl:i<ls.length),bits[i]=if ls[i].1=0 then 1 else 0:=by
   intro ls h hl;subst h;simp [A3]
  rw [Ae (k:=i) (by omega)];have next:∀ {wx:World} {b:Nat} {t:TypeId} {x:AB} {z:Nat},Below w5.heap.size w5 wx->wx.heap[b]?=some (.cells #[.int .i64 x.1,.int .i64 x.2.1,.string x.2.2] t (0,0))->BN x->CO (bits.take (i+1))=z ->
    (∀ ls,Bc kind ls->bits=A3 ls->(As ls<ls.length->D7 kind ls l)->(¬ As ls<ls.length->l=[])->∀ hl:i<ls.length,ls[i]=x) ->
    DE Tryz.prog (Builtin.append_ #[ty.CE,ty.CE] ty.CE #[.slice oa vs.length oc,.slice (some ⟨b,0,none⟩) 1 1]) (λ r aj=>∃(t73:Option Addr) (pE pz:Nat),r=.slice t73 pE pz /\
     (∃(i_1:Nat) (vs:List AB) (oa:Option Addr) (oc:Nat),[Value.slice t73 pE pz,.int .i64 (z:Int),.int .i64 ((i+1:Nat):Int)]=[.slice oa vs.length oc,.int .i64 (CO (bits.take i_1):Int),.int .i64 (i_1:Int)]/\i_1<=bits.length/\vs.length=i_1/\(∀ v∈vs,BN v)/\O4 w4 aj vs oa oc /\
      (∀ ls,Bc kind ls->bits=A3 ls->(As ls<ls.length->D7 kind ls l)->(¬ As ls<ls.length->l=[])->vs=ls.take i_1))/\bits.length-((i+1:Nat):Int).toNat<bits.length-((i:Nat):Int).toNat) wx:=by
   intro wx b t x z Bx xk hx hz hPx;refine Oy (h5.grown Bx) (by omega) xk λ a7 c7 w7 h7=>⟨_,_,_,rfl,⟨i+1,_,a7,c7,by rw [hz],by omega,by simp [gr],?_,h7,λ ls g1 g2 g3 g4=>?_⟩,cL⟩
   ·intro v hv;rcases AlY.1 hv with h | h
    ·exact gD v h
    ·rw [AlZ.1 h];exact hx
   ·have cp:i<ls.length:=by have:=(om ls g2).2.1;omega
    rw [hT ls g1 g2 g3 g4,AlW cp,hPx ls g1 g2 g3 g4 cp]
  refine⟨_,by rw [Ak4];exact aE,Ao (λ hz=>?_) (λ jN=>?_)⟩
  ·have dn:bits[i]=0:=by omega
   rw [if_pos dn] at js;rw [Ae (by omega)];have hzlt:CO (bits.take i)<many:=by omega
   have at_of:∀ {ls:List AB},bits=A3 ls->∀ hl:i<ls.length,(AQ ls)[CO (bits.take i)]?=some ls[i]:=by
    intro ls g2 hl;have cJ:=bit g2 hl;have jN:¬ ls[i].1=0:=λ h=>by rw [if_pos h] at cJ;omega
    have bR:=CT hl;rw [if_neg jN] at bR;have cZ:AQ (ls.take (i+1)) <+: AQ ls:=by
     unfold AQ;exact (List.take_prefix (i+1) ls).filter _
    rw [bR] at cZ;obtain⟨r,hr⟩:=cZ;have e1:CO (bits.take i)=(AQ (ls.take i)).length:=by
     rw [<- U8];congr 1;rw [g2];unfold A3;rw [Alw]
    rw [e1,<- hr,Ak2];simp
   refine S9.IX 0 rfl (aC:=#[.int .i64 kind,.int .i64 0,.string ⟨#[]⟩]) (show 0<3 by decide) rfl λ bZ xY k6=>?_;have cA:Below w5.heap.size w5 bZ:=k6.below;refine Ao (λ h3=>⟨⟨by omega,by have:=len3 h3;omega⟩,?_⟩) (λ h3=>⟨⟨by omega,by have:=lenN' h3;omega⟩,?_⟩)
   ·have bD:CO (bits.take i)<ss.length:=by have:=len3 h3;omega
    obtain⟨ps,rfl,al⟩:=E7 (zW.grown (Ac h5.Ar cA)) bD;refine⟨_,by rw [Ak4];exact al,k6.IX 0 rfl (aC:=#[.int .i64 kind,.int .i64 0,.string ss[CO (bits.take i)]]) (show 2<3 by decide) rfl λ aX eO bF=>?_⟩;refine⟨_,bF.cell 0 rfl rfl,_,bF.cell 0 rfl rfl,_,bF.cell 0 rfl rfl,bF.An λ xl bJ kY ig ll=>next (x:=(kind,0,ss[CO (bits.take i)])) ll.below (ll.get 0 rfl) ⟨by simp,by simp⟩ js λ ls g1 g2 g3 g4 cp=>?_⟩;have v':=(hP ls g1 g2 g3 g4).2.1 h3;have hf:=at_of g2 cp;rw [OR g1 h3,<- v',List.getElem?_map,AlV bD] at hf;exact (Al8 hf).symm
   ·have bn:CO (bits.take i)<ns.length:=by have:=lenN' h3;omega
    obtain⟨pn,rfl,lJ⟩:=Dm (gh.grown (Ac h5.Ar cA)) bn;have yN:=hI _ (AlI bn);refine⟨_,by rw [Ak4];exact lJ,k6.IX 0 rfl (aC:=#[.int .i64 kind,.int .i64 ns[CO (bits.take i)],.string ⟨#[]⟩]) (show 1<3 by decide) rfl λ aX eO bF=>?_⟩;refine⟨_,bF.cell 0 rfl rfl,_,bF.cell 0 rfl rfl,_,bF.cell 0 rfl rfl,bF.An λ xl bJ kY ig ll=>next (x:=(kind,ns[CO (bits.take i)],E0)) ll.below (ll.get 0 rfl) ⟨yN.1,yN.2⟩ js λ ls g1 g2 g3 g4 cp=>?_⟩;have v':=(hP ls g1 g2 g3 g4).2.2 h3;have hf:=at_of g2 cp;rw [Ro g1 h3,<- v',List.getElem?_map,AlV bn] at hf;exact (Al8 hf).symm
  ·have dn:¬ bits[i]=0:=by omega
   rw [if_neg dn,Nat.add_zero] at js;refine⟨_,S9.cell 0 rfl rfl,_,S9.cell 0 rfl rfl,_,S9.cell 0 rfl rfl,S9.An λ xl bJ kY ig ll=>next (x:=(0,0,E0)) ll.below (ll.get 0 rfl) ⟨by simp,by simp⟩ js λ ls g1 g2 g3 g4 cp=>?_⟩;have cJ:=bit g2 cp;have nw:ls[i].1=0:=by
    by_cases h:ls[i].1=0
    ·exact h
    ·rw [if_neg h] at cJ;exact absurd cJ dn
   exact g1.null _ (AlI cp) nw
 ·refine⟨vs,oa,oc,true,rfl,⟨h5.row.rd,λ k hk=>Ali B4.size (h5.new k hk)⟩,Ac B4 h5.Ar,by omega,gD,λ ls g1 g2 g3 g4=>⟨rfl,?_⟩⟩;have:=(om ls g2).2.1;rw [hT ls g1 g2 g3 g4,AlA (by omega)]
end
section
variable {w:World}{a:Option Addr}{c:Nat}{l:List UInt8}
theorem Tk(hl:Rd w a (l.map Ag))(hc:l.length<=c)(hs:l.length<=9223372036854775807) :
  Calls Tryz.prog f.Yo #[.slice a l.length c] w (AG λ v w'=>R0 l w w' v):=by
 apply R.Of
 delta R.Ad R.AbO R.AR R.Bz R.F R.G R.H R.I R.Lu R.Ly R.O R.MJ R.Rs R.Rt R.S R.Am R.U R.W R.X R.Y R.Z R.Zb R.Zis;try dsimp only [R.Ps]
 refine Aa (λ h=>R0.bad (.refl _ _) λ K ls hg hC=>by have:=(hC.read hg).2.1;omega) (λ aJ=>?_);have h0:0<l.length:=by omega
 obtain⟨li,jG⟩:∃ li,li=l.take (l.length-4):=⟨_,rfl⟩;have aB:li.length=l.length-4:=by rw [jG,AlX];omega
 have rC:∀ K ls,Bc K ls->Ld K ls l->E2 K ls li:=λ K ls hg hC=>by rw [jG];exact (hC.read hg).1
 have eH:l.getD 0 0=li.getD 0 0:=by
  rw [jG];have:0<l.length-4:=by omega
  simp only [List.getD,List.getElem?_take,if_pos this]
 have bD:=hl.OV 0 (l.length-4) c 1 (by omega);rw [Ak7,Amu,Ak7,List.drop_zero,<- Alw,<- jG] at bD;obtain⟨p,rfl,aE⟩:=DH hl h0;have bh:=(l.getD 0 0).toNat_lt;rw [wrap_i64 (n:=(l.length:Int)-4) (by omega) (by omega),show ((l.length:Int)-4).toNat=li.length by omega,Amu,Amu];refine⟨⟨by omega,by omega⟩,_,aE,⟨by omega,by omega,by omega⟩,?_⟩;obtain⟨ai,hai⟩:∃ ai,ai=Ck (some p) 0 c 1:=⟨_,rfl⟩;rw [<- hai] at bD ⊢;have ue:li.length<=c:=by omega
 have qY:li.length<=9223372036854775807:=by omega
 refine (AJ bD qY 1 (by decide)).mono ?_;rintro _ w ⟨_,rfl,rfl,rfl⟩;obtain⟨n,aL,e1,hv1,cJ,cO⟩:∃(n aL:Nat) (e1:Int),LX (takeN li 1)=.tuple #[.int .u64 (n:Int),.int .i64 (aL:Int),.int .i64 e1]/\(n<18446744073709551616/\aL<=li.length)/\(∀ K ls,E2 K ls li->e1=0/\n=ls.length/\takeN li 1=some (n,aL)):=by
  cases hx:takeN li 1 with
  | none =>
   refine⟨0,0,20,rfl,by omega,λ K ls hp=>?_⟩;obtain⟨_,_,_,q⟩:=hp.q;have:=q.n1;rw [hx] at this;cases this
  | some x =>
   have hb:=Az (n:=x.1) (k:=x.2) hx;refine⟨x.1,x.2,0,rfl,by omega,λ K ls hp=>?_⟩;obtain⟨_,_,_,q⟩:=hp.q;have:=q.n1;rw [hx] at this;have:=Al8 this;exact⟨rfl,by rw [this],rfl⟩
 rw [hv1];refine⟨_,_,_,rfl,(AJ bD qY (aL:Int) (by omega)).mono ?_⟩;rintro _ w ⟨_,rfl,rfl,rfl⟩;obtain⟨no,aZ,e2,gn,dC,hP2⟩:∃(no aZ:Nat) (e2:Int),LX (takeN li (aL:Int))=.tuple #[.int .u64 (no:Int),.int .i64 (aZ:Int),.int .i64 e2]/\(no<18446744073709551616/\aZ<=li.length)/\(∀ K ls,E2 K ls li->e2=0/\no=As ls/\∃ o,Nr K ls li aL aZ o):=by
  have step:∀ K ls,E2 K ls li->∃ aZ o,Nr K ls li aL aZ o:=by
   intro K ls hp;obtain⟨a1,a2,o,q⟩:=hp.q;have h1:=(cO K ls hp).2.2;have h2:=q.n1;rw [h1] at h2;obtain rfl:aL=a1:=by have:=Al8 h2;simpa using congrArg Prod.snd this
   exact⟨a2,o,q⟩
  cases hx:takeN li (aL:Int) with
  | none =>
   refine⟨0,0,20,rfl,by omega,λ K ls hp=>?_⟩;obtain⟨_,_,q⟩:=step K ls hp;have:=q.n2;rw [hx] at this;cases this
  | some x =>
   have hb:=Az (n:=x.1) (k:=x.2) hx;refine⟨x.1,x.2,0,rfl,by omega,λ K ls hp=>?_⟩;obtain⟨a2,o,q⟩:=step K ls hp;have:=q.n2;rw [hx] at this;have qP:=Al8 this;obtain rfl:x.2=a2:=by rw [qP]
   exact⟨rfl,by rw [qP],o,q⟩
 rw [gn,wrap_i64 (n:=((l.getD 0 0).toNat:Int)) (by omega) (by omega)];obtain⟨kd,ri⟩:∃ kd,kd=((l.getD 0 0).toNat:Int):=⟨_,rfl⟩;rw [<- ri];have bK:∀ {wx:World},Below w.heap.size w wx->(∀ K ls,¬ E2 K ls li)->R0 l w wx (.tuple #[.int .i64 0,.slice none 0 0,.int .i64 80]):=λ B h=>R0.bad B λ K ls hg hC=>h K ls (rC K ls hg hC);have eE:∀ K ls,E2 K ls li->kd=K:=λ K ls hp=>by
  obtain⟨_,_,_,q⟩:=hp.q;rw [ri,eH];exact q.kind
 refine⟨_,_,_,rfl,Ah (λ h=>bK (.refl _ _) λ K ls hp=>h (cO K ls hp).1) (λ vi=>Ah (λ h=>bK (.refl _ _) λ K ls hp=>h (hP2 K ls hp).1) (λ ml=>Aa (λ h=>bK (.refl _ _) λ K ls hp=>?_) (λ eN=>Aa (λ h=>bK (.refl _ _) λ K ls hp=>?_) (λ gi =>
  Aa (λ h=>bK (.refl _ _) λ K ls hp=>?_) (λ cm=>Aa (λ h=>bK (.refl _ _) λ K ls hp=>?_) (λ ax=>?_))))))⟩
 ·have:=(cO K ls hp).2.1;have:=hp.D1.len;omega
 ·have:=(cO K ls hp).2.1;have:=(hP2 K ls hp).2.1;have:=Dc ls;omega
 ·have:=eE K ls hp;have:=hp.D1.kind;omega
 ·have:=eE K ls hp;have:=hp.D1.kind;omega
 have hn:n<=1024:=by omega
 have aP:no<=n:=by omega
 refine Ea tU (l:=(n:Int)) (c:=(n:Int)) (by omega) (by omega) (by omega) (by omega) λ bo w3 fN B3 gm=>?_;rw [Ak4] at gm ⊢;have ie:w3.heap[bo]?=some (.cells ⟨AkZ n (.int .u64 0)⟩ ty.uint64 (0,0)):=by
  have e:madeCells (Value.int .u64 0).cells (n*1)=⟨AkZ n (.int .u64 0)⟩:=by
   apply Array.ext';rw [Ej _ rfl,Ak7]
  rw [<- e];exact gm
 have rep:∀(k:Nat) (x:Nat),(AkZ k x).map ES=AkZ k (.int .u64 (x:Int)):=λ k x=>by rw [List.map_replicate];rfl
 refine⟨_,_,_,rfl,λ s w6=>∃(bH:Nat) (bits:List Nat) (ab:Option Addr) (cb:Nat),s=[.int .i64 (bH:Int),.slice ab bits.length cb]/\Rd w6 ab (bits.map ES)/\Below w.heap.size w w6/\bits.length<=1024/\bH<=li.length /\
   (no=n->ab=some ⟨bo,0,none⟩/\bits=AkZ n 0/\w6.heap[bo]?=some (.cells ⟨AkZ n (.int .u64 0)⟩ ty.uint64 (0,0))) /\
   (∀ K ls,E2 K ls li->(no≠n->bits=A3 ls)/\∃ o,Nr K ls li aL aZ o/\li.drop bH=o),?_,?_⟩
 ·refine⟨λ s w4=>∃ t:Bool,s=[.bool t]/\w4=w3/\(t=true↔0<no/\no<n),?_,?_⟩
  ·refine Aa (λ h=>⟨_,rfl,rfl,by simp;omega⟩) (λ h=>⟨_,rfl,rfl,by simp;omega⟩)
  rintro _ w4 ⟨t,aA,rfl,ht⟩;cases aA;refine Ap (λ h=>?_) (λ h=>?_)
  ·obtain⟨hm1,od⟩:=ht.1 h;obtain⟨sz,aw⟩:∃ sz,sz=Dv n 1:=⟨_,rfl⟩;have tF:sz=(n+7) / 8:=by rw [aw];unfold Dv;rw [Ak7]
   have vQ:IntKind.i64.wrap (AlJ (IntKind.i64.wrap (IntKind.i64.wrap (n:Int)+7)) 8)=(sz:Int):=by
    rw [wrap_i64 (n:=(n:Int)) (by omega) (by omega),wrap_i64 (n:=(n:Int)+7) (by omega) (by omega),AlF (by omega),wrap_i64 (by omega) (by omega)];omega
   rw [vQ,wrap_i64 (n:=(li.length:Int)-(aZ:Int)) (by omega) (by omega),wrap_i64 (n:=(n:Int)) (by omega) (by omega)];have dY:∀ K ls,E2 K ls li->∃ o,Nr K ls li aL aZ o/\li.drop aZ=A5 (A3 ls) 1++o/\(A5 (A3 ls) 1).length=sz:=by
    intro K ls hp;obtain⟨_,gF,o,q⟩:=hP2 K ls hp;have cg:=(cO K ls hp).2.1;refine⟨o,q,?_,?_⟩
    ·rw [q.rest];unfold DM;rw [if_pos (by omega)]
    ·rw [BS,aw,cg];simp [A3]
   refine Aa (λ h=>bK B3 λ K ls hp=>?_) (λ aJ=>?_)
   ·obtain⟨o,_,e,e2⟩:=dY K ls hp;have:=congrArg List.length e;rw [Alu,Ak1] at this;omega
   rw [wrap_i64 (n:=(aZ:Int)+(sz:Int)) (by omega) (by omega)];refine⟨⟨by omega,by omega,by omega⟩,?_⟩;rw [Ak4,show ((aZ:Int)+(sz:Int)).toNat=aZ+sz by omega,Nat.add_sub_cancel_left];have kv:=(bD.grown B3).OV aZ (aZ+sz) c 1 (by omega);rw [Ak7,Ak7,Nat.add_sub_cancel_left,<- List.map_drop,<- Alw] at kv;have nv:((li.drop aZ).take sz).length=sz:=by rw [AlX,Alu];omega
   have hU:=Gu (c:=c-aZ) kv (n:Int) 1 (by omega);rw [nv] at hU;refine hU.mono ?_;rintro _ w7 ⟨_,rfl,xs,xa,xc,e,rfl,gd,B7,ng,aG⟩;have C7:=Ac B3 B7;rw [Ak4,show (1:Int).toNat=1 from rfl] at aG;have D1:∀ K ls,E2 K ls li->∃ o,Nr K ls li aL aZ o/\li.drop (aZ+sz)=o/\GQ (n:Int) 1/\RJ ((li.drop aZ).take sz) n 1/\BI ((li.drop aZ).take sz) n 1=A3 ls:=by
    intro K ls hp;obtain⟨o,q,e3,e4⟩:=dY K ls hp;have cg:=(cO K ls hp).2.1;have au:(A3 ls).length=n:=by rw [cg];simp [A3]
    have dA:(li.drop aZ).take sz=A5 (A3 ls) 1:=by rw [e3,<- e4,List.take_left]
    have fp:=Iu (T1 ls);rw [au] at fp;rw [dA];exact⟨o,q,by rw [<- e4,<- List.drop_drop,e3,List.drop_left],⟨by omega,by omega,by omega,by omega⟩,⟨by rw [BS,au],by rw [fp]⟩,fp⟩
   rcases aG with ⟨_,_,bN,rfl⟩ | ⟨hno2,rfl,he⟩
   ·have ct:xs.length=n:=by rw [bN,Ce]
    refine⟨_,_,_,_,rfl,Ah (λ h=>absurd rfl h) (λ _=>⟨aZ+sz,xs,xa,xc,by simp,gd,C7,by omega,by omega,λ h=>absurd h (by omega),λ K ls hp=>?_⟩)⟩;obtain⟨o,q,g1,_,_,g4⟩:=D1 K ls hp;exact⟨λ _=>by rw [bN,g4],o,q,g1⟩
   ·refine⟨_,_,_,_,rfl,Ah (λ _=>bK C7 λ K ls hp=>?_) (λ h=>by rw [he] at h;split at h <;> cases h)⟩;obtain⟨o,_,_,g2,g3,_⟩:=D1 K ls hp;exact hno2 ⟨g2,g3⟩
  ·have bV:¬ (0<no/\no<n):=λ hh=>by rw [ht.2 hh] at h;cases h
   refine⟨aZ,AkZ n 0,some ⟨bo,0,none⟩,n,by rw [List.length_replicate],?_,B3,by simp;omega,dC.2,λ _=>⟨rfl,rfl,ie⟩,λ K ls hp=>?_⟩
   ·have:=Rd.Ak ie;rw [rep];exact this
   ·obtain⟨_,gF,o,q⟩:=hP2 K ls hp;have cg:=(cO K ls hp).2.1;refine⟨λ aQ=>?_,o,q,?_⟩
    ·rw [XB (by omega),cg]
    ·rw [q.rest];unfold DM;rw [if_neg (by omega)];rfl
 rintro _ ab _ cb w6 ⟨bH,bits,_,_,aA,qw,B6,au,tC,fO,oG⟩;cases aA;obtain⟨fin,cy⟩:∃ fin:List Nat,fin=(if no=n then AkZ n 1 else bits):=⟨_,rfl⟩;have cj:fin.length=bits.length:=by
  rw [cy];split
  ·rename_i h;rw [(fO h).2.1];simp
  ·rfl
 have hPf:∀ K ls,E2 K ls li->fin=A3 ls:=by
  intro K ls hp;rw [cy];split
  ·rename_i h;have cg:=(cO K ls hp).2.1;have gF:=(hP2 K ls hp).2.1;rw [Aax (by omega),cg]
  ·rename_i h;exact (oG K ls hp).1 h
 refine⟨λ s w7=>∃ i:Nat,i<=bits.length/\s=[.int .i64 (CO (fin.take i):Int),.int .i64 (i:Int)]/\Below w.heap.size w w7/\((no=n/\Ai (λ k=>k=bo) w6 w7/\w7.heap[bo]?=some (.cells ⟨AkZ i (.int .u64 1)++AkZ (n-i) (.int .u64 0)⟩ ty.uint64 (0,0)))\/(no≠n/\w7=w6)),λ s _=>match s with
   | [_,.int _ i]=>bits.length-i.toNat
   | _=>0,⟨0,by omega,rfl,B6,?_⟩,?_⟩
 ·by_cases h:no=n
  ·exact .inl ⟨h,.refl _ _,by simpa using (fO h).2.2⟩
  ·exact .inr ⟨h,rfl⟩
 rintro _ _ w7 ⟨i,hi,aA,B7,aG⟩;cases aA;have sW:CO (fin.take i)<=1024:=by
  have h1:CO (fin.take i)<=(fin.take i).length:=Amv;rw [AlX] at h1;omega
 refine Aa (λ aB=>?_) (λ aJ=>?_)
 ·have aD:i<bits.length:=by omega
  have wJ:i<fin.length:=by omega
  have mj:no=n->bits.length=n:=λ h=>by rw [(fO h).2.1];simp
  refine⟨λ s w9=>s=[]/\Below w.heap.size w w9/\(∃ p,ab=some p/\w9.cell? (p.add (i*1))=some (.int .u64 (fin[i]:Int)))/\((no=n/\Ai (λ k=>k=bo) w6 w9/\w9.heap[bo]?=some (.cells ⟨AkZ (i+1) (.int .u64 1)++AkZ (n-(i+1)) (.int .u64 0)⟩ ty.uint64 (0,0)))\/(no≠n/\w9=w6)),?_,?_⟩
  ·refine Ao (λ heq=>⟨⟨by omega,aB⟩,?_⟩) (λ sS=>?_)
   ·have jR:no=n:=by omega
    rcases aG with ⟨_,K7,gg⟩ | ⟨h,_⟩
    ·obtain⟨rfl,bY,_⟩:=fO jR;have hbn:=mj jR;rw [Ak4];unfold Av;simp only;refine Uy gg (p:=(⟨bo,0,none⟩:Addr).add (i*1)) (i:=i) (by rw [Ax];simp) (by show i<(_++_:List Value).length;simp;omega) λ w8 K8 kL=>?_;have e:(⟨AkZ i (.int .u64 1)++AkZ (n-i) (.int .u64 0)⟩:Array Value).setIfInBounds i (.int .u64 1)=⟨AkZ (i+1) (.int .u64 1)++AkZ (n-(i+1)) (.int .u64 0)⟩:=by
      apply Array.ext';simp only [Array.toList_setIfInBounds];rw [List.set_append_right _ _ (by simp),List.length_replicate,Nat.sub_self,show n-i=(n-(i+1))+1 by omega,List.replicate_succ (n:=n-(i+1)),List.set_cons_zero,List.replicate_succ' (n:=i),Ak2];rfl
     rw [e] at kL;have K68:=K7.trans K8 (λ _ _ h=>h);refine⟨trivial,B7.trans (K8.below B7.size λ k hk he=>by omega),⟨_,rfl,?_⟩,.inl ⟨jR,K68,kL⟩⟩;have kh:fin[i]=1:=by
      have:fin[i]?=some 1:=by rw [cy,if_pos jR,List.getElem?_replicate,if_pos (by omega)]
      rw [AlV wJ] at this;exact Al8 this
     rw [kh];obtain⟨q,hq,hcq⟩:=Rd.Ak kL i (.int .u64 1) (by
      show (AkZ (i+1) (Value.int .u64 1)++AkZ (n-(i+1)) (.int .u64 0))[i]?=_;rw [List.getElem?_append_left (by simp),List.getElem?_replicate,if_pos (by omega)])
     cases hq;rw [Ak7];exact hcq
    ·exact absurd jR h
   ·have aQ:no≠n:=λ h=>sS (by omega);rcases aG with ⟨h,_⟩ | ⟨_,rfl⟩
    ·exact absurd h aQ
    ·refine⟨rfl,B7,?_,.inr ⟨aQ,rfl⟩⟩;obtain⟨p,hp,cG⟩:=G8 qw aD;refine⟨p,hp,?_⟩;have jm:fin=bits:=by rw [cy,if_neg aQ]
     have:fin[i]=bits[i]:=Vc jm (AlV aD) wJ;rw [this];exact cG
  rintro w9 ⟨_,B9,⟨pb,rfl,hcb⟩,jT⟩;refine⟨⟨by omega,aB⟩,_,by rw [Ak4];exact hcb,?_⟩;have js:=Uk wJ;have cL:bits.length-((i+1:Nat):Int).toNat<bits.length-((i:Nat):Int).toNat:=by
   simp only [Ak4];omega
  rw [Ae (by omega),Ae (by omega)];refine Ao (λ hz=>?_) (λ hz=>?_)
  ·rw [if_pos (by omega)] at js;exact⟨⟨i+1,by omega,by rw [js],B9,jT⟩,cL⟩
  ·rw [if_neg (by omega)] at js;exact⟨⟨i+1,by omega,by rw [js];rfl,B9,jT⟩,cL⟩
 have zi:i=bits.length:=by omega
 have dA:fin.take i=fin:=AlA (by omega);rw [dA];have hRf:Rd w7 ab (fin.map ES):=by
  rcases aG with ⟨heq,K7,gg⟩ | ⟨aQ,rfl⟩
  ·obtain⟨rfl,bY,_⟩:=fO heq;have cD:i=n:=by rw [zi,bY];simp
   rw [cD,Nat.sub_self,List.replicate_zero,List.append_nil] at gg;have:=Rd.Ak gg;rw [cy,if_pos heq,rep];exact this
  ·rw [cy,if_neg aQ];exact qw
 refine⟨⟨by omega,by omega,by omega⟩,?_⟩;rw [Ak4,<- Alu (i:=bH) (l:=li)];have iD:=J3 (q:=bH) (bD.grown B7) ue;have hF:=Tl (cb:=cb) kd hRf iD (by rw [Alu];omega:(li.drop bH).length<=c-bH) (by rw [Alu];omega) (by omega) rfl;rw [cj] at hF;refine hF.mono ?_;rintro _ bZ ⟨_,rfl,vs,xS,xW,ok,rfl,rA,cA,gr,gD,hD⟩;have mT:=Ac B7 cA;have fe:∀ K ls,E2 K ls li->ok=true/\vs=ls:=by
  intro K ls hp;obtain⟨_,o,q,ho⟩:=oG K ls hp;have hk:=eE K ls hp;refine hD ls (by rw [hk];exact hp.D1) (hPf K ls hp) (λ h=>?_) (λ h=>?_)
  ·rw [hk,ho];exact q.oth h
  ·rw [ho];exact q.none h
 refine⟨_,_,_,_,rfl,Au (Ap (λ aK=>?_) (λ aK=>bK mT λ K ls hp=>?_))⟩
 case refine_2 =>
  have:=(fe K ls hp).1;rw [this] at aK;cases aK
 refine (J9 kd rA.rd (by omega) gD).mono ?_;rintro _ aX ⟨_,rfl,ql⟩;obtain⟨iR,r8,qu,e11,rfl,uW,cF,q11⟩:=ql.open;have jJ:=Ac mT cF;refine⟨_,_,_,_,rfl,?_⟩;rcases q11 with ⟨hr,hI,rfl⟩ | ⟨hr,rfl,rfl⟩
 ·refine Ah (λ h=>absurd rfl h) (λ _=>Aw CB rfl uW ⟨_,rfl,Aw CB rfl (hl.grown jJ) ⟨_,rfl,?_⟩⟩);rw [AZ];refine Au (Aa (λ he=>?_) (λ he=>R0.bad jJ λ K' bz hg hC=>?_))
  ·have jj:iR=l:=by have:=congrArg bl he;rwa [BP,BP] at this
   subst jj;refine⟨kd,vs,xS,xW,0,rfl,(rA.before B7).grown cF,jJ,gr,.inl ⟨⟨hr,gD⟩,hI,rfl,λ K' bz hg hC=>?_⟩⟩;have hp:=rC K' bz hg hC;exact⟨(eE K' bz hp).symm,((fe K' bz hp).2).symm⟩
  ·have hp:=rC K' bz hg hC;obtain rfl:=eE K' bz hp;obtain rfl:=(fe _ bz hp).2;exact he (by rw [hI.one hC])
 ·refine Ah (λ _=>R0.bad jJ λ K' bz hg hC=>?_) (λ h=>absurd h (by decide));have hp:=rC K' bz hg hC;obtain rfl:=eE K' bz hp;obtain rfl:=(fe _ bz hp).2;rw [hg.right] at hr;cases hr
end
abbrev BG:=Option Addr × Nat × List AB
def Cz(p:BG):Value:=.slice p.1 p.2.2.length p.2.1
abbrev rws(ps:List BG):List (List AB):=ps.map (·.2.2)
structure Bb(w:World)(a:Option Addr)(ps:List BG):Prop where
 top:Rd w a (ps.map Cz)
 each:∀ p∈ps,Rd w p.1 (AO p.2.2)
theorem Bb.grown{w w':World}{a:Option Addr}{ps:List BG}(h:Bb w a ps)(B:Below w.heap.size w w'):Bb w' a ps:=⟨h.top.grown B,λ p hp=>(h.each p hp).grown B⟩
theorem Bb.at{w:World}{a:Option Addr}{ps:List BG}(h:Bb w a ps){i:Nat}(hi:i<ps.length):∃ q,a=some q/\w.cell? (q.add (i*1))=some (.slice ps[i].1 ps[i].2.2.length ps[i].2.1)/\Rd w ps[i].1 (AO ps[i].2.2):=by
 obtain⟨q,hq,hc⟩:=h.top i (Cz ps[i]) (by simp [hi]);exact⟨q,hq,by rw [Ak7];exact hc,h.each _ (AlI hi)⟩
def Bs(rows:List (List AB))(c:Nat):List AB:=rows.map λ r=>r.getD c Z0
theorem Gl(rows:List (List AB))(c:Nat):(Bs rows c).length=rows.length:=by simp [Bs]
theorem UE(ps:List BG){c i:Nat}(hi:i<ps.length)(hc:c<ps[i].2.2.length):Bs (rws (ps.take (i+1))) c=Bs (rws (ps.take i)) c++[ps[i].2.2[c]]:=by
 unfold Bs rws;rw [AlW hi,List.map_append,List.map_append];simp only [List.map_cons,List.map_nil,List.getD,AlV hc,Option.getD_some]
def Lk(a:Option Addr)(c:Nat)(vs:List AB):It:=It.row ty.AW 3 a vs.length c (AO vs)
section
variable {w0 w:World}{H:List It}{a:Option Addr}{c:Nat}{vs:List AB}
theorem AfS(S:ST w0 w H)(n:Nat)(hn:H[n]?=some (Lk a c vs)):Rd w a (AO vs):=S.rd n hn
theorem YJ(S:ST w0 w H)(n:Nat){t:TypeId}(ht:MN Tryz.prog t=some (ty.AW,3,32,.agg #[.int .i64 0,.int .i64 0,.string ⟨#[]⟩]))(hn:H[n]?=some (Lk a c vs)){x:AB}{b:Nat}(hs:Rd w (some ⟨b,0,none⟩) (HE x))(hl:vs.length+1<=1000000){f:Value->World->Prop}
  (hf:∀ a' c' w',ST w0 w' (H.set n (Lk a' c' (vs++[x])))->f (.slice a' (vs++[x]).length c') w') :
  DE Tryz.prog (Builtin.append_ #[t,t] t #[.slice a vs.length c,.slice (some ⟨b,0,none⟩) 1 1]) f w:=by
 refine S.app n hn ht rfl (by omega) (by omega) hs (mm:=1) rfl (by simp [HE];exact⟨rfl,rfl,rfl⟩) (by omega) λ a' c' w' S'=>?_;have e1:(vs++[x]).length=vs.length+1:=by simp
 have e2:AO vs++HE x=AO (vs++[x]):=by simp [AO]
 rw [e2] at S';have:=hf a' c' w' (by unfold Lk;rw [e1];exact S');rwa [e1] at this
end
section
variable {w:World}{a:Option Addr}{c:Nat}{ps:List BG}
theorem Tw(hr:Bb w a ps)(hn:ps.length<=900000){k:Nat}(hk:∀ p∈ps,k<p.2.2.length) :
  Calls Tryz.prog f.YI #[.slice a ps.length c,.int .i64 (k:Int)] w (AG λ v w'=>∃ a' c',v=.slice a' (Bs (rws ps) k).length c'/\ST w w' [Lk a' c' (Bs (rws ps) k)]):=by
 apply R.OS
 delta R.Ad R.F R.I R.J R.Ks R.Li R.Ls R.Lt R.N R.O R.ER R.S R.T R.W R.X;try dsimp only [R.Ps]
 refine⟨λ s w1=>∃(i:Nat) (oa:Option Addr) (oc:Nat) (os:List AB),s=[.slice oa os.length oc,.int .i64 (i:Int)]/\i<=ps.length/\os=Bs (rws (ps.take i)) k/\ST w w1 [Lk oa oc os],λ s _=>match s with
   | [_,.int _ i]=>ps.length-i.toNat
   | _=>0,⟨0,none,0,[],rfl,by omega,rfl,(ST.start w).nil _ _⟩,?_⟩
 rintro oa _ oc _ w1 ⟨i,_,_,os,aA,hi,ho,S⟩;cases aA;have cE:os.length=i:=by rw [ho,Gl];simp;omega
 refine Aa (λ aB=>⟨⟨by omega,aB⟩,?_⟩) (λ aJ=>?_)
 ·have aD:i<ps.length:=by omega
  have aO:=hk _ (AlI aD);obtain⟨q,rfl,hq,hv⟩:=(hr.grown S.Ar).at aD;obtain⟨p,hp,c0,c1,c2⟩:=De hv aO;refine⟨_,_,_,by rw [Ak4];exact hq,⟨by omega,by omega⟩,?_⟩;rw [hp];refine⟨_,by rw [Ak4];exact c0,_,by rw [Ak4];exact c1,_,by rw [Ak4];exact c2,S.An λ df w2 _ _ S=>?_⟩;have aW:Rd w2 (some ⟨df,0,none⟩) (HE ps[i].2.2[k]):=S.Gw 0 rfl;refine YJ S 1 Ad0 rfl aW (by omega) λ a3 c3 w3 S=>⟨_,_,_,rfl,?_⟩;rw [Ae (by omega)];refine⟨⟨i+1,a3,c3,_,rfl,by omega,by rw [UE ps aD aO,ho],S.drop 1⟩,?_⟩;show ps.length-((i+1:Nat):Int).toNat<ps.length-((i:Nat):Int).toNat;simp only [Ak4];omega
 ·rw [AlA (by omega)] at ho;subst ho;exact⟨oa,oc,rfl,S⟩
theorem Lr{a2:Option Addr}{c2 n:Nat}:Calls Tryz.prog f.PH #[.slice a2 n c2,.slice a ps.length c] w (AG λ v w'=>∃ b1 b2,v=.func (.func f.GK) #[] #[.pointer (some ⟨b1,0,none⟩),.pointer (some ⟨b2,0,none⟩)] /\
  ST w w' [It.cells b2 #[.slice a ps.length c] ty.Cd,It.cells b1 #[.slice a2 n c2] ty.AX]):=by
 apply R.I4
 delta R.J R.N R.P R.S;try dsimp only [R.Ps]
 exact (ST.start w).An λ b1 w1 _ _ S1=>S1.An λ b2 w2 _ _ S2=>⟨b1,b2,rfl,S2⟩
theorem TI{L b1 b2 n c2:Nat}{a2:Option Addr}(hn:n<=9223372036854775807)(hm:ps.length<=900000)(hk:∀ p∈ps,p.2.2.length=n)(J:Nat->World->Prop)(cr:∀ k w,J k w->Bb w a ps/\w.cell? ⟨b2,0,none⟩=some (.slice a ps.length c))
  (bp:∀ k w w',J k w->Below w.heap.size w w'->J k w') (ae:∀ k w la lc,k<n->J k w->Rd w la (AO (Bs (rws ps) k))->PQ Tryz.prog L #[.int .i64 (k:Int),.slice la ps.length lc] (λ y w'=>y=true/\J (k+1) w') w)
  (h0:J 0 w) (hb:w.cell? ⟨b1,0,none⟩=some (.slice a2 n c2)) :
  Calls Tryz.prog f.GK #[.func (.yield L) #[] #[],.pointer (some ⟨b1,0,none⟩),.pointer (some ⟨b2,0,none⟩)] w (AG λ _ w'=>J n w'):=by
 apply R.HX
 delta R.A R.Ad R.F R.H R.I R.J R.Ks R.Li R.Ls R.Lt R.N R.O R.Qi R.ER R.S R.T R.W R.X;try dsimp only [R.Ps]
 refine⟨_,_,_,hb,λ s w1=>∃ k:Nat,k<=n/\s=[.int .i64 (k:Int)]/\J k w1,λ s _=>match s with
   | [.int _ i]=>n-i.toNat
   | _=>0,⟨0,by omega,rfl,h0⟩,?_⟩
 rintro _ w1 ⟨k,qx,aA,hj⟩;cases aA;refine Aa (λ aB=>?_) (λ aJ=>?_)
 ·have aO:k<n:=by omega
  refine⟨_,_,_,(cr _ _ hj).2,?_⟩;refine⟨λ s w2=>∃(i:Nat) (oa:Option Addr) (oc:Nat) (os:List AB),s=[.slice oa os.length oc,.int .i64 (i:Int)]/\i<=ps.length/\os=Bs (rws (ps.take i)) k/\ST w1 w2 [Lk oa oc os],λ s _=>match s with
   | [_,.int _ i]=>ps.length-i.toNat
   | _=>0,⟨0,none,0,[],rfl,by omega,rfl,(ST.start w1).nil _ _⟩,?_⟩
  rintro oa _ oc _ w2 ⟨i,_,_,os,aA,hi,ho,S⟩;cases aA;have cE:os.length=i:=by rw [ho,Gl];simp;omega
  refine Aa (λ aB=>⟨⟨by omega,aB⟩,?_⟩) (λ aJ=>?_)
  ·have aD:i<ps.length:=by omega
   have d':k<ps[i].2.2.length:=by rw [hk _ (AlI aD)];exact aO
   obtain⟨q,rfl,hq,hv⟩:=((cr _ _ hj).1.grown S.Ar).at aD;obtain⟨p,hp,c0,c1,c2⟩:=De hv d';refine⟨_,_,_,by rw [Ak4];exact hq,⟨by omega,by omega⟩,?_⟩;rw [hp];refine⟨_,by rw [Ak4];exact c0,_,by rw [Ak4];exact c1,_,by rw [Ak4];exact c2,S.An λ df w2 _ _ S=>?_⟩;have aW:Rd w2 (some ⟨df,0,none⟩) (HE ps[i].2.2[k]):=S.Gw 0 rfl;refine YJ S 1 Ad0 rfl aW (by omega) λ a3 c3 w3 S=>⟨_,_,_,rfl,?_⟩;rw [Ae (by omega)];refine⟨⟨i+1,a3,c3,_,rfl,by omega,by rw [UE ps aD d',ho],S.drop 1⟩,?_⟩;show ps.length-((i+1:Nat):Int).toNat<ps.length-((i:Nat):Int).toNat;simp only [Ak4];omega
  ·have bG:i=ps.length:=by omega
   rw [AlA (by omega)] at ho;subst ho;rw [cE,bG,Ae (by omega)];refine (ae k w2 oa oc aO (bp _ _ _ hj S.Ar) (AfS S 0 rfl)).mono ?_;rintro y w3 ⟨rfl,h⟩;refine AV ⟨⟨k+1,by omega,rfl,h⟩,?_⟩;show n-((k+1:Nat):Int).toNat<n-((k:Nat):Int).toNat;simp only [Ak4];omega
 ·have:k=n:=by omega
  subst this;exact hj
end
structure Bv(cs:List BQ)(rows:List (List AB)):Prop where
 right:Aq cs=true
 len:rows.length<=1024
 fits:∀ r∈rows,C0 cs r=true
 ok:∀ r∈rows,∀ v∈r,BN v
section
variable {cs:List BQ}{rows:List (List AB)}
theorem Jf{r:List AB}(h:C0 cs r=true):r.length=cs.length:=by
 simp only [C0,AkC,decide_eq_true_eq] at h;exact h.1
theorem TV{r:List AB}(h:C0 cs r=true){k:Nat}(h1:k<cs.length)(h2:k<r.length):GR cs[k] r[k]=true:=by
 simp only [C0,AkC,Wt,List.all_eq_true] at h;exact h.2 (cs[k],r[k]) (List.mem_iff_getElem.2 ⟨k,by simp;omega,by simp⟩)
theorem Bv.Ue(h:Bv cs rows){r:List AB}(hr:r∈rows):r.length=cs.length:=Jf (h.fits r hr)
theorem Bv.D1(h:Bv cs rows){k:Nat}(hk:k<cs.length):Bc cs[k].2.1 (Bs rows k):=by
 have key:∀ v∈Bs rows k,okV cs[k].2.1 v=true/\BN v:=by
  intro v hv;obtain⟨r,hr,rfl⟩:=List.mem_map.1 hv;have hl:=h.Ue hr;have oD:k<r.length:=by omega
  have e:r.getD k Z0=r[k]:=by simp [List.getD,oD]
  rw [e];refine⟨?_,h.ok r hr _ (AlI oD)⟩;have:=TV (h.fits r hr) hk oD;simp only [GR,AkC,Bool.or_eq_true,decide_eq_true_eq] at this;simp only [okV,AkC,Bool.or_eq_true,decide_eq_true_eq];exact⟨this.1,this.2.imp id λ h=>h.2⟩
 obtain⟨_,h1,h2,_⟩:=Dq h.right (AlI hk);refine⟨?_,λ v hv=>(key v hv).2⟩;have h3:(Bs rows k).all (okV cs[k].2.1)=true:=List.all_eq_true.2 λ v hv=>(key v hv).1;have h4:1<=cs[k].2.1/\cs[k].2.1<=3/\(Bs rows k).length<=1024:=⟨h1,h2,by rw [Gl];exact h.len⟩;simp [DP,h3,h4]
end
theorem Aie{P:AB->Prop}{ls:List AB}(h0:P Z0)(h:∀ v∈ls,P v):P (F7 ls).1/\P (F7 ls).2:=by
 have key:∀ i,i<=ls.length->∀ p,L9 (ls.take i)=some p->P p.1/\P p.2:=by
  intro i
  induction i with
  | zero=>intro _ p hp;simp [L9] at hp
  | succ i ih =>
   intro hi p hp;have aD:i<ls.length:=by omega
   have hm:=h _ (AlI aD);rw [JE aD] at hp;unfold WI at hp;split at hp
   ·exact ih (by omega) p hp
   ·split at hp
    ·cases hp;exact⟨hm,hm⟩
    ·rename_i q hq;obtain⟨q1,q2⟩:=ih (by omega) q hq;cases hp;refine⟨?_,?_⟩
     ·show P (if _ then _ else _);split
      ·exact hm
      ·exact q1
     ·show P (if _ then _ else _);split
      ·exact hm
      ·exact q2
 unfold F7;cases hz:L9 ls with
 | none=>exact⟨h0,h0⟩
 | some p =>
  have:=key ls.length (Nat.le_refl _) p (by rw [List.take_length];exact hz);exact this
theorem Bc.AgH{k:Int}{ls:List AB}(h:Bc k ls):∀ v∈ls,AK v=true/\BN v:=by
 intro v hv;have:=h.all v hv;simp only [okV,AkC] at this;exact⟨this.1,h.ok v hv⟩
theorem Bc.AbL{k:Int}{ls:List AB}(h:Bc k ls):(AK (F7 ls).1=true/\BN (F7 ls).1)/\(AK (F7 ls).2=true/\BN (F7 ls).2) :=
 Aie (P:=λ v=>AK v=true/\BN v) ⟨by decide,ZO (by decide) (by decide)⟩ h.AgH
theorem Bc.GS{k:Int}{ls:List AB}(h:Bc k ls):GS ls:=⟨h.len,λ v hv=>(h.AgH v hv).1⟩
theorem HB{v:AB}(h:AK v=true)(hv:BN v):(CD v).length<=1040:=by
 unfold CD;split
 ·have:=Al (FQ hv.lo hv.hi);simp only [Ak3];omega
 ·split
  ·simp
  ·split
   ·rename_i h3;have hs:v.2.2.size<=1024:=by
     rcases Gf h with h | h | ⟨h,_⟩ | ⟨_,h⟩
     ·omega
     ·omega
     ·omega
     ·exact h
    have:=QT hs;simp only [Ak3];omega
   ·simp
theorem Ld.len{k:Int}{ls:List AB}{b:List UInt8}(hg:Bc k ls)(h:Ld k ls b):b.length<=2000300:=by
 obtain⟨o,h1,h2,rfl⟩:=h.ex;have hs:∀ x,(UX x).length=4:=λ x=>rfl;have e1:=QZ hg;have e2:=I2 hg;have e3:o.length<=2000000:=by
  by_cases hn:As ls<ls.length
  ·exact (h1 hn).len hg
  ·rw [h2 hn];simp
 simp only [Ak1,hs];omega
def Lh(n:Nat):List UInt8:=[Ak9 (n % 256),Ak9 (n / 256 % 256),Ak9 (n / 65536 % 256),Ak9 (n / 16777216 % 256)]
def Ch:List UInt8:=[83,89,68,49]
def Kf(x:List UInt8)(l:List AB):List UInt8:=Af x.length++Af (As l)++CD (F7 l).1++CD (F7 l).2
def Cq(rows:List (List AB))(xs:List (List UInt8)):List UInt8:=(xs.mapIdx λ i x=>Kf x (Bs rows i)).flatten
theorem Su(rows:List (List AB))(xs:List (List UInt8))(x:List UInt8):Cq rows (xs++[x])=Cq rows xs++Kf x (Bs rows xs.length):=by
 unfold Cq;rw [List.mapIdx_concat];simp
def DQ(cs:List BQ)(rows:List (List AB))(xs:List (List UInt8)):List UInt8:=CG cs++Af rows.length++Cq rows xs
def KC(cs:List BQ)(rows:List (List AB))(xs:List (List UInt8)):List UInt8:=Ch++xs.flatten++DQ cs rows xs++Lh (DQ cs rows xs).length
def Me(p:List UInt8):List UInt8:=p++Iw p
structure Eu(cs:List BQ)(rows:List (List AB))(xs:List (List UInt8)):Prop where
 len:xs.length<=cs.length
 each:∀ i (h1:i<cs.length) (h2:i<xs.length),Ld cs[i].2.1 (Bs rows i) xs[i]
theorem Eu.nil(cs:List BQ)(rows:List (List AB)):Eu cs rows []:=⟨by simp,λ i _ h=>by simp at h⟩
theorem Eu.snoc{cs:List BQ}{rows:List (List AB)}{xs:List (List UInt8)}(h:Eu cs rows xs){x:List UInt8}(h1:xs.length<cs.length)(hx:Ld cs[xs.length].2.1 (Bs rows xs.length) x):Eu cs rows (xs++[x]):=by
 refine⟨by simp;omega,λ i g1 g2=>?_⟩;rcases Nat.lt_or_ge i xs.length with h3 | h3
 ·rw [List.getElem_append_left h3];exact h.each i g1 h3
 ·have:i=xs.length:=by simp at g2;omega
  subst this;simp only [List.getElem_concat_length];exact hx
theorem Eu.one{cs:List BQ}{rows:List (List AB)}{xs ys:List (List UInt8)}(h:Eu cs rows xs)(h':Eu cs rows ys)(hl:xs.length=ys.length):xs=ys:=by
 refine List.ext_getElem hl λ i h1 h2=>?_;have:=h.len;exact (h.each i (by omega) h1).one (h'.each i (by omega) h2)
theorem Vg{xs:List (List UInt8)}{m:Nat}(h:∀ x∈xs,x.length<=m):xs.flatten.length<=xs.length*m:=by
 induction xs with
 | nil=>simp
 | cons x xs ih =>
  have h1:=h x (by simp);have h2:=ih λ y hy=>h y (by simp [hy]);simp only [List.flatten_cons,Ak1,Ak3,Nat.add_mul];omega
theorem Ae3{k:Int}{x:List UInt8}{l:List AB}(hg:Bc k l)(hx:x.length<=2000300):(Kf x l).length<=2100:=by
 have h1:=Al (n:=x.length) (by omega);have h2:=Al (n:=As l) (by have:=Dc l;have:=hg.len;omega);have h3:=HB hg.AbL.1.1 hg.AbL.1.2;have h4:=HB hg.AbL.2.1 hg.AbL.2.2;simp only [Kf,Ak1];omega
section
variable {cs:List BQ}{rows:List (List AB)}{xs:List (List UInt8)}
theorem Eu.lens(h:Eu cs rows xs)(hs:Bv cs rows):∀ x∈xs,x.length<=2000300:=by
 intro x hx;obtain⟨i,hi,rfl⟩:=List.getElem_of_mem hx;have:=h.len;exact (h.each i (by omega) hi).len (hs.D1 (by omega))
theorem Eu.flat(h:Eu cs rows xs)(hs:Bv cs rows):xs.flatten.length<=33000000:=by
 have h1:=Vg (h.lens hs);have h2:=h.len;have h3:=A6 hs.right;have:xs.length*2000300<=16*2000300:=Nat.mul_le_mul_right _ (by omega);omega
theorem Eu.AfT(h:Eu cs rows xs)(hs:Bv cs rows):(Cq rows xs).length<=34000:=by
 have h1:(Cq rows xs).length<=(xs.mapIdx λ i x=>Kf x (Bs rows i)).length*2100:=by
  refine Vg λ x hx=>?_;obtain⟨i,hi,rfl⟩:=List.mem_mapIdx.1 hx;have:=h.len;exact Ae3 (hs.D1 (by omega:i<cs.length)) (h.lens hs _ (AlI hi))
 rw [List.length_mapIdx] at h1;have h2:=h.len;have h3:=A6 hs.right;omega
theorem Eu.TU(h:Eu cs rows xs)(hs:Bv cs rows):(DQ cs rows xs).length<=35000:=by
 have h1:=h.AfT hs;have h2:=GH hs.right;have h3:=Al (n:=rows.length) (by have:=hs.len;omega);simp only [DQ,Ak1];omega
theorem Eu.Aca(h:Eu cs rows xs)(hs:Bv cs rows):(KC cs rows xs).length<=34000000:=by
 have h1:=h.TU hs;have h2:=h.flat hs;simp only [KC,Ak1,Ch,Lh,Ak3,List.length_nil];omega
end
structure FO(cs:List BQ)(rows:List (List AB))(b:List UInt8):Prop where
 ex:∃ xs,xs.length=cs.length/\Eu cs rows xs/\b=Me (KC cs rows xs)
theorem FO.one{cs:List BQ}{rows:List (List AB)}{b b':List UInt8}(h:FO cs rows b)(h':FO cs rows b'):b=b':=by
 obtain⟨xs,h1,h2,rfl⟩:=h.ex;obtain⟨ys,k1,k2,rfl⟩:=h'.ex;rw [h2.one k2 (by omega)]
def D9(cs:List BQ)(rows:List (List AB)):Int:=if Aq cs=false then 50 else if 1024<rows.length\/∃ r∈rows,C0 cs r=false then 51 else 0
def Afz(cs:List BQ)(rows:List (List AB))(v:Value):Prop :=
 (¬ Bv cs rows/\v=.tuple #[.string ⟨#[]⟩,.int .i64 (D9 cs rows)]/\D9 cs rows≠0)\/(Bv cs rows/\∃ b,v=.tuple #[.string (BC b),.int .i64 0]/\FO cs rows b)
end Go.Proofs.YtpnaifmmggnimaaGreatDoor
namespace Go.Dn
set_option linter.unusedVariables false
set_option maxRecDepth 100000
open Go.RowKit (Below)
theorem ZV{P:Program}{bt el:TypeId}(hb:P.underlying bt=some (.slice el))(he:P.underlying el=some (.int .u8)){w:World}{b n c:Nat}{cs:Array Value}{e:TypeId}(hg:w.heap[b]?=some (.cells cs e (0,0))){f:Value->World->Prop}
  (hf:∀ w',Ai (·=b) w w'->w'.heap[b]?=some (.cells cs e (cs.size,cs.size+1))->f (.slice (some ⟨b,0,none⟩) n c) w'):DE P (convert bt bt (.slice (some ⟨b,0,none⟩) n c)) f w:=by
 have fo:w.shape? b=some (e,cs.size):=by simp [World.shape?,hg]
 have jg:(markStringish ⟨b,0,none⟩).run P w=.ok () (w.freeze ⟨b,cs.size,none⟩ 1):=by simp [markStringish,fo]
 have aH:(convert bt bt (.slice (some ⟨b,0,none⟩) n c)).run P w=.ok (.slice (some ⟨b,0,none⟩) n c) (w.freeze ⟨b,cs.size,none⟩ 1):=by
  simp only [convert,Sem.run_bind,run_underlying hb,run_underlying he,Result.andThen_ok,beq_self_eq_true,jg,Sem.run_pure]
 unfold DE;rw [aH];refine hf _ (Pg (·=b) w ⟨b,cs.size,none⟩ 1 rfl) ?_;unfold World.freeze;simp [Array.getElem?_modify,hg]
theorem Abc{P:Program}{t ty e:TypeId}{sz bytes:Nat}{z:Value}(hT:MN P t=some (e,sz,bytes,z))(hz:z.cells.size=sz)(aw:0<sz)(bh:0<bytes)
  {w:World} {p:Addr} {n c:Nat} {xs:List Value} (hr:Rd w (some p) xs) (ct:xs.length=n*sz) {b:Option Addr} {m mc:Nat} {news:List Value} (hs:Rd w b news) (hl:news.length=m*sz) (hm:0<m)
  (hc:c<n+m) (_hnc:n<=c) (dX:(n+m)*bytes<=140737488355328) :
  ∃ a' c' w',(Builtin.append_ #[t,t] ty #[.slice (some p) n c,.slice b m mc]).run P w=.ok (.slice a' (n+m) c') w'/\Row w' e sz a' (n+m) c' (xs++news)/\Below w.heap.size w w'/\(∀ k,AD a'=some k->w.heap.size<=k):=by
 obtain⟨hu,i,hi,hiz,rfl,rfl⟩:=Pv hT;have cC:n+m<=140737488355328:=Nat.le_trans (Nat.le_mul_of_pos_right _ bh) dX;have hlen:(xs++news).length=(n+m)*i.size:=by rw [List.length_append,ct,hl,Nat.add_mul]
 have h0:0<news.length:=by rw [hl];exact Nat.mul_pos hm aw
 obtain⟨q,rfl,_⟩:=hs 0 news[0] (List.getElem?_eq_getElem h0);have hq:∀ j u,news[j]?=some u->w.cell? (q.add j)=some u:=by
  intro j u hu;obtain⟨q',kP,hc⟩:=hs j u hu;cases kP;exact hc
 have hold:∀ j v,xs[j]?=some v->w.cell? (p.add j)=some v:=by
  intro j v hv;obtain⟨q',kP,hc⟩:=hr j v hv;cases kP;exact hc
 have aJ:=grownCap_ge w (n+m) c e;have iz:grownCap w (n+m) c e<=maxLen:=grownCap_le_maxLen w (n+m) c e (by unfold maxLen;omega);have aH:=run_append_grow (P:=P) w t ty e i z hu hi hiz p n c xs ct hold q m mc news hl hq (by omega) (by omega) (growslice_fits (by omega) dX);refine⟨_,_,_,aH,⟨hlen,.inr ⟨w.heap.size,_,rfl,heap_alloc_new w.drew _,aJ,by unfold maxLen at iz;omega,?_,?_⟩⟩,((Below.refl _ w).drew).alloc (Nat.le_refl _) _,λ k hk=>?_⟩
 ·simp only [Array.size_append,List.size_toArray,size_zeroCells,hz,ct,hl,<- Nat.add_mul];congr 1;omega
 ·simp only [Array.toList_append,List.append_assoc];rw [<- List.append_assoc,<- hlen];exact List.take_left
 ·simp [AD] at hk;omega
def It.buf(e:TypeId)(sz:Nat)(a:Option Addr)(n c:Nat)(xs:List Value):It where
 CJ:=AD a
 ok:=λ w=>Row w e sz a n c xs\/(∃ p,a=some p/\c=n/\Rd w a xs/\xs.length=n*sz/\p.block<w.heap.size)
 st:=λ w w' h h0=>by
  rcases h0 with h0 | ⟨p,rfl,h1,h2,h3,h4⟩
  ·exact .inl ((It.row e sz a n c xs).st w w' h h0)
  ·refine .inr ⟨p,rfl,h1,?_,h3,?_⟩
   ·intro j v hv;obtain⟨q,hq,hc⟩:=h2 j v hv;cases hq;exact⟨p,rfl,by rw [World.cell?_of_block (w:=w) (by rw [DI];exact h p.block rfl)];exact hc⟩
   ·have:=h p.block rfl;rw [Array.getElem?_eq_getElem h4] at this;exact (Array.getElem?_eq_some_iff.1 this).1
 lt:=λ w h k hk=>by
  rcases h with h | ⟨p,rfl,_,_,_,h4⟩
  ·exact h.lt hk
  ·cases hk;exact h4
section
variable {w0 w:World}{H:List It}
theorem ST.Ako(S:ST w0 w H)(n:Nat){P:Program}{t ty e:TypeId}{sz bytes:Nat}{z:Value}{a:Option Addr}{m c:Nat}{xs:List Value}(hn:H[n]?=some (It.buf e sz a m c xs))(hT:MN P t=some (e,sz,bytes,z))(hz:z.cells.size=sz)(aw:0<sz)(bh:0<bytes)
  {b:Option Addr} {mm mc:Nat} {news:List Value} (hs:Rd w b news) (hl:news.length=mm*sz) (ir:0<mm) (h1:∀ u∈news,u.oneCell'=true) (dX:(m+mm)*bytes<=140737488355328) {f:Value->World->Prop}
  (hf:∀ a' c' w',ST w0 w' (H.set n (It.row e sz a' (m+mm) c' (xs++news)))->f (.slice a' (m+mm) c') w'):DE P (Builtin.append_ #[t,t] ty #[.slice a m c,.slice b mm mc]) f w:=by
 rcases S.get n hn with h | ⟨p,rfl,rfl,h2,h3,h4⟩
 ·obtain⟨a',c',w',aH,aI,hk,bE⟩:=BX (ty:=ty) (mc:=mc) hT hz aw bh h hs hl h1 dX;unfold DE;rw [aH];exact hf a' c' w' (S.IX n hn hk _ aI bE)
 ·obtain⟨a',c',w',aH,aI,hB,bE⟩:=Abc (ty:=ty) (mc:=mc) hT hz aw bh h2 h3 hs hl ir (by omega) (Nat.le_refl _) dX;unfold DE;rw [aH];exact hf a' c' w' (S.IX n hn (Ai.AA hB) _ aI (λ k hk=>.inr (bE k hk)))
theorem ST.rdF(S:ST w0 w H)(n:Nat){e:TypeId}{sz:Nat}{a:Option Addr}{m c:Nat}{xs:List Value}(hn:H[n]?=some (It.buf e sz a m c xs)):Rd w a xs:=by
 rcases S.get n hn with h | ⟨p,rfl,rfl,h2,h3,h4⟩
 ·exact h.rd
 ·exact h2
end
end Go.Dn
