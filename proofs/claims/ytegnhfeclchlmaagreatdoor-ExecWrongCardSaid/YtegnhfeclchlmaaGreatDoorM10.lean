/-
  Texts of this claim, laid one behind the other by a program of mine (install.py): Z.Pl5, Z.Pl6, Z.Pl7, Z.PlM, Z.Seg14, Z.Ct3e, Z.Ew2, Dn.MapsP, Z.Ew3, Z.Ew4, Z.Sh1, Z.Sh2, Z.Sh3, Z.Sh4, Z.Sh5, Z.Sh6, Z.Sh7, Z.Sh8, Z.Sh9, Z.Sh10.
-/
import Derived.Test.YtegnhfeclchlmaaGreatDoorM9
import Derived.Test.YtegnhfeclchlmaaGreatDoorM8
import Derived.Test.YtegnhfeclchlmaaGreatDoorM4
import Derived.Maps.OwnSet
import Derived.Maps.Range
import Derived.Test.YtegnhfeclchlmaaGreatDoorM6
namespace Go.Proofs.YtegnhfeclchlmaaGreatDoor
open _root_.Bool renaming false_or -> AkL
open _root_.Int renaming toNat_natCast -> Ajz
open _root_.List renaming getElem?_eq_getElem -> Ajv, getElem_mem -> Akg, length_append -> Ajk, map_append -> Akv, mem_append -> Akk, mem_map -> Ajb, take_of_length_le -> Akm, take_succ_eq_append_getElem -> Akj
open _root_.Nat renaming mul_one -> AjC, zero_add -> Ajp
set_option maxRecDepth 100000
open Go.Dn Go.Proofs
open Go.RowKit (Below)
set_option linter.unusedVariables false
section
variable {w w0:World}{q:Qu}{ai aw ag ao:Option Addr}{ci cw cg co:Nat}{H:List It}{cs:List AA}{a0 a6:Option Addr}{c0 c6 b:Nat}{out:List AA}
def Agj(w0:World)(q:Qu)(ai aw ag ao:Option Addr)(ci cw cg co:Nat)(H:List It)(cs:List AA)(a0 a6:Option Addr)(c0 c6 b:Nat)(out:List AA)(r:Except Int (List AA))(v:Value)(w':World):Prop :=
 match r with
 | .error e=>v=.int .i64 e/\ST w0 w' (Gj b ⟨cs,q,out,Am q⟩ a0 c0 ai ci aw cw ag cg ao co a6 c6 :: AP a6 c6 out :: H)
 | .ok l=>∃ a' c',v=.int .i64 0/\ST w0 w' (Gj b ⟨cs,q,out++l,Am q⟩ a0 c0 ai ci aw cw ag cg ao co a' c' :: AP a' c' (out++l) :: H)
def Aid:Except Int AA->Except Int (List AA)
 | .error e=>.error e
 | .ok c=>.ok [c]
theorem PL(E:Env w0)(Q:V4 w0 q ai aw ag ao)(gE:q.it.length<=ci)(S:ST w0 w (Gj b ⟨cs,q,out,Am q⟩ a0 c0 ai ci aw cw ag cg ao co a6 c6 :: AP a6 c6 out :: H)){i:Nat}(hi:i<q.it.length)(ho:out.length<=1000)(k:Int) :
  Calls Tryz.prog f.MV #[.pointer (some ⟨b,0,none⟩),.int .i64 (i:Int),.int .i64 k] w (AD λ v w'=>Agj w0 q ai aw ag ao ci cw cg co H cs a0 a6 c0 c6 b out (Aid (Hp q i q.it[i] k)) v w'):=by
 apply R.Ht
 delta R.A R.Ab R.Cb R.Ci R.D R.F R.G R.I R.J R.Ks R.Lb R.Li R.Ls R.Lt R.N R.O R.P R.S R.Ae R.T R.X R.Y R.Zb R.Zi;try dsimp only [R.Ps]
 obtain⟨ri,dH,hCi⟩:=Q.it;obtain⟨rg,hrg,hCg⟩:=Q.gr;obtain⟨x,fp⟩:∃ x,x=q.it[i]:=⟨_,rfl⟩;refine⟨_,_,_,S.cell 0 rfl rfl,⟨by omega,by show (i:Int)<(q.it.length:Int);omega⟩,?_⟩;obtain⟨p,a3,aN,ej,bF,aU,cell⟩:=H6 (dH.grown S.Ag) hCi hi;rw [<- fp] at bF cell ⊢;subst ej;rw [Ajz];refine ldI cell (S.Vz λ fx w9 _ S9=>?_);obtain⟨K,hK⟩:∃ K,K=itI fx x a3 aN :: Gj b ⟨cs,q,out,Am q⟩ a0 c0 (some p) ci aw cw ag cg ao co a6 c6 :: AP a6 c6 out :: H:=⟨_,rfl⟩;have S9:ST w0 w9 K:=by rw [hK];exact S9
 have k0:K[0]?=some (itI fx x a3 aN):=by rw [hK];rfl
 have k1:K[1]?=some (Gj b ⟨cs,q,out,Am q⟩ a0 c0 (some p) ci aw cw ag cg ao co a6 c6):=by rw [hK];rfl
 have hd:K.drop 1=Gj b ⟨cs,q,out,Am q⟩ a0 c0 (some p) ci aw cw ag cg ao co a6 c6 :: AP a6 c6 out :: H:=by rw [hK];rfl
 refine⟨λ st w=>st=[.int .i64 (if x.2.1=1\/x.2.1=2 then 1 else k)]/\¬ (x.2.1=3/\Ix k≠1)/\¬ ((Am q=true/\x.2.1=0/\IY x.2.2 q.gr=false)\/((q.it.take i).any λ y=>decide (y.1=x.1))=true)/\ST w0 w K,
  ⟨λ st w=>st=[.bool (decide (x.2.1=3/\Ix k≠1))]/\ST w0 w K,⟨_,S9.cell 0 k0 rfl,Aj (λ h3=>S9.Ado (Kz w9 k) ⟨_,rfl,?_,S9⟩) (λ h3=>⟨?_,S9⟩)⟩,?_⟩,?_⟩
 ·change x.2.1=3 at h3;rw [P9];congr 2;rw [decide_eq_decide];exact⟨λ h=>⟨h3,h⟩,λ h=>h.2⟩
 ·change x.2.1≠3 at h3;rw [decide_eq_false (λ h=>h3 h.1)]
 ·rintro t bm ⟨ht,aW⟩;obtain rfl:t=decide (x.2.1=3/\Ix k≠1):=by simpa using ht
  refine Aa (λ h=>?_) (λ eR=>?_)
  ·rw [Hp,if_pos h];exact⟨rfl,hd ▸ aW.drop 1⟩
  refine⟨λ st w=>st=[.bool (decide ((Am q=true/\x.2.1=0/\IY x.2.2 q.gr=false)\/((q.it.take i).any λ y=>decide (y.1=x.1))=true))]/\ST w0 w K,
   ⟨λ st w=>st=[.bool (decide (Am q=true/\x.2.1=0/\IY x.2.2 q.gr=false))]/\ST w0 w K,⟨_,aW.cell 1 k1 rfl,Ao (λ hg=>⟨_,aW.cell 0 k0 rfl,Aj (λ h0=>⟨_,_,_,aW.cell 1 k1 rfl,?_⟩) (λ h0=>⟨?_,aW⟩)⟩) (λ hg=>⟨?_,aW⟩)⟩,?_⟩,?_⟩
  ·change x.2.1=0 at h0;change Am q=true at hg;refine aW.call (Pm (hrg.grown aW.Ag) hCg Q.ngr (by kernel_rfl) (Pb x.2.2) λ w' y c B hy hc=>ZA (E.grown (aW.grown B).Ag) 0 (aW.grown B) k0 (bF.grown (aW.grown B).Ag) (hc.grown (aW.grown B).Ag)) λ cI _ bM=>⟨_,rfl,?_,bM⟩;show [Value.bool (!IY x.2.2 q.gr)]=_;congr 2;rw [hg,h0];cases IY x.2.2 q.gr <;> simp
  ·change x.2.1≠0 at h0;rw [decide_eq_false (λ h=>h0 h.2.1)]
  ·change Am q=false at hg;rw [decide_eq_false (λ h=>by rw [hg] at h;cases h.1)]
  ·rintro t bQ ⟨ht,aQ⟩;obtain rfl:t=decide (Am q=true/\x.2.1=0/\IY x.2.2 q.gr=false):=by simpa using ht
   refine Aa (λ h=>⟨by rw [decide_eq_true (Or.inl h)],aQ⟩) (λ aq=>⟨_,_,_,aQ.cell 1 k1 rfl,⟨by omega,by omega,by omega⟩,?_⟩);have e:i-0=(q.it.take i).length:=by rw [List.length_take];omega
   have dU:=(dH.grown aQ.Ag).YA 0 i ci 8 (by omega);rw [Nat.zero_mul,List.drop_zero,Nat.sub_zero] at dU;have pX:=Q.nit;rw [e];refine aQ.call (Ip dU (Ax.take (λ _ _ h=>LX.len h) hCi i) (by rw [List.length_take];omega) (by kernel_rfl) (λ y=>decide (y.1=x.1)) λ w' y c B hy hc=>ZB 0 (aQ.grown B) k0 hc) λ bG _ cC=>⟨_,rfl,?_,cC⟩;congr 2;rw [Bool.eq_iff_iff,decide_eq_true_eq];exact⟨.inr,λ h=>h.elim (λ h=>absurd h aq) id⟩
  ·rintro t cB ⟨ht,au⟩;obtain rfl:t=decide ((Am q=true/\x.2.1=0/\IY x.2.2 q.gr=false)\/((q.it.take i).any λ y=>decide (y.1=x.1))=true):=by simpa using ht
   refine Aa (λ h=>?_) (λ aq=>⟨_,au.cell 0 k0 rfl,Aj (λ h1=>⟨?_,eR,aq,au⟩) (λ h1=>⟨_,au.cell 0 k0 rfl,Aj (λ h2=>⟨?_,eR,aq,au⟩) (λ h2=>⟨?_,eR,aq,au⟩)⟩)⟩)
   ·rw [Hp,if_neg eR,if_pos h];exact⟨rfl,hd ▸ au.drop 1⟩
   ·rw [if_pos (.inl h1)]
   ·rw [if_pos (.inr h2)]
   ·change x.2.1≠1 at h1;change x.2.1≠2 at h2;rw [if_neg (by omega)]
 rintro t cZ ⟨ht,eR,aq,cN⟩;obtain rfl:t=if x.2.1=1\/x.2.1=2 then 1 else k:=by simpa using ht
 rw [Hp,if_neg eR,if_neg aq];rw [hK] at cN;refine cN.draw λ cM _ bn=>⟨_,_,_,bn.cell 1 rfl rfl,_,bn.cell 0 rfl rfl,bn.Ado (Kz _ _) ⟨_,rfl,bn.cell 0 rfl rfl,bn.cell 1 rfl rfl,bn.Ak λ tX fR _ _ iF=>⟨iF.cell 2 rfl rfl,?_⟩⟩⟩;refine iF.app 3 rfl Yj rfl (by omega) (by omega) (iF.rdc 0 rfl) (mm:=1) rfl (by intro u hu;simp at hu;rcases hu with rfl | rfl | rfl <;> rfl) (by omega) λ a' c' fS iG=>⟨_,_,_,rfl,?_⟩;obtain⟨cc,cE⟩:∃ cc:AA,cc=(x.1,if x.2.1=1\/x.2.1=2 then 1 else Ix k,true):=⟨_,rfl⟩;have ek:Ix (if x.2.1=1\/x.2.1=2 then 1 else k)=if x.2.1=1\/x.2.1=2 then 1 else Ix k:=by split <;> rfl
 refine iG.BA 2 rfl (i:=6) (aD:=⟨LN ⟨cs,q,out++[cc],Am q⟩ a0 c0 (some p) ci aw cw ag cg ao co a' c'⟩) (by show 6<8;omega) (by simp [LN]) λ jX ey=>?_;rw [<- cE];refine⟨a',c',rfl,?_⟩;have e:AP a' c' (out++[cc])=It.row ty.Bt 3 a' (out.length+1) c' (AO out++[.string x.1,.int .i64 (Ix (if x.2.1=1\/x.2.1=2 then 1 else k)),.bool true]):=by
  unfold AP;rw [UQ,Ajk,ek,cE];simp [AO,Hi]
 rw [e];exact ey.drop 2
theorem AfS{p:J1}(h:p∈Gk q):p.1 = -1\/∃(i:Nat) (hi:i<q.it.length),p=((i:Int),false,q.it[i].2.2):=by
 have hI:∀(l:List F4) (j:Nat),p∈BE j l->∃(i:Nat) (hi:i<l.length),p=(((j+i:Nat):Int),false,l[i].2.2):=by
  intro l
  induction l with
  | nil=>intro j h;cases h
  | cons x l ih =>
   intro j h;rcases List.mem_cons.1 h with rfl | h
   ·exact⟨0,by simp,rfl⟩
   ·obtain⟨i,hi,rfl⟩:=ih _ h;exact⟨i+1,by simpa using hi,by simp only [List.getElem_cons_succ];rw [show j+1+i=j+(i+1) by omega]⟩
 unfold Gk at h;rcases Akk.1 h with h | h
 ·rcases Akk.1 h with h | h
  ·obtain⟨x,_,rfl⟩:=Ajb.1 h;exact .inl rfl
  ·obtain⟨x,_,rfl⟩:=Ajb.1 h;exact .inl rfl
 ·obtain⟨i,hi,rfl⟩:=hI q.it 0 h;exact .inr ⟨i,hi,by rw [Ajp]⟩
def Aii(b:Nat)(p:J1)(a:Option Addr)(cap:Nat):It:=It.cells b ⟨.int .i64 p.1 :: .bool p.2.1 :: An p.2.2 a cap⟩ ty.Ue
def typed(q:Qu)(p:J1):Bool:=decide (p.1<0) || (match q.it[p.1.toNat]? with | some x=>decide (x.2.1≠1) | none=>true)
theorem Oi(E:Env w0)(Q:V4 w0 q ai aw ag ao)(gE:q.it.length<=ci)(hl:Rd w a0 (AO cs))(hn:cs.length<=9223372036854775807)(hq:∀ c∈cs,c.1.size<=9223372036854775807)(S:ST w0 w (Gj b ⟨cs,q,out,Am q⟩ a0 c0 ai ci aw cw ag cg ao co a6 c6 :: AP a6 c6 out :: H))(ho:out.length<=1000)
  {p:J1} (hp:p∈Gk q) {a3:Option Addr} {aN:Nat} (hx:XC w0 p.2.2 (An p.2.2 a3 aN)) :
  Calls Tryz.prog f.Lw #[.pointer (some ⟨b,0,none⟩),.agg ⟨.int .i64 p.1 :: .bool p.2.1 :: An p.2.2 a3 aN⟩] w (AD λ v w'=>Agj w0 q ai aw ag ao ci cw cg co H cs a0 a6 c0 c6 b out (CS cs q p) v w'):=by
 apply R.G7
 delta R.A R.Ab R.Pj R.Ci R.D R.E R.F R.G R.I R.Lb R.Li R.Ls R.Lt R.N R.P R.S R.T R.X R.Zb R.Zi;try dsimp only [R.Ps]
 obtain⟨ri,dH,hCi⟩:=Q.it;have nY:=AfS hp;refine S.Ak λ dD w1 _ B1 S1=>?_;have ff:=hl.grown B1;obtain⟨K,hK⟩:∃ K,K=Aii dD p a3 aN :: Gj b ⟨cs,q,out,Am q⟩ a0 c0 ai ci aw cw ag cg ao co a6 c6 :: AP a6 c6 out :: H:=⟨_,rfl⟩;have S1:ST w0 w1 K:=by rw [hK];exact S1
 have k0:K[0]?=some (Aii dD p a3 aN):=by rw [hK];rfl
 have k1:K[1]?=some (Gj b ⟨cs,q,out,Am q⟩ a0 c0 ai ci aw cw ag cg ao co a6 c6):=by rw [hK];rfl
 have hd:K.drop 1=Gj b ⟨cs,q,out,Am q⟩ a0 c0 ai ci aw cw ag cg ao co a6 c6 :: AP a6 c6 out :: H:=by rw [hK];rfl
 refine⟨λ st w=>∃ k,st=[.int .i64 k]/\(typed q p=true->Fa cs p.2.2=.ok k)/\(typed q p=false->k=1)/\ST w0 w K,⟨λ st w=>st=[.bool (typed q p)]/\Rd w a0 (AO cs)/\ST w0 w K,S1.draw λ w2 B2 S2=>⟨_,S2.cell 0 k0 rfl,Aa (λ h=>⟨?_,ff.grown B2,S2⟩) (λ h=>?_)⟩,?_⟩,?_⟩
 ·change p.1<0 at h;rw [typed,decide_eq_true h];rfl
 ·change ¬ p.1<0 at h;rcases nY with h1 | ⟨i,hi,rfl⟩
  ·omega
  ·obtain⟨pp,a4,cap4,ej,bF,aU,cell⟩:=H6 (dH.grown S2.Ag) hCi hi;subst ej;refine⟨_,_,_,S2.cell 1 k1 rfl,_,S2.cell 0 k0 rfl,⟨by show (0:Int)<=(i:Int);omega,by show (i:Int)<(q.it.length:Int);omega⟩,_,by show w2.cell? ((pp.add (((i:Nat):Int).toNat*8)).add 1)=_;rw [Ajz];exact cell 1 _ rfl,?_,ff.grown B2,S2⟩;rw [typed,decide_eq_false h,AkL];show [Value.bool (q.it[i].2.1 != 1)]=_;rw [P9];simp only [Ajz,Ajv hi]
 ·rintro t w3 ⟨ht,gp,S3⟩;obtain rfl:t=typed q p:=by simpa using ht
  refine Ao (λ h=>S3.draw λ w4 B4 S4=>⟨_,_,_,S4.cell 1 k1 rfl,_,S4.cell 0 k0 rfl,_,S4.cell 0 k0 rfl,_,S4.cell 0 k0 rfl,_,S4.cell 0 k0 rfl,_,S4.cell 0 k0 rfl,_,_,_,S4.cell 0 k0 rfl,S4.call (Vd (E.grown S4.Ag) (gp.grown B4) hn hq (hx.grown S4.Ag)) λ w5 _ S5=>?_⟩) (λ h=>⟨1,rfl,(λ h'=>by rw [h] at h';cases h'),λ _=>rfl,S3⟩);cases hT:Fa cs p.2.2 with
  | ok k=>exact⟨_,_,rfl,As (λ h=>absurd rfl h) (λ _=>⟨k,rfl,λ _=>rfl,(λ h'=>by rw [h] at h';cases h'),S5⟩)⟩
  | error e =>
   refine⟨_,_,rfl,As (λ _=>?_) (λ h=>absurd h (Si hT))⟩;have:CS cs q p=.error e:=by
    unfold CS;rw [hT];rcases nY with h1 | ⟨i,hi,rfl⟩
    ·rw [if_pos (by omega)]
    ·rw [if_neg (by simp only;omega)];simp only [Ajz,Ajv hi];rw [typed,decide_eq_false (by simp only;omega)] at h;simp only [Ajz,Ajv hi,AkL,decide_eq_true_eq] at h;change Fa cs q.it[i].2.2=_ at hT;rw [Kv,if_neg h,hT]
   rw [this];exact⟨rfl,hd ▸ S5.drop 1⟩
 rintro t w6 ⟨k,ht,dz,bB,S6⟩;obtain rfl:t=k:=by simpa using ht
 refine⟨λ st w=>st=[.bool (decide (p.2.1=true/\t≠2/\t≠0))]/\ST w0 w K,⟨_,S6.cell 0 k0 rfl,Ao (λ hw=>As (λ h2=>⟨?_,S6⟩) (λ h2=>⟨?_,S6⟩)) (λ hw=>⟨?_,S6⟩)⟩,?_⟩
 ·change p.2.1=true at hw;rw [P9];congr 2;rw [decide_eq_decide];exact⟨λ h=>⟨hw,h2,h⟩,λ h=>h.2.2⟩
 ·rw [decide_eq_false (λ h=>h.2.1 h2)]
 ·change p.2.1=false at hw;rw [decide_eq_false (λ h=>by rw [hw] at h;cases h.1)]
 rintro t' w7 ⟨jQ,S7⟩;obtain rfl:t'=decide (p.2.1=true/\t≠2/\t≠0):=by simpa using jQ
 rcases nY with h1 | ⟨i,hi,rfl⟩
 ·have er:Fa cs p.2.2=.ok t:=dz (by rw [typed,decide_eq_true (by omega)];rfl);refine Aa (λ h=>?_) (λ h=>⟨_,S7.cell 0 k0 rfl,Aa (λ h'=>absurd (show p.1>=0 from h') (by omega)) (λ _=>?_)⟩)
  ·rw [CS,if_pos (by omega),er];simp only;rw [if_pos h];exact⟨rfl,hd ▸ S7.drop 1⟩
  ·rw [CS,if_pos (by omega),er];simp only;rw [if_neg h];refine⟨a6,c6,rfl,?_⟩;rw [List.append_nil];exact hd ▸ S7.drop 1
 ·refine Aa (λ h=>by cases h.1) (λ _=>⟨_,S7.cell 0 k0 rfl,Aa (λ _=>⟨_,S7.cell 0 k0 rfl,?_⟩) (λ h'=>absurd (show ((i:Nat):Int)>=0 by omega) h')⟩);have S8:ST w0 w7 (Gj b ⟨cs,q,out,Am q⟩ a0 c0 ai ci aw cw ag cg ao co a6 c6 :: AP a6 c6 out :: H):=hd ▸ S7.drop 1;have aA:CS cs q ((i:Int),false,q.it[i].2.2)=Aid (Hp q i q.it[i] t):=by
   rw [CS,if_neg (by simp only;omega)];simp only [Ajz,Ajv hi];have sl:typed q ((i:Int),false,q.it[i].2.2)=decide (q.it[i].2.1≠1):=by
    rw [typed,decide_eq_false (by simp only;omega),AkL];simp only [Ajz,Ajv hi]
   rw [sl] at dz bB;have hP:Kv cs q i q.it[i]=Hp q i q.it[i] t:=by
    unfold Kv;by_cases h1:q.it[i].2.1=1
    ·rw [if_pos h1,bB (by simp [h1])]
    ·rw [if_neg h1,dz (by simp [h1])]
   rw [hP]
   all_goals (cases Hp q i q.it[i] t <;> rfl)
  rw [aA];refine (PL E Q gE S8 hi ho t).mono ?_;rintro _ w8 ⟨v,rfl,hv⟩;cases hI:Hp q i q.it[i] t with
  | error e=>rw [hI] at hv;obtain⟨rfl,S9⟩:=hv;exact⟨_,rfl,rfl,S9⟩
  | ok c=>rw [hI] at hv;obtain⟨a',c',rfl,S9⟩:=hv;exact⟨_,rfl,a',c',rfl,S9⟩
end
section
variable {w w0:World}{H:List It}
theorem Km(S:ST w0 w H){a:Option Addr}{c:Nat}{l:List AA}(h:Rd w a (AO l))(hl:l.length<=1000):Calls Tryz.prog f.Bz #[.slice a l.length c] w (AD λ v w'=>∃ a' c',v=.slice a' l.length c'/\ST w0 w' (AP a' c' l :: H)):=by
 apply R.Bc
 delta R.F R.J R.Ks R.N R.O R.S;try dsimp only [R.Ps]
 cases a with
 | none =>
  have:l=[]:=by
   cases l with
   | nil=>rfl
   | cons x l =>
    obtain⟨p,hp,_⟩:=h 0 (.string x.1) (by simp [Hi]);cases hp
  subst this;exact AZ ⟨none,0,rfl,S.nil _ _⟩
 | some q =>
  refine AN (S.empty (sz:=3) λ b2 w1 B1 S=>?_);refine S.app 0 rfl Yj rfl (by omega) (by omega) (h.grown B1) (mm:=l.length) (WC l) (AbB l) (by omega) λ a' c' w' S=>⟨_,_,_,rfl,a',c',by rw [Ajp],?_⟩;simp only [Ajp,List.nil_append] at S;exact S
theorem ZC{wc:World}{y:F4}{c:List Value}(hy:LX (λ _=>False) wc y c):Calls Tryz.prog f.VI #[.agg ⟨c⟩] w (AD λ r w'=>r=.bool (decide (y.2.1≠0))/\Below w.heap.size w w'):=by
 obtain⟨ce,rfl,dV,_⟩:=hy;obtain⟨a4,cap4,_,rfl,_⟩:=DT.open dV;apply R.Lr
 delta R.Ab R.G R.I R.Li R.N R.S R.T;try dsimp only [R.Ps]
 exact (ST.start w).Ak λ b8 w1 _ B1 S1=>⟨_,S1.cell 0 rfl rfl,by rw [P9],B1⟩
def PM(b c:Nat)(t:TypeId):It:=It.cells b #[.pointer (some ⟨c,0,none⟩)] t
def MD(b:Nat)(n:Int)(t:TypeId):It:=It.cells b #[.int .i64 n] t
end
section
variable {w:World}{q:Qu}{ai aw ag ao:Option Addr}{ci cw cg co:Nat}
theorem MU(E:Env w){cs:List AA}{a1:Option Addr}{c1:Nat}(hl:Rd w a1 (AO cs))(hn:cs.length<=9223372036854775807)(hq:∀ c∈cs,c.1.size<=9223372036854775807)(Q:V4 w q ai aw ag ao)(gE:q.it.length<=ci) :
  Calls Tryz.prog f.Oe #[.slice a1 cs.length c1,.agg ⟨quL q ai aw ag ao ci cw cg co⟩] w (AD λ r w'=>Aau cs q w w' r):=by
 apply R.PK
 delta R.A R.Ab R.Cb R.Cf R.Ci R.Cs R.D R.E R.F R.G R.H R.I R.J R.Lb R.Li R.Lp R.Ls R.Lt R.N R.O R.P R.S R.Ae R.T R.Zp;try dsimp only [R.Ps]
 obtain⟨ri,dH,hCi⟩:=Q.it;refine (ST.start w).Ak λ b7 w1 _ _ S1=>S1.Ak λ b8 w2 _ _ S2=>S2.call (CC (hl.grown S2.Ag) hn hq) λ w3 _ S3=>⟨_,rfl,Ap (Ao (λ h1=>?_) (λ h1=>Aew S3 0 rfl λ bm aW=>Rr (by rw [DZ,if_pos h1]) aW.Ag))⟩;have S3:ST w w3 [It.cells b8 #[.slice none 0 0,.slice none 0 0,.slice none 0 0,.slice none 0 0,.slice none 0 0,.int .i64 0,.slice none 0 0,.bool false] ty.QD,Iz b7 q ai aw ag ao ci cw cg co]:=S3;refine stQ S3 1 rfl (stQ S3 1 rfl (S3.call (PN (E.grown S3.Ag) (Q.grown S3.Ag)) λ cI _ bM=>⟨_,rfl,Ap (Ao (λ h2=>?_) (λ h2=>Aew bM 0 rfl λ bm aW=>Rr (by rw [DZ,if_neg (by rw [h1];decide),if_pos h2]) aW.Ag))⟩));have nQ:cs.length<=16:=by
  unfold Ai at h1;simp only [Bool.and_eq_true,decide_eq_true_eq] at h1;exact h1.1.1.2
 have rq:=(DQ.1 (FP h2).1).1.2.1;obtain⟨Z,hZ⟩:∃ Z,Z=It.cells b8 #[.slice none 0 0,.slice none 0 0,.slice none 0 0,.slice none 0 0,.slice none 0 0,.int .i64 0,.slice none 0 0,.bool false] ty.QD:=⟨_,rfl⟩;rw [<- hZ] at bM;refine⟨_,_,_,bM.cell 1 rfl rfl,bM.call (Ip (dH.grown bM.Ag) hCi Q.nit (by kernel_rfl) (λ y=>decide (y.2.1≠0)) λ w' y c B hy hc=>ZC hc) λ jX _ ey=>⟨_,rfl,?_⟩⟩;have iR:(q.it.any λ y=>decide (y.2.1≠0))=true->true=Am q:=λ h=>by rw [Am,h];rfl
 have dG:(q.it.any λ y=>decide (y.2.1≠0))=false->decide ((q.gr.length:Int) > 0)=Am q:=λ h=>by rw [Am,h,AkL,decide_eq_decide];omega
 refine⟨λ st w'=>∃ bq bp a' c',st=[.pointer (some ⟨bq,0,none⟩)]/\ST w w' [Gj bp ⟨cs,q,[],Am q⟩ a' c' ai ci aw cw ag cg ao co none 0,PM bq bp ty.AB,AP a' c' cs,Z,Iz b7 q ai aw ag ao ci cw cg co],ey.draw λ iy _ S=>?_,?_⟩
 ·have fD:∀ {w'} {K:List It} (n:Nat),ST w w' K->K[n]?=some (Iz b7 q ai aw ag ao ci cw cg co)->w'.cell? ⟨b7,0,none⟩=some (.slice ai q.it.length ci)/\w'.cell? ⟨b7,1,none⟩=some (.slice aw q.wh.length cw)/\w'.cell? ⟨b7,2,none⟩=some (.slice ag q.gr.length cg)/\w'.cell? ⟨b7,3,none⟩=some (.slice ao q.od.length co)/\w'.cell? ⟨b7,4,none⟩=some (.int .i64 q.lim):=λ n S g1=>⟨S.cell n g1 rfl,S.cell n g1 rfl,S.cell n g1 rfl,S.cell n g1 rfl,S.cell n g1 rfl⟩;have fst:∀ {w'} {a' c'} {g:Bool} {k:Nat->World->Prop},g=Am q->ST w w' [AP a' c' cs,Z,Iz b7 q ai aw ag ao ci cw cg co]->(∀ bq bp w',ST w w' [Gj bp ⟨cs,q,[],Am q⟩ a' c' ai ci aw cw ag cg ao co none 0,PM bq bp ty.AB,AP a' c' cs,Z,Iz b7 q ai aw ag ao ci cw cg co]->k bq w') ->
    Cu #[.slice a' cs.length c',.slice ai q.it.length ci,.slice aw q.wh.length cw,.slice ag q.gr.length cg,.slice ao q.od.length co,.int .i64 q.lim,.slice none 0 0,.bool g] ty.Ie (λ bp w=>Cu #[.pointer none] ty.AB (λ bq w=>CI ⟨bq,0,none⟩ (.pointer (some ⟨bp,0,none⟩)) (λ w=>k bq w) w) w) w':=λ hg S hk=>by
   subst hg;exact S.Ak λ bp w1 _ _ S1=>S1.Ak λ bq w2 _ _ S2=>S2.BA 0 rfl (aD:=#[.pointer (some ⟨bp,0,none⟩)]) (by simp) rfl λ w3 S3=>hk bq bp w3 (S3.pull 1 rfl)
  have snd:∀ {w'} {a' c'} {g:Bool} {bq:Nat} {k:World->Prop},g=Am q->ST w w' [AP a' c' cs,It.cells bq #[.pointer none] ty.AB,Z,Iz b7 q ai aw ag ao ci cw cg co]->(∀ bp w',ST w w' [Gj bp ⟨cs,q,[],Am q⟩ a' c' ai ci aw cw ag cg ao co none 0,PM bq bp ty.AB,AP a' c' cs,Z,Iz b7 q ai aw ag ao ci cw cg co]->k w') ->
    Cu #[.slice a' cs.length c',.slice ai q.it.length ci,.slice aw q.wh.length cw,.slice ag q.gr.length cg,.slice ao q.od.length co,.int .i64 q.lim,.slice none 0 0,.bool g] ty.Ie (λ bp w=>CI ⟨bq,0,none⟩ (.pointer (some ⟨bp,0,none⟩)) (λ w=>k w) w) w':=λ hg S hk=>by
   subst hg;exact S.Ak λ bp w1 _ _ S1=>S1.BA 2 rfl (aD:=#[.pointer (some ⟨bp,0,none⟩)]) (by simp) rfl λ w3 S3=>hk bp w3 ((S3.pull 2 rfl).pull 1 rfl)
  refine stQ S 1 rfl ⟨(Km S (hl.grown S.Ag) (by omega)).mono ?_,S.Ak λ tY oH _ _ eX=>⟨fD 2 eX rfl,(Km eX (hl.grown eX.Ag) (by omega)).mono ?_⟩⟩
  ·rintro _ jY ⟨_,rfl,a',c',rfl,cd⟩;refine⟨_,_,_,rfl,fD 2 cd rfl,Ao (λ h=>⟨fst (iR h) cd λ bq bp w' S'=>⟨bq,bp,a',c',rfl,S'⟩,cd.Ak λ qf fu _ _ dX=>⟨fD 3 dX rfl,snd (iR h) (dX.pull 1 rfl) λ bp w' S'=>⟨_,bp,a',c',rfl,S'⟩⟩⟩) (λ h=>⟨_,_,_,cd.cell 2 rfl rfl,fst (dG h) cd λ bq bp w' S'=>⟨bq,bp,a',c',rfl,S'⟩,cd.Ak λ qf fu _ _ dX=>⟨dX.cell 3 rfl rfl,fD 3 dX rfl,snd (dG h) (dX.pull 1 rfl) λ bp w' S'=>⟨_,bp,a',c',rfl,S'⟩⟩⟩)⟩
  ·rintro _ oI ⟨_,rfl,a',c',rfl,lA⟩;refine⟨_,_,_,rfl,fD 3 lA rfl,Ao (λ h=>snd (iR h) lA λ bp w' S'=>⟨_,bp,a',c',rfl,S'⟩) (λ h=>⟨_,_,_,lA.cell 3 rfl rfl,snd (dG h) lA λ bp w' S'=>⟨_,bp,a',c',rfl,S'⟩⟩)⟩
 rintro pp oJ ⟨bq,bp,a',c',aA,qO⟩;obtain rfl:pp=some ⟨bq,0,none⟩:=by simpa using aA
 refine qO.Ak λ fW pw _ _ lB=>lB.BA 0 rfl (aD:=#[.int .i64 0]) (by simp) rfl λ tL fA=>?_;refine⟨λ _ ms w'=>∃ m e out a6 c6,ms=[m]/\((e=0/\Ej cs q (Gk q)=.ok out)\/(e≠0/\Ej cs q (Gk q)=.error e))/\ST w w' [Gj bp ⟨cs,q,out,Am q⟩ a' c' ai ci aw cw ag cg ao co a6 c6,AP a6 c6 out,MD fW e ty.De,PM bq bp ty.AB,AP a' c' cs,It.obj m (.deferred (some [])),Z,Iz b7 q ai aw ag ao ci cw cg co],?_,?_⟩
 ·refine stQ fA 5 rfl (KB.mono ?_);rintro _ lf ⟨_,rfl,bx,rfl,qI⟩;have qP:=((fA.nil ty.Bt 3).join qI);refine⟨_,_,_,rfl,by kernel_rfl,λ rr aA bT hy=>?_⟩;have lj:=qP.range rr;obtain⟨L,hL⟩:∃ L,L=lf.heap.size+1:=⟨_,rfl⟩;obtain⟨m,hm⟩:∃ m,m=lf.heap.size:=⟨_,rfl⟩;rw [<- hL] at lj hy ⊢;rw [<- hm] at lj ⊢;have qQ:ST w ((lf.alloc (.deferred (some []))).alloc (.loop rr)) (Iz bx q ai aw ag ao ci cw cg co :: ([It.obj m (.deferred (some [])),Z,Iz b7 q ai aw ag ao ci cw cg co]++[Gj bp ⟨cs,q,[],Am q⟩ a' c' ai ci aw cw ag cg ao co none 0,AP none 0 [],It.obj L (.loop rr),MD fW 0 ty.De,PM bq bp ty.AB,AP a' c' cs])):=by
   exact (((((((((lj.pull 7 rfl).pull 7 rfl).pull 6 rfl).pull 3 rfl).pull 6 rfl).pull 7 rfl).pull 9 rfl).pull 9 rfl).pull 8 rfl).pull 9 rfl
  refine (O6 (I:=λ done B=>∃ out a6 c6,Ej cs q done=.ok out/\B=[Gj bp ⟨cs,q,out,Am q⟩ a' c' ai ci aw cw ag cg ao co a6 c6,AP a6 c6 out,It.obj L (.loop rr),MD fW 0 ty.De,PM bq bp ty.AB,AP a' c' cs])
   (J:=λ B=>∃ e out a6 c6,e≠0/\Ej cs q (Gk q)=.error e/\B=[Gj bp ⟨cs,q,out,Am q⟩ a' c' ai ci aw cw ag cg ao co a6 c6,AP a6 c6 out,It.obj L (.loop { rr with state:=.done,pending:=some (.exit 1) }),MD fW e ty.De,PM bq bp ty.AB,AP a' c' cs]) ?_ Q ⟨[],none,0,rfl,rfl⟩ qQ).mono ?_
  ·rintro done x rest vs HN _ w6 bA ⟨out,a6,c6,aF,rfl⟩ S ⟨gA,rfl,hx⟩;obtain⟨a4,cap4,_,rfl,_⟩:=DT.open hx;have S:=ST.mid (B:=[]) [Gj bp ⟨cs,q,out,Am q⟩ a' c' ai ci aw cw ag cg ao co a6 c6,AP a6 c6 out,It.obj L (.loop rr),MD fW 0 ty.De,PM bq bp ty.AB,AP a' c' cs] S;have sw:x∈Gk q:=by rw [bA];simp
   have gv:out.length<=1000:=by
    have h1:=Abc aF;have h2:=XM (FP h2).1;have:=congrArg List.length bA;simp only [Ajk,List.length_cons] at this;omega
   refine hy _ _ _ _ _ _ _ _ _ _ _ w6 (S.get 2 rfl) ?_;refine S.Vz λ tZ uV _ S=>S.YL 3 rfl λ uW S=>⟨_,S.cell 5 rfl rfl,_,S.cell 0 rfl rfl,_,S.cell 0 rfl rfl,_,S.cell 0 rfl rfl,_,S.cell 0 rfl rfl,_,S.cell 0 rfl rfl,_,S.cell 0 rfl rfl,_,S.cell 0 rfl rfl,_,_,_,S.cell 0 rfl rfl,?_⟩;have qR:=(S.pull 2 rfl).pull 2 rfl;refine (Oi E Q gE (S.rd 6 rfl) hn hq qR gv sw hx).mono ?_;rintro _ uX ⟨v,rfl,hv⟩;have dd:∀ e,CS cs q x=.error e->Ej cs q (Gk q)=.error e:=λ e he=>by rw [bA];exact Abb he aF
   cases bL:CS cs q x with
   | error e =>
    rw [bL] at hv;obtain⟨rfl,S57⟩:=hv;refine⟨_,rfl,S57.BA 4 rfl (aD:=#[.int .i64 e]) (by simp) rfl λ tN jd=>⟨_,jd.cell 4 rfl rfl,As (λ _=>jd.AaL 3 rfl λ w' S'=>⟨_,ST.Ns (B:=[]) [Gj bp ⟨cs,q,out,Am q⟩ a' c' ai ci aw cw ag cg ao co a6 c6,AP a6 c6 out,It.obj L (.loop { rr with state:=.done,pending:=some (.exit 1) }),MD fW e ty.De,PM bq bp ty.AB,AP a' c' cs] ((S'.pull 2 rfl).drop 1),.inr ⟨rfl,e,out,a6,c6,Sc bL,dd e bL,rfl⟩⟩) (λ h=>absurd h (Sc bL))⟩⟩
   | ok l =>
    rw [bL] at hv;obtain⟨a5,c5,rfl,S57⟩:=hv;refine⟨_,rfl,S57.BA 4 rfl (aD:=#[.int .i64 0]) (by simp) rfl λ tN jd=>⟨_,jd.cell 4 rfl rfl,As (λ h=>absurd rfl h) (λ _=>jd.Mi 3 aA bT rfl λ w' S'=>⟨_,ST.Ns (B:=[]) [Gj bp ⟨cs,q,out++l,Am q⟩ a' c' ai ci aw cw ag cg ao co a5 c5,AP a5 c5 (out++l),It.obj L (.loop rr),MD fW 0 ty.De,PM bq bp ty.AB,AP a' c' cs] ((S'.pull 2 rfl).drop 1),.inl ⟨rfl,out++l,a5,c5,X2 bL aF,rfl⟩⟩)⟩⟩
  ·rintro _ uY ⟨_,rfl,B',j7,⟨out,a6,c6,aF,rfl⟩ | ⟨e,out,a6,c6,he,aF,rfl⟩⟩
   ·have j7:=ST.mid (B:=[]) [Gj bp ⟨cs,q,out,Am q⟩ a' c' ai ci aw cw ag cg ao co a6 c6,AP a6 c6 out,It.obj L (.loop rr),MD fW 0 ty.De,PM bq bp ty.AB,AP a' c' cs] j7;exact⟨⟨_,rfl⟩,j7.Kq 2 aA bT rfl λ tO lk=>.inl ⟨rfl,m,0,out,a6,c6,rfl,.inl ⟨rfl,aF⟩,(lk.pull 2 rfl).drop 1⟩⟩
   ·have j7:=ST.mid (B:=[]) [Gj bp ⟨cs,q,out,Am q⟩ a' c' ai ci aw cw ag cg ao co a6 c6,AP a6 c6 out,It.obj L (.loop { rr with state:=.done,pending:=some (.exit 1) }),MD fW e ty.De,PM bq bp ty.AB,AP a' c' cs] j7;exact⟨⟨_,rfl⟩,j7.AaK 2 rfl λ tO lk=>.inr ⟨rfl,m,e,out,a6,c6,rfl,.inr ⟨he,aF⟩,(lk.pull 2 rfl).drop 1⟩⟩
 rintro _ uZ ⟨m,e,out,a6,c6,rfl,aF,eH⟩;rw [run_make h1 h2] at aF;rw [hZ] at eH;refine⟨_,eH.cell 2 rfl rfl,As (λ he=>eH.draw λ ub _ oS=>⟨_,oS.cell 2 rfl rfl,oS.Aex 6 rfl λ ud oT=>⟨oT.cell 2 rfl rfl,?_⟩⟩) (λ he=>⟨_,eH.cell 3 rfl rfl,_,_,_,eH.cell 0 rfl rfl,_,_,_,eH.cell 0 rfl rfl,_,_,_,eH.cell 0 rfl rfl,_,_,_,eH.cell 0 rfl rfl,_,_,_,eH.cell 0 rfl rfl,_,eH.cell 0 rfl rfl,_,_,_,eH.cell 0 rfl rfl,_,eH.cell 0 rfl rfl,eH.Aex 6 rfl λ ue qS=>?_⟩)⟩
 ·refine ST.shut (ms:=[m]) (oT.pull 5 rfl) λ tP cO=>⟨_,_,_,cO.cell 5 rfl rfl,_,_,_,cO.cell 5 rfl rfl,_,_,_,cO.cell 5 rfl rfl,_,_,_,cO.cell 5 rfl rfl,_,_,_,cO.cell 5 rfl rfl,_,cO.cell 5 rfl rfl,_,_,_,cO.cell 5 rfl rfl,_,cO.cell 5 rfl rfl,?_⟩;rcases aF with ⟨h,_⟩ | ⟨_,h⟩
  ·exact absurd h he
  ·exact Rr h cO.Ag
 ·refine ST.shut (ms:=[m]) (qS.pull 5 rfl) λ tP cO=>⟨_,_,_,cO.cell 5 rfl rfl,_,_,_,cO.cell 5 rfl rfl,_,_,_,cO.cell 5 rfl rfl,_,_,_,cO.cell 5 rfl rfl,_,_,_,cO.cell 5 rfl rfl,_,cO.cell 5 rfl rfl,_,_,_,cO.cell 5 rfl rfl,_,cO.cell 5 rfl rfl,?_⟩;rcases aF with ⟨_,h⟩ | ⟨h,_⟩
  ·have hp:Bi cs q=(⟨cs,q,out,Am q⟩,0):=by rw [Bi,h]
   unfold Aau;rw [hp];have gv:=Acf h;exact⟨a',c',ai,ci,aw,cw,ag,cg,ao,co,a6,c6,rfl,⟨cO.rd 4 rfl,hn,hq,Q.grown cO.Ag,cO.rd 1 rfl,by show out.length<=_;omega⟩,gE,cO.Ag⟩
  ·exact absurd he h
end
theorem Aga{l m:List Int}(h1:l.Pairwise (·<·))(h2:m.Pairwise (·<·))(hm:∀ x,x∈l↔x∈m):l=m:=by
 have n1:l.Nodup:=h1.imp λ h e=>by omega
 have n2:m.Nodup:=h2.imp λ h e=>by omega
 have hp:l.Perm m:=(List.perm_ext_iff_of_nodup n1 n2).2 hm;exact List.Perm.eq_of_pairwise (le:=λ a b=>a<b) (λ a b _ _ h1 h2=>absurd h2 (by omega)) h1 h2 hp
def Ac5(cs:List AA)(xs:List Ex)(l:List Int):Prop:=∀ n:Int,n∈l↔∃ c:Nat,n=c/\xs.any (ux cs c)=true
theorem Ky{cs:List AA}{q:Qu}{l:List Int}(h:Ac5 cs (RF q) l):Lib.compact (l.mergeSort λ x y=>decide (x<=y))=(Ef cs q).map λ n:Nat=>(n:Int):=by
 obtain⟨h1,h2⟩:=WG l;refine Aga h1 ?_ λ x=>?_
 ·rw [List.pairwise_map];exact (Ach cs q).imp λ h=>by omega
 ·rw [h2,h x,Ajb];constructor
  ·rintro⟨c,rfl,hc⟩;exact⟨c,Ll.2 hc,rfl⟩
  ·rintro⟨c,hc,rfl⟩;exact⟨c,rfl,Ll.1 hc⟩
section
variable {w:World}{p:Pl}{a0 ai aw ag ao a6:Option Addr}{c0 ci cw cg co c6:Nat}
theorem SU(E:Env w)(A:YD w p a0 ai aw ag ao a6)(hs:Fq p.q=true):Calls Tryz.prog f.ZP #[.agg ⟨LN p a0 c0 ai ci aw cw ag cg ao co a6 c6⟩] w (AD λ r w'=>AgF p.cs p.q w w' r):=by
 apply R.Of
 delta R.A R.Ab R.Ad R.Cf R.Ci R.Cn R.Cs R.E R.F R.G R.I R.J R.Ks R.Li R.Ls R.Lt R.N R.O R.Qi R.S R.Ae R.T R.W R.X;try dsimp only [R.Ps]
 refine (ST.start w).Ak λ b9 w1 _ _ S1=>S1.Ak λ dD w2 _ _ S2=>⟨_,_,_,S2.cell 1 rfl rfl,_,_,_,S2.cell 1 rfl rfl,_,_,_,S2.cell 1 rfl rfl,_,_,_,S2.cell 1 rfl rfl,_,S2.cell 1 rfl rfl,KB.mono ?_⟩;rintro _ w3 ⟨_,rfl,bx,rfl,P3⟩;have S3:ST w w3 [Iz bx p.q ai aw ag ao ci cw cg co,FC none 0 [],It.cells dD #[.slice none 0 0] ty.Fy,plI b9 p a0 c0 ai ci aw cw ag cg ao co a6 c6]:=(S2.nil ty.int 1).join P3;refine⟨_,_,_,rfl,by kernel_rfl,λ rr aA bT hy=>?_⟩;have S4:=S3.range rr;obtain⟨L,hL⟩:∃ L,L=w3.heap.size+1:=⟨_,rfl⟩;obtain⟨m,hm⟩:∃ m,m=w3.heap.size:=⟨_,rfl⟩;rw [<- hL] at S4 hy ⊢;rw [<- hm] at S4 ⊢;have S5:ST w ((w3.alloc (.deferred (some []))).alloc (.loop rr)) (Iz bx p.q ai aw ag ao ci cw cg co :: ([It.obj m (.deferred (some []))]++[FC none 0 [],It.cells dD #[.slice none 0 0] ty.Fy,It.obj L (.loop rr),plI b9 p a0 c0 ai ci aw cw ag cg ao co a6 c6])) :=
  (((((S4.pull 5 rfl).pull 1 rfl).pull 5 rfl).pull 5 rfl).pull 4 rfl).pull 5 rfl
 have cr:=XM hs;obtain⟨M,hM⟩:∃ M,M=1000000:=⟨_,rfl⟩;refine (O6 (I:=λ done B=>∃(l:List Int) (sa:Option Addr) (sc:Nat),Ac5 p.cs (done.map (·.2.2)) l/\l.length<=done.length*M/\B=[FC sa sc l,It.cells dD #[.slice sa l.length sc] ty.Fy,It.obj L (.loop rr),plI b9 p a0 c0 ai ci aw cw ag cg ao co a6 c6]) (J:=λ _=>False) ?_ A.q ⟨[],none,0,?_,by simp,rfl⟩ S5).mono ?_
 ·rintro done x rest vs HN _ w4 bA ⟨l,sa,sc,hP,ed,rfl⟩ S ⟨gA,rfl,hx⟩;obtain⟨a4,cap4,_,rfl,_⟩:=DT.open hx;have S:=ST.mid (B:=[]) [FC sa sc l,It.cells dD #[.slice sa l.length sc] ty.Fy,It.obj L (.loop rr),plI b9 p a0 c0 ai ci aw cw ag cg ao co a6 c6] S;have dZ:done.length<=21:=by
   have:=congrArg List.length bA;simp only [Ajk,List.length_cons] at this;omega
  have nN:done.length*M<=21000000:=by subst hM;omega
  refine hy _ _ _ _ _ _ _ _ _ _ _ w4 (S.get 2 rfl) ?_;refine S.Vz λ lF bQ _ S=>S.YL 3 rfl λ bG S=>⟨_,S.cell 0 rfl rfl,_,S.cell 0 rfl rfl,_,S.cell 0 rfl rfl,_,S.cell 0 rfl rfl,_,S.cell 0 rfl rfl,_,_,_,S.cell 0 rfl rfl,(Mo (E.grown S.Ag) (hx.grown S.Ag)).mono ?_⟩;rintro _ cB ⟨_,rfl,at_,ct,t,rfl,eB,uN,qG⟩;have au:=S.join qG;refine⟨_,_,_,rfl,?_⟩;refine Mv t.length (λ k cZ=>∃(l2:List Int) (sa:Option Addr) (sc:Nat),(∀ n:Int,n∈l2↔∃ c:Nat,n=c/\((done.map (·.2.2)).any (ux p.cs c) || (t.take k).any λ s=>decide (Hm p.cs s=some c))=true)/\l2.length<=done.length*M+k /\
   ST w cZ (Du at_ ct t :: It.cells lF ⟨.int .i64 x.1 :: .bool x.2.1 :: An x.2.2 a4 cap4⟩ ty.Ue :: FC sa sc l2 :: It.cells dD #[.slice sa l2.length sc] ty.Fy :: It.obj L (.loop { rr with state:=.busy }) :: plI b9 p a0 c0 ai ci aw cw ag cg ao co a6 c6 :: (HN++[]))) (by omega) ⟨l,sa,sc,λ n=>by rw [hP n];simp,ed,au⟩ λ I2 M2 k cZ hk h next=>?_
  obtain⟨l2,sa2,sc2,hm2,bC,cN⟩:=h;refine Aa (λ aB=>⟨⟨by omega,aB⟩,?_⟩) (λ aM=>?_)
  ·have bX:k<t.length:=by omega
   obtain⟨ps,e7,hc⟩:=Af2 (cN.rd 0 rfl) bX;subst e7;refine⟨_,by rw [Ajz,AjC];exact hc,_,_,_,cN.cell 5 rfl rfl,(JH (A.cs.grown cN.Ag) A.ncs _).mono ?_⟩;rintro _ cM ⟨_,rfl,rfl,iE⟩;have bn:=cN.grown iE;have gy:∀ j,((t.take (k+1)).any λ s=>decide (Hm p.cs s=some j))=(((t.take k).any λ s=>decide (Hm p.cs s=some j)) || decide (Hm p.cs t[k]=some j)):=λ j=>by
    rw [Akj bX,List.any_append];simp
   refine⟨_,rfl,?_⟩;cases hf:Hm p.cs t[k] with
   | none =>
    refine Aa (λ h=>absurd h (by show ¬ ((-1:Int)>=0);omega)) (λ _=>next _ bX ⟨l2,sa2,sc2,λ n=>?_,by omega,bn⟩);rw [hm2];simp only [gy,hf];simp
   | some j0 =>
    refine Aa (λ _=>⟨_,_,_,bn.cell 3 rfl rfl,bn.Ak λ oX cR _ fv bN=>?_⟩) (λ h=>absurd (show ((j0:Nat):Int)>=0 by omega) h);refine bN.app 3 rfl Ahw rfl (by omega) (by omega) (bN.rdc 0 rfl) (mm:=1) rfl (by intro u hu;simp at hu;rw [hu];rfl) (by omega) λ a' c' fR iF=>⟨_,_,_,rfl,iF.BA 4 rfl (aD:=#[.slice a' (l2.length+1) c']) (by simp) rfl λ fS iG=>next _ bX ⟨l2++[(j0:Int)],a',c',λ n=>?_,by simp;omega,?_⟩⟩
    ·rw [Akk,hm2,List.mem_singleton];simp only [gy,hf,Bool.or_eq_true,decide_eq_true_eq,Option.some.injEq];constructor
     ·rintro (⟨c,rfl,h | h⟩ | rfl)
      ·exact⟨c,rfl,.inl h⟩
      ·exact⟨c,rfl,.inr (.inl h)⟩
      ·exact⟨j0,rfl,.inr (.inr rfl)⟩
     ·rintro⟨c,rfl,h | h | h⟩
      ·exact .inl ⟨c,rfl,.inl h⟩
      ·exact .inl ⟨c,rfl,.inr h⟩
      ·exact .inr (by rw [h])
    ·have ey:=iG.drop 1;have e:(l2++[(j0:Int)]).length=l2.length+1:=by simp
     rw [e];unfold FC;rw [Akv,e];exact ey
  ·refine cN.Mi 4 aA bT rfl λ w' S'=>⟨_,ST.Ns (B:=[]) [FC sa2 sc2 l2,It.cells dD #[.slice sa2 l2.length sc2] ty.Fy,It.obj L (.loop rr),plI b9 p a0 c0 ai ci aw cw ag cg ao co a6 c6] (S'.drop 2),.inl ⟨rfl,l2,sa2,sc2,λ n=>?_,by rw [Ajk,List.length_singleton,Nat.add_mul,Nat.one_mul];omega,rfl⟩⟩;rw [Akm (by omega)] at hm2;rw [hm2];simp only [AeJ eB,Akv,List.any_append,List.map_cons,List.map_nil,List.any_cons,List.any_nil,Bool.or_false];rfl
 ·intro n;simp
 ·rintro _ jX ⟨_,rfl,B',ey,⟨l,sa,sc,hP,ed,rfl⟩ | h⟩;rotate_left
  ·cases h
  have nN:(Gk p.q).length*M<=21000000:=by subst hM;omega
  have ey:=ST.mid (B:=[]) [FC sa sc l,It.cells dD #[.slice sa l.length sc] ty.Fy,It.obj L (.loop rr),plI b9 p a0 c0 ai ci aw cw ag cg ao co a6 c6] ey;refine⟨⟨_,rfl⟩,ey.Kq 2 aA bT rfl λ iy gV=>⟨rfl,_,_,_,gV.cell 1 rfl rfl,(Aes gV 0 rfl (by omega)).mono ?_⟩⟩;rintro _ jY ⟨_,rfl,rfl,cd⟩;have dU:(l.mergeSort λ x y=>decide (x<=y)).length=l.length:=List.length_mergeSort ..;refine⟨rfl,_,_,_,cd.cell 1 rfl rfl,?_⟩;rw [<- dU];refine (WE cd 0 rfl (by omega)).mono ?_;rintro _ iC ⟨_,rfl,rfl,oP⟩;have jc:=oP.put 4 rfl (.deferred none);rw [Ahm] at hP;refine⟨_,_,_,rfl,oP.get 4 rfl,sa,sc,?_,?_,jc.Ag⟩
  ·rw [Ky hP,List.length_map]
  ·rw [<- Ky hP];exact jc.rd 0 rfl
end
structure LP(w:World)(cs:List AA)(a1:Option Addr)(q:Qu)(ai aw ag ao:Option Addr)(ci c1:Nat):Prop where
 E:Env w
 r:Rd w a1 (AO cs)
 n:cs.length<=9223372036854775807
 s:∀ c∈cs,c.1.size<=9223372036854775807
 Q:V4 w q ai aw ag ao
 c:q.it.length<=ci
 cc:cs.length<=c1
theorem LP.grown{w w':World}{cs:List AA}{a1:Option Addr}{q:Qu}{ai aw ag ao:Option Addr}{ci c1:Nat}(h:LP w cs a1 q ai aw ag ao ci c1)(B:Below w.heap.size w w'):LP w' cs a1 q ai aw ag ao ci c1 :=
 ⟨h.E.grown B,h.r.grown B,h.n,h.s,h.Q.grown B,h.c,h.cc⟩
theorem stP{w0 w:World}{H:List It}(S:ST w0 w H)(n:Nat){b:Nat}{p:Pl}{a0 ai aw ag ao a6:Option Addr}{c0 ci cw cg co c6:Nat}(hn:H[n]?=some (plI b p a0 c0 ai ci aw cw ag cg ao co a6 c6))
  {Q:Option Addr->Nat->Nat->Option Addr->Nat->Nat->Option Addr->Nat->Nat->Option Addr->Nat->Nat->Option Addr->Nat->Nat->Int->Option Addr->Nat->Nat->Bool->Prop}
  (hq:Q a0 p.cs.length c0 ai p.q.it.length ci aw p.q.wh.length cw ag p.q.gr.length cg ao p.q.od.length co p.q.lim a6 p.out.length c6 p.g) :
   ∃(r0:Option Addr) (kV kU:Nat),w.cell? ⟨b,0,none⟩=some (.slice r0 kV kU)/\∃(r1:Option Addr) (kX kW:Nat),w.cell? ⟨b,1,none⟩=some (.slice r1 kX kW)/\∃(r2:Option Addr) (kZ kY:Nat),w.cell? ⟨b,2,none⟩=some (.slice r2 kZ kY)/\∃(r3:Option Addr) (ke kb:Nat),w.cell? ⟨b,3,none⟩=some (.slice r3 ke kb) /\
   ∃(r4:Option Addr) (kg kf:Nat),w.cell? ⟨b,4,none⟩=some (.slice r4 kg kf)/\∃ r5:Int,w.cell? ⟨b,5,none⟩=some (.int .i64 r5)/\∃(r6:Option Addr) (ki kh:Nat),w.cell? ⟨b,6,none⟩=some (.slice r6 ki kh)/\∃ r7:Bool,w.cell? ⟨b,7,none⟩=some (.bool r7) /\
   Q r0 kV kU r1 kX kW r2 kZ kY r3 ke kb r4 kg kf r5 r6 ki kh r7 :=
 ⟨_,_,_,S.cell n hn rfl,_,_,_,S.cell n hn rfl,_,_,_,S.cell n hn rfl,_,_,_,S.cell n hn rfl,_,_,_,S.cell n hn rfl,_,S.cell n hn rfl,_,_,_,S.cell n hn rfl,_,S.cell n hn rfl,hq⟩
theorem O9{cs:List AA}(h:Ai cs=true):cs.length<=16:=by
 unfold Ai at h;simp only [Bool.and_eq_true,decide_eq_true_eq] at h;exact h.1.1.2
theorem TW{cs:List AA}{q:Qu}{e:Int}(h:DZ cs q=.error e):e≠0:=by
 by_cases h1:Ai cs=true
 ·by_cases h2:EE q=true
  ·rw [<- run_make h1 h2] at h;have:∀ {l:List J1},Ej cs q l=.error e->e≠0:=by
    intro l
    induction l with
    | nil=>intro h;cases h
    | cons p l ih =>
     intro h;unfold Ej at h;split at h
     ·rename_i hp;cases h;exact Sc hp
     ·split at h
      ·rename_i hr;cases h;exact ih hr
      ·cases h
   exact this h
  ·unfold DZ at h;rw [if_neg (by simp [h1]),if_pos (by simpa using h2)] at h;cases h;decide
 ·unfold DZ at h;rw [if_pos (by simpa using h1)] at h;cases h;decide
theorem ZD(cs:List AA)(q:Qu):(Ef cs q).length<=cs.length:=by
 have:=List.length_filter_le (Yp cs q) (List.range cs.length);rwa [List.length_range] at this
theorem AfQ{cs:List AA}{q:Qu}(h:(Bi cs q).2=0):∃ out,DZ cs q=.ok out/\(Bi cs q)=(⟨cs,q,out,Am q⟩,0):=by
 cases hm:DZ cs q with
 | ok out=>exact⟨out,rfl,by rw [Bi,hm]⟩
 | error e =>
  rw [Bi,hm] at h;exact absurd h (TW hm)
section
variable {w:World}{cs:List AA}{a1:Option Addr}{c1:Nat}{q:Qu}{ai aw ag ao:Option Addr}{ci cw cg co:Nat}
end
theorem AaB(u v:AA):((u.1==v.1) && ((u.2.1==v.2.1) && ((u.2.2==v.2.2) && true)))=decide (u=v):=by
 obtain⟨a,b,s⟩:=u;obtain⟨c,d,t⟩:=v;rw [Bool.eq_iff_iff];simp [JS]
section
variable {w:World}{a a2:Option Addr}{c c2:Nat}
theorem Tc{ls ms:List AA}(hl:Rd w a (AO ls))(hm:Rd w a2 (AO ms))(hn:ls.length<=9223372036854775807) :
  Calls Tryz.prog f.ZZ #[.slice a ls.length c,.slice a2 ms.length c2] w (AD λ v w'=>Below w.heap.size w w'/\v=.bool (decide (ls=ms))):=by
 apply R.Oo
 delta R.D R.F R.G R.I R.Lb R.Li R.Lt R.Qi R.W R.X;try dsimp only [R.Ps]
 refine As (λ h=>⟨.refl _ _,?_⟩) (λ hlen=>?_)
 ·congr 1;rw [eq_comm,decide_eq_false_iff_not];rintro rfl;exact h rfl
 have cL:ls.length=ms.length:=by omega
 refine⟨λ s w1=>∃ i:Nat,i<=ls.length/\s=[.int .i64 (i:Int)]/\Below w.heap.size w w1/\ls.take i=ms.take i,λ s _=>match s with
   | [.int _ i]=>ls.length-i.toNat
   | _=>0,⟨0,by omega,rfl,.refl _ _,rfl⟩,?_⟩
 rintro _ w1 ⟨i,hi,hs,B1,hT⟩;cases hs;refine Aa (λ aB=>?_) (λ aM=>⟨B1,?_⟩)
 ·have h1:i<ls.length:=by omega
  have h2:i<ms.length:=by omega
  refine (SH.start (λ _=>False) w1).Adt λ w2 B2 _=>⟨⟨by omega,aB⟩,?_⟩;have C2:=Ac B1 B2;obtain⟨p1,rfl,c0,c1,c2⟩:=Fh (hl.grown C2) h1;obtain⟨p2,rfl,d0,d1,d2⟩:=Fh (hm.grown C2) h2;refine⟨⟨by omega,by omega⟩,_,by rw [Ajz];exact c0,_,by rw [Ajz];exact c1,_,by rw [Ajz];exact c2,_,by rw [Ajz];exact d0,_,by rw [Ajz];exact d1,_,by rw [Ajz];exact d2,?_⟩;rw [AaB];refine Ap (Aa (λ he=>?_) (λ he=>⟨C2,?_⟩))
  ·rw [Ah (by omega)];refine⟨⟨i+1,by omega,rfl,C2,?_⟩,?_⟩
   ·rw [Akj h1,Akj h2,hT,he]
   ·simp only [Ajz];omega
  ·congr 1;rw [eq_comm,decide_eq_false_iff_not];rintro rfl;exact he rfl
 ·congr 1;rw [eq_comm,decide_eq_true_eq];rw [Akm (by omega),Akm (by omega)] at hT;exact hT
end
section
variable {w0 w:World}{H:List It}{a a2:Option Addr}{c c2:Nat}
theorem PV{ls ms:List AA}(hl:Rd w a (AO ls))(hm:Rd w a2 (AO ms))(hn:ls.length<=9223372036854775807) :
  Calls Tryz.prog f.DM #[.slice a ls.length c,.slice a2 ms.length c2] w (AD λ v w'=>Below w.heap.size w w'/\v=.bool (decide (ls=ms))):=by
 apply R.CN
 delta R.D R.F R.G R.I R.Lb R.Li R.Lt R.Qi R.W R.X;try dsimp only [R.Ps]
 refine As (λ h=>⟨.refl _ _,?_⟩) (λ hlen=>?_)
 ·congr 1;rw [eq_comm,decide_eq_false_iff_not];rintro rfl;exact h rfl
 have cL:ls.length=ms.length:=by omega
 refine⟨λ s w1=>∃ i:Nat,i<=ls.length/\s=[.int .i64 (i:Int)]/\Below w.heap.size w w1/\ls.take i=ms.take i,λ s _=>match s with
   | [.int _ i]=>ls.length-i.toNat
   | _=>0,⟨0,by omega,rfl,.refl _ _,rfl⟩,?_⟩
 rintro _ w1 ⟨i,hi,hs,B1,hT⟩;cases hs;refine Aa (λ aB=>?_) (λ aM=>⟨B1,?_⟩)
 ·have h1:i<ls.length:=by omega
  have h2:i<ms.length:=by omega
  refine (SH.start (λ _=>False) w1).Adt λ w2 B2 _=>⟨⟨by omega,aB⟩,?_⟩;have C2:=Ac B1 B2;obtain⟨p1,rfl,c0,c1,c2⟩:=Fh (hl.grown C2) h1;obtain⟨p2,rfl,d0,d1,d2⟩:=Fh (hm.grown C2) h2;refine⟨⟨by omega,by omega⟩,_,by rw [Ajz];exact c0,_,by rw [Ajz];exact c1,_,by rw [Ajz];exact c2,_,by rw [Ajz];exact d0,_,by rw [Ajz];exact d1,_,by rw [Ajz];exact d2,?_⟩;rw [AaB];refine Ap (Aa (λ he=>?_) (λ he=>⟨C2,?_⟩))
  ·rw [Ah (by omega)];refine⟨⟨i+1,by omega,rfl,C2,?_⟩,?_⟩
   ·rw [Akj h1,Akj h2,hT,he]
   ·simp only [Ajz];omega
  ·congr 1;rw [eq_comm,decide_eq_false_iff_not];rintro rfl;exact he rfl
 ·congr 1;rw [eq_comm,decide_eq_true_eq];rw [Akm (by omega),Akm (by omega)] at hT;exact hT
end
abbrev Sg:=Option (Addr × List AA)
def sgV(s:Sg):Value:=.pointer (s.map (·.1))
def YG(w:World)(s:Sg):Prop:=∀ g cs,s=some (g,cs)->∃ p aH n,w.cell? g=some (.pointer (some p))/\GW w p cs aH n
theorem YG.grown{w w':World}{s:Sg}(h:YG w s)(B:Below w.heap.size w w'):YG w' s:=λ g cs hs=>by
 obtain⟨p,aH,n,h1,h2⟩:=h g cs hs;exact⟨p,aH,n,(Aq.AQ (F:=λ _=>False) B).cell h1 (by simp),h2.grown B⟩
def Th(cs:List AA)(s:Sg):Bool:=match s with | none=>false | some g=>decide (g.2=cs)
theorem Aik{w:World}{a:Option Addr}{sg:List Sg}(h:Rd w a (sg.map sgV)){i:Nat}(hi:i<sg.length):∃ p,a=some p/\w.cell? (p.add (i*1))=some (sgV sg[i]):=by
 obtain⟨p,hp,hc⟩:=h i (sgV sg[i]) (by rw [List.getElem?_map,Ajv hi];rfl);exact⟨p,hp,by rw [AjC];exact hc⟩
def KP(cs:List AA)(q:Qu):List Nat:=if (Ef cs q).length=0 then [0] else Ef cs q
def atI(l:List Nat):List Value:=(l.map λ n:Nat=>(n:Int)).map (Value.int .i64)
def Iw(cs:List AA)(l:List Nat):List AA:=l.map λ i=>cs.getD i (E0,0,false)
def qyI(b:Nat)(p:Pl)(a0:Option Addr)(c0:Nat)(ai:Option Addr)(ci:Nat)(aw:Option Addr)(cw:Nat)(ag:Option Addr)(cg:Nat)(ao:Option Addr)(co:Nat)(a6:Option Addr)(c6:Nat)(na:Option Addr)(nl nc:Nat)(ta:Option Addr)(tl tc:Nat):It:=It.cells b ⟨LN p a0 c0 ai ci aw cw ag cg ao co a6 c6++[.slice na nl nc,.slice ta tl tc]⟩ ty.Zk
def Aiy(cs:List AA)(q:Qu)(out:List AA)(b:Nat)(w0 w:World):Prop:=∃ a0 c0 ai ci aw cw ag cg ao co a6 c6 na nc ta tc,ST w0 w [qyI b ⟨cs,q,out,Am q⟩ a0 c0 ai ci aw cw ag cg ao co a6 c6 na (KP cs q).length nc ta (KP cs q).length tc] /\
 YD w ⟨cs,q,out,Am q⟩ a0 ai aw ag ao a6/\q.it.length<=ci/\Rd w na (AO (Iw cs (KP cs q)))/\Rd w ta (atI (KP cs q))
def QyV(cs:List AA)(q:Qu)(sg:List Sg)(w w':World)(r:Value):Prop :=
 (∃ e,DZ cs q=.error e/\e≠0/\r=.tuple #[.pointer none,.int .i64 e]/\Below w.heap.size w w') \/
 (∃ out,DZ cs q=.ok out/\sg.all (Th cs)=false/\r=.tuple #[.pointer none,.int .i64 2]/\Below w.heap.size w w') \/
 (∃ out b,DZ cs q=.ok out/\sg.all (Th cs)=true/\r=.tuple #[.pointer (some ⟨b,0,none⟩),.int .i64 0]/\Aiy cs q out b w w')
theorem AgM{cs:List AA}{q:Qu}(h:1<=cs.length):∀ i∈KP cs q,i<cs.length:=by
 intro i hi;unfold KP at hi;split at hi
 ·simp only [List.mem_singleton] at hi;omega
 ·obtain⟨x,_,_,s,_,hs⟩:=Ur.1 (Ll.1 hi);exact (QX hs).1
theorem AgL{w:World}{a:Option Addr}{l:List Nat}(h:Rd w a (atI l)){i:Nat}(hi:i<l.length):∃ p,a=some p/\w.cell? (p.add (i*1))=some (.int .i64 (l[i]:Int)):=by
 obtain⟨p,hp,hc⟩:=h i (.int .i64 (l[i]:Int)) (by simp [atI,hi]);exact⟨p,hp,by rw [AjC];exact hc⟩
section
variable {w:World}{cs:List AA}{q:Qu}{a1 ai aw ag ao x6 sa:Option Addr}{c1 ci cw cg co l6 ja sc:Nat}{g7:Bool}{sg:List Sg}
theorem HT(A:LP w cs a1 q ai aw ag ao ci c1)(hs:Rd w sa (sg.map sgV))(eS:sg.length<=9223372036854775807)(hg:∀ s∈sg,YG w s) :
  Calls Tryz.prog f.NV #[.agg #[.slice a1 cs.length c1,.slice ai q.it.length ci,.slice aw q.wh.length cw,.slice ag q.gr.length cg,.slice ao q.od.length co,.int .i64 q.lim,.slice x6 l6 ja,.bool g7],.slice sa sg.length sc] w (AD λ r w'=>QyV cs q sg w w' r):=by
 apply R.Pt
 delta R.A R.Ab R.Ad R.EM R.Cb R.Cs R.D R.E R.F R.G R.H R.I R.J R.Ks R.Lb R.Li R.Lp R.Ls R.Lt R.N R.O R.P R.Qi R.S R.Ae R.T R.W R.X R.Z;try dsimp only [R.Ps]
 refine (ST.start w).Ak λ b0 w1 _ _ S1=>?_;refine⟨_,_,_,S1.cell 0 rfl rfl,_,_,_,S1.cell 0 rfl rfl,_,_,_,S1.cell 0 rfl rfl,_,_,_,S1.cell 0 rfl rfl,_,_,_,S1.cell 0 rfl rfl,_,S1.cell 0 rfl rfl,?_⟩;have A1:=A.grown S1.Ag;refine (MU A1.E A1.r A1.n A1.s A1.Q A1.c).mono ?_;rintro _ w2 ⟨_,rfl,a0,c0,bi,di,bw,dw,bg,dg,bo,d_o,a6,c6,rfl,P2,dN,B2⟩;have S2:=S1.grown B2;refine⟨_,_,_,_,_,_,_,_,_,_,_,_,_,_,_,_,_,_,_,_,_,rfl,(ST.start w2).Ak λ b3 w3 _ _ T3=>T3.Aex 0 rfl λ w4 T4=>?_⟩;have T4:ST w2 w4 [plI b3 (Bi cs q).1 a0 c0 bi di bw dw bg dg bo d_o a6 c6]:=T4;cases hm:DZ cs q with
 | error e =>
  have he:=TW hm;have h2:(Bi cs q).2=e:=by rw [Bi,hm]
  exact As (λ _=>.inl ⟨e,hm,he,by rw [h2],(S2.join T4).Ag⟩) (λ h=>absurd (h2 ▸ h) he)
 | ok out =>
  have hp:Bi cs q=(⟨cs,q,out,Am q⟩,0):=by rw [Bi,hm]
  rw [hp] at T4 P2 dN;rw [hp];obtain⟨h1,h2,_⟩:=Rq hm;have nQ:=O9 h1;have jK:1<=cs.length:=(CL h1).1;refine As (λ h=>absurd rfl h) (λ _=>?_);refine Mv sg.length (λ i w5=>(sg.take i).all (Th cs)=true/\ST w2 w5 [plI b3 ⟨cs,q,out,Am q⟩ a0 c0 bi di bw dw bg dg bo d_o a6 c6]) eS ⟨rfl,T4⟩ λ I M i w5 hi h next=>?_;obtain⟨aC,T5⟩:=h;have S5:=S2.join T5;refine Aa (λ aB=>⟨⟨by omega,aB⟩,?_⟩) (λ aM=>?_)
  ·have aE:i<sg.length:=by omega
   obtain⟨p,rfl,hc⟩:=Aik (hs.grown S5.Ag) aE;have pI:=(hg _ (Akg aE)).grown S5.Ag;have bad:Th cs sg[i]=false->∀ {w'},Below w.heap.size w w'->QyV cs q sg w w' (.tuple #[.pointer none,.int .i64 2]):=by
    intro h w' B;refine .inr (.inl ⟨out,hm,?_,rfl,B⟩);rw [Bool.eq_false_iff];intro hh;rw [List.all_eq_true.1 hh _ (Akg aE)] at h;cases h
   cases hx:sg[i] with
   | none =>
    rw [hx] at hc bad;exact⟨none,by rw [Ajz];exact hc,T5.draw λ w6 B6 T6=>AZ (bad rfl (S2.join T6).Ag)⟩
   | some gc =>
    obtain⟨g,aD⟩:=gc;rw [hx] at hc bad pI;obtain⟨p2,aH,n,gH,hCA⟩:=pI g aD rfl;refine⟨some g,by rw [Ajz];exact hc,T5.draw λ w6 B6 T6=>AN ⟨_,_,_,(S2.join T6).cell 1 rfl rfl,(AeQ ((Aq.AQ (F:=λ _=>False) B6).cell gH (by simp)) (hCA.grown B6)).mono ?_⟩⟩;rintro _ w7 ⟨_,rfl,a7,c7,rfl,P7⟩;have T7:=T6.join P7;refine⟨_,_,_,rfl,(S2.join T7).cell 2 rfl rfl,(PV (T7.rd 0 rfl) (A.r.grown (S2.join T7).Ag) (by have:=O9 hCA.right;omega)).mono ?_⟩;rintro _ w8 ⟨_,rfl,B8,rfl⟩;refine⟨_,rfl,Ap (Aa (λ he=>next _ aE ⟨?_,(T7.grown B8).drop 1⟩) (λ aV=>bad (by simp [Th,aV]) (S2.join (T7.grown B8)).Ag))⟩;rw [Akj aE,List.all_append,aC,hx];simp [Th,he]
  ·rw [Akm (by omega)] at aC;refine T5.draw λ w6 _ T6=>stP T6 0 rfl (stP T6 0 rfl ((SU (A.E.grown (S2.join T6).Ag) (P2.grown T6.Ag) (FP h2).1).mono ?_));rintro _ w7 ⟨_,rfl,an,cn,rfl,sI,B7⟩;have T7:=T6.grown B7;refine⟨_,_,_,rfl,⟨T7.cell 0 rfl rfl,T7.cell 0 rfl rfl,T7.cell 0 rfl rfl,T7.cell 0 rfl rfl,T7.cell 0 rfl rfl,T7.cell 0 rfl rfl,T7.cell 0 rfl rfl,T7.cell 0 rfl rfl⟩,(ST.start w7).Ak λ b8 w8 _ B8 U8=>?_⟩;have U8:ST w7 w8 [qyI b8 ⟨cs,q,out,Am q⟩ a0 c0 bi di bw dw bg dg bo d_o a6 c6 none 0 0 an (Ef cs q).length cn]:=U8;refine⟨λ _ w9=>∃ ta tc H',ST w7 w9 (qyI b8 ⟨cs,q,out,Am q⟩ a0 c0 bi di bw dw bg dg bo d_o a6 c6 none 0 0 ta (KP cs q).length tc :: H')/\∀ w' K,ST w7 w' (K++H')->Rd w' ta (atI (KP cs q)),?_,?_⟩
   ·refine⟨_,_,_,U8.cell 0 rfl rfl,Aj (λ h0=>?_) (λ h0=>?_)⟩
    ·have ea:KP cs q=[0]:=by unfold KP;rw [if_pos (by omega)]
     rw [ea];refine U8.Ak λ b9 w9 _ _ U9=>U9.BA 1 rfl (aD:=⟨LN ⟨cs,q,out,Am q⟩ a0 c0 bi di bw dw bg dg bo d_o a6 c6++[.slice none 0 0,.slice (some ⟨b9,0,none⟩) 1 1]⟩) (by simp [LN]) rfl λ dJ fV=>⟨some ⟨b9,0,none⟩,1,[It.cells b9 #[.int .i64 0] ty.int],fV.pull 1 rfl,λ w' K V=>?_⟩;exact Rd.Av (V.ok (It.cells b9 #[.int .i64 0] ty.int) (by simp))
    ·have ea:KP cs q=Ef cs q:=by unfold KP;rw [if_neg (by omega)]
     rw [ea];exact⟨an,cn,[],U8,λ w' K V=>sI.grown V.Ag⟩
   ·rintro w9 ⟨ta,tc,H',U9,pb⟩;have aB:=AgM (q:=q) jK;have fX:(KP cs q).length<=1000:=by
     unfold KP;have:=ZD cs q;split
     ·simp
     ·omega
    refine⟨_,_,_,U9.cell 0 rfl rfl,Mv (KP cs q).length (λ i dJ=>∃ na nc,ST w7 dJ (AP na nc (Iw cs ((KP cs q).take i)) :: qyI b8 ⟨cs,q,out,Am q⟩ a0 c0 bi di bw dw bg dg bo d_o a6 c6 na (Iw cs ((KP cs q).take i)).length nc ta (KP cs q).length tc :: H')) (by omega) ⟨none,0,U9.nil _ _⟩ λ I M i dJ hi h next=>?_⟩;obtain⟨na,nc,fV⟩:=h;refine Aa (λ gK=>⟨⟨by omega,gK⟩,?_⟩) (λ aM=>?_)
    ·have aE:i<(KP cs q).length:=by omega
     obtain⟨p,rfl,hc⟩:=AgL (pb _ [_,_] fV) aE;have bC:=aB _ (Akg aE);refine⟨_,by rw [Ajz];exact hc,fV.draw λ bm dC lC=>⟨_,_,_,lC.cell 1 rfl rfl,_,_,_,(T7.grown lC.Ag).cell 0 rfl rfl,⟨by omega,by show ((KP cs q)[i]:Int)<(cs.length:Int);omega⟩,?_⟩⟩;obtain⟨pc,hpc,k0,k1,k2⟩:=Fh (P2.cs.grown (T7.grown lC.Ag).Ag) bC;subst hpc;refine⟨_,by rw [Ajz];exact k0,_,by rw [Ajz];exact k1,_,by rw [Ajz];exact k2,lC.Ak λ cU cI _ j4 lp=>⟨lp.cell 2 rfl rfl,lp.app 1 rfl Yj rfl (by omega) (by omega) (lp.rdc 0 rfl) (mm:=1) rfl (by intro u hu;simp at hu;rcases hu with rfl | rfl | rfl <;> rfl) (by simp [Iw];omega) λ a' c' bQ qT=>⟨_,_,_,rfl,qT.BA 2 rfl (aD:=⟨LN ⟨cs,q,out,Am q⟩ (some pc) c0 bi di bw dw bg dg bo d_o a6 c6++[.slice a' ((Iw cs ((KP cs q).take i)).length+1) c',.slice (some p) (KP cs q).length tc]⟩) (by simp [LN]) rfl λ bG qU=>next _ aE ⟨a',c',?_⟩⟩⟩⟩;have e1:Iw cs ((KP cs q).take (i+1))=Iw cs ((KP cs q).take i)++[cs[(KP cs q)[i]]]:=by
      unfold Iw;rw [Akj aE,Akv];simp [bC]
     have qV:=qU.drop 1;rw [e1];unfold AP;rw [Ajk,List.length_singleton,show AO (Iw cs ((KP cs q).take i)++[cs[(KP cs q)[i]]])=AO (Iw cs ((KP cs q).take i))++Hi cs[(KP cs q)[i]] by simp [AO]];exact qV
    ·rw [Akm (by omega)] at fV;have aV:(Iw cs (KP cs q)).length=(KP cs q).length:=by simp [Iw]
     have Bw:Below w.heap.size w w7:=(S2.join T7).Ag;refine .inr (.inr ⟨out,b8,hm,aC,rfl,a0,c0,bi,di,bw,dw,bg,dg,bo,d_o,a6,c6,na,nc,ta,tc,?_,P2.grown (T7.grown fV.Ag).Ag,dN,fV.rd 0 rfl,pb _ [_,_] fV⟩);rw [aV] at fV;exact (((fV.pull 1 rfl).before Bw).one)
end
end Go.Proofs.YtegnhfeclchlmaaGreatDoor
namespace Go.Dn
set_option maxRecDepth 100000
set_option linter.unusedVariables false
open Go.RowKit (Below)
open Go.Maps (has Tidy Keyed)
def AiV(v:Value):Option (DataW Unit × List MemPlace) :=
 match v with
 | .pointer none=>some (.lit (.int .i64 0),[])
 | .pointer (some ⟨b,0,none⟩)=>some (.lit (.int .i64 ((b:Int)+1)),[])
 | _=>none
def AiW(o:Option Nat):Int:=match o with | none=>0 | some b=>(b:Int)+1
def UB(P:Program)(k:TypeId)(w:World)(b n:Nat)(g:List UInt8->Option Nat):Prop :=
 ∃ D:DataW Unit,w.ownsMap P k AiV b n D/\Tidy D/\∀ x,has D (.string x)=(g x).isSome/\D.atKey (.string x) (.lit (.int .i64 0))=.lit (.int .i64 (AiW (g x)))
section
variable {P:Program}{k e t:TypeId}{w:World}{b n:Nat}{g:List UInt8->Option Nat}
theorem UB.same(h:UB P k w b n g){w':World}(fG:w'.heap[b]?=w.heap[b]?):UB P k w' b n g:=by
 obtain⟨D,⟨es,clock,hb,r⟩,h2⟩:=h;exact⟨D,⟨es,clock,fG.trans hb,r⟩,h2⟩
theorem UB.lt(h:UB P k w b n g):b<w.heap.size:=by
 obtain⟨D,h,_⟩:=h;exact h.lt
theorem UB.made(w:World):UB P k (w.alloc (.map #[] 0)) w.heap.size 0 (λ _=>none):=⟨_,World.ownsMap_made _ _ _ _,Maps.tidy_empty,λ x=>⟨rfl,rfl⟩⟩
end
/-! ## Among a function's own things -/
def It.Aia(P:Program)(k:TypeId)(b n:Nat)(g:List UInt8->Option Nat):It where
 Bu:=some b
 ok:=λ w=>UB P k w b n g
 st:=λ w w' h h0=>h0.same (h b rfl)
 lt:=λ w h k hk=>by cases hk;exact h.lt
section
variable {P:Program}{k e t:TypeId}{w0 w:World}{H:List It}{b n:Nat}{g:List UInt8->Option Nat}
theorem ST.Ahg(S:ST w0 w H)(t:TypeId){f:Value->World->Prop}(hf:∀ b w',ST w0 w' (It.Aia P k b 0 (λ _=>none) :: H)->f (.map (some b)) w')(aF:(Instr.makeMap t none).run P w=.ok (.map (some w.heap.size)) (w.alloc (.map #[] 0))):Dc P (Instr.makeMap t none) f w:=by
 unfold Dc;rw [aF];exact hf _ _ (S.add ((Below.refl _ w).alloc (Nat.le_refl _) _) (It.Aia P k w.heap.size 0 _) (UB.made w) (λ k hk=>by cases hk;exact Nat.le_refl _))
end
end Go.Dn
namespace Go.Proofs.YtegnhfeclchlmaaGreatDoor
open _root_.Int renaming toNat_natCast -> Ajz
open _root_.Nat renaming zero_add -> Ajp
set_option maxRecDepth 100000
open Go.Dn Go.Proofs
open Go.RowKit (Below)
set_option linter.unusedVariables false
/-! ### gathering without rows -/
theorem Agx:LO Tryz.prog ty.Fy=some (ty.int,1,8,.int .i64 0):=by kernel_rfl
theorem Q2(w:World):(Instr.makeMap ty.H9 none).run Tryz.prog w=.ok (.map (some w.heap.size)) (w.alloc (.map #[] 0)):=by
 simp [Instr.makeMap,go_sem,Result.andThen]
section
variable {w w0:World}{H:List It}{a:Option Addr}{c:Nat}
theorem YI{l:List Int}(hl:Rd w a (l.map MB))(hn:l.length<=9223372036854775807){fn:FuncId}{fi ca:Array Value}(aY:enters Tryz.prog fn=true)(p:Int->Bool)(hf:∀ w' x,Below w.heap.size w w'->Calls Tryz.prog fn ⟨fi.toList++[.int .i64 x]++ca.toList⟩ w' (AD λ r aR=>r=.bool (p x)/\aR=w')) :
  Calls Tryz.prog f.FT #[.slice a l.length c,.func (.func fn) fi ca] w (AD λ r w'=>∃ y:Bool,r=.bool y/\w'=w):=by
 apply R.D2
 delta R.Ci R.G R.S;try dsimp only [R.Ps]
 have h:Calls Tryz.prog f.Ha #[.slice a l.length c,.func (.func fn) fi ca] w (AD λ r w'=>∃ y:Int,r=.int .i64 y/\w'=w):=by
  apply R.EI
  delta R.Ad R.F R.G R.I R.Li R.Qi R.W R.X;try dsimp only [R.Ps]
  refine Mv l.length (λ i w1=>w1=w) hn rfl λ I M i w1 hi h next=>?_;subst h;refine Aa (λ aB=>⟨⟨by omega,aB⟩,?_⟩) (λ aM=>⟨_,rfl,rfl⟩);have aE:i<l.length:=by omega
  obtain⟨q,rfl,hc⟩:=ints_at hl aE;refine⟨_,by rw [Ajz,Nat.mul_one];exact hc,?_⟩;rw [aY];refine (hf w1 _ (.refl _ _)).mono ?_;rintro _ w2 ⟨_,rfl,rfl,rfl⟩;exact⟨_,rfl,Ao (λ _=>⟨_,rfl,rfl⟩) (λ _=>next _ aE rfl)⟩
 refine h.mono ?_;rintro _ w1 ⟨_,rfl,y,rfl,rfl⟩;exact⟨_,rfl,_,rfl,rfl⟩
theorem SD(S:ST w0 w H){l:List Int}(h:Rd w a (l.map MB))(hl:l.length<=1000):Calls Tryz.prog f.JN #[.slice a l.length c] w (AD λ v w'=>∃ a' c',v=.slice a' l.length c'/\ST w0 w' (It.row ty.int 1 a' l.length c' (l.map MB) :: H)):=by
 apply R.Gx
 delta R.F R.J R.Ks R.N R.O R.S;try dsimp only [R.Ps]
 cases a with
 | none =>
  have:l=[]:=by
   cases l with
   | nil=>rfl
   | cons x l =>
    obtain⟨p,hp,_⟩:=h 0 (MB x) (by simp);cases hp
  subst this;exact AZ ⟨none,0,rfl,S.nil _ _⟩
 | some q =>
  refine AN (S.empty (sz:=1) λ b2 w1 B1 S=>?_);refine S.app 0 rfl Agx rfl (by omega) (by omega) (h.grown B1) (mm:=l.length) (by simp) (by intro u hu;obtain⟨x,_,rfl⟩:=List.mem_map.1 hu;rfl) (by omega) λ a' c' w' S=>⟨_,_,_,rfl,a',c',by rw [Ajp],?_⟩;simp only [Ajp,List.nil_append] at S;exact S
theorem UP(S:ST w0 w H){wx:World}{l:List Ex}{rs:List Value}(h:Rd w a rs)(hC:Ax (XC wx) l rs)(hl:l.length<=1000):Calls Tryz.prog f.EG #[.slice a l.length c] w (AD λ v w'=>∃ a' c' po,v=.slice a' l.length c'/\ST w0 w' (QV a' l.length c' po :: H)):=by
 apply R.Dw
 delta R.F R.J R.Ks R.N R.O R.S;try dsimp only [R.Ps]
 have jN:rs.length=l.length*6:=hC.len λ x c h=>DT.len h;cases a with
 | none =>
  have:l=[]:=by
   cases l with
   | nil=>rfl
   | cons x l =>
    obtain⟨p,_,_,hp,_⟩:=Vh h hC (i:=0) (by simp);cases hp
  subst this;exact AZ ⟨none,0,[],rfl,S.nil _ _⟩
 | some q =>
  refine AN (S.empty (sz:=6) λ b2 w1 B1 S=>?_);refine S.app 0 rfl Aac Aam (by omega) (by omega) (h.grown B1) (mm:=l.length) jN (Qa (F2.1 hC)) (by omega) λ a' c' w' S=>⟨_,_,_,rfl,a',c',rs,by rw [Ajp],?_⟩;simp only [Ajp,List.nil_append] at S;exact S
def Ada(p:Option Addr)(H:List It):Prop:=p=none\/∃ b a' l c' m,p=some ⟨b,0,none⟩/\It.cells b #[.slice a' l c',.map m,.slice none 0 0] ty.Xb∈H
theorem Ada.mono{p:Option Addr}{H H':List It}(h:Ada p H)(hs:∀ x∈H,x∈H'):Ada p H':=by
 rcases h with h | ⟨b,a',l,c',m,h1,h2⟩
 ·exact .inl h
 ·exact .inr ⟨b,a',l,c',m,h1,hs _ h2⟩
theorem Vo(S:ST w0 w H){l:List Int}(hl:Rd w a (l.map MB)):Calls Tryz.prog f.Ab2 #[.slice a l.length c] w (AD λ r w'=>∃ p e H',r=.tuple #[.pointer p,.int .i64 e]/\ST w0 w' (H'++H)/\Ada p H'):=by
 apply R.PB
 delta R.Cb R.Cs R.F R.H R.I R.J R.M R.N R.O R.P R.Rm R.S;try dsimp only [R.Ps]
 refine Aa (λ h=>⟨none,_,[],rfl,S,.inl rfl⟩) (λ lI=>(YI hl (by omega) (by kernel_rfl) (λ x=>if x<1 then true else decide (x > 5)) λ w' x _=>?_).mono ?_)
 ·apply R.La
  delta R.F R.G;try dsimp only [R.Ps]
  exact Aa (λ h=>⟨by rw [if_pos h],rfl⟩) (λ h=>⟨by rw [if_neg h],rfl⟩)
 ·rintro _ w1 ⟨_,rfl,y,rfl,rfl⟩;refine⟨_,rfl,Ao (λ _=>⟨none,_,[],rfl,S,.inl rfl⟩) (λ _=>(SD S hl (by omega)).mono ?_)⟩;rintro _ w2 ⟨_,rfl,a2,c2,rfl,S2⟩;refine⟨_,_,_,rfl,S2.Ahg (k:=ty.string) _ (λ b3 w3 S3=>⟨_,rfl,S3.Ak λ b4 w4 _ _ S4=>⟨_,_,[_,_,_],rfl,S4,.inr ⟨b4,a2,_,c2,_,rfl,List.mem_cons_self⟩⟩⟩) (Q2 w2)⟩
theorem YH{p:Option Addr}(S:ST w0 w H)(T:Ada p H):Calls Tryz.prog f.Lc #[.pointer p] w (AD λ v w'=>∃ e,v=.tuple #[.slice none 0 0,.slice none 0 0,.int .i64 e]/\w'=w):=by
 apply R.G2
 delta R.A R.Ab R.Ad R.Qo R.Cs R.D R.F R.H R.I R.J R.Ks R.Li R.Lp R.Ls R.Lt R.N R.O R.P R.J2 R.Abr R.S R.Ae R.T R.W R.X R.Zpi;try dsimp only [R.Ps]
 rcases T with rfl | ⟨b,a',l,c',m,rfl,hm⟩
 ·exact AZ ⟨_,rfl,rfl⟩
 ·obtain⟨n,hn⟩:=List.mem_iff_getElem?.1 hm;refine AN ⟨_,_,_,S.cell n hn rfl,λ s w1=>s=[.slice none 0 0,.slice none 0 0,.int .i64 0]/\w1=w,λ _ _=>0,⟨rfl,rfl⟩,?_⟩;rintro a1 l1 c1 a2 l2 c2 i w1 ⟨aA,rfl⟩;cases aA;exact Aa (λ h=>by omega) (λ _=>⟨_,rfl,rfl⟩)
end
/-! ### the row of none -/
def Ys(a:Option Addr)(n c:Nat)(vs:List AW):It:=It.row ty.AX 3 a n c (Ba vs)
theorem Yt{w w0:World}{H:List It}(S:ST w0 w H)(j:Nat){a:Option Addr}{n c:Nat}{vs:List AW}(hj:H[j]?=some (Ys a n c vs)){b:Nat}{x:AW}(hs:Rd w (some ⟨b,0,none⟩) (GH x))(hn:n<=1000000){f:Value->World->Prop}
  (hf:∀ a' c' w',ST w0 w' (H.set j (Ys a' (n+1) c' (vs++[x])))->f (.slice a' (n+1) c') w'):Dc Tryz.prog (Builtin.append_ #[ty.A0,ty.A0] ty.A0 #[.slice a n c,.slice (some ⟨b,0,none⟩) 1 1]) f w:=by
 refine S.app j hj Ahx rfl (by omega) (by omega) hs (mm:=1) rfl (by intro u hu;simp [GH] at hu;rcases hu with rfl | rfl | rfl <;> rfl) (by omega) λ a' c' w' S'=>hf a' c' w' ?_;have e:Ba (vs++[x])=Ba vs++GH x:=by simp [Ba]
 unfold Ys;rw [e];exact S'
theorem Vc{w:World}{a:Option Addr}{c:Nat}{l:List Int}(hl:Rd w a (l.map MB))(hn:l.length<=1000):Calls Tryz.prog f.AbU #[.slice a l.length c] w (AD λ r w'=>∃ a' c' vs,vs.length=l.length/\r=.slice a' l.length c'/\ST w w' [Ys a' l.length c' vs]):=by
 apply R.Pu
 delta R.A R.Ab R.Ad R.F R.I R.J R.Ks R.Li R.Lt R.N R.O R.J2 R.S R.Ae R.T R.W R.X;try dsimp only [R.Ps]
 refine Vk l.length (λ i a' l' c' w1=>∃ vs:List AW,vs.length=i/\l'=i/\ST w w1 [Ys a' i c' vs]) (by omega) ⟨[],rfl,rfl,(ST.start w).nil _ _⟩ λ I M a' l' c' i w1 hi h next=>?_;obtain⟨vs,hv,rfl,S1⟩:=h;refine Aa (λ aB=>⟨⟨by omega,aB⟩,?_⟩) (λ aM=>⟨a',c',vs,by omega,by rw [show l'=l.length by omega],by rw [show l.length=l' by omega];exact S1⟩);have aE:l'<l.length:=by omega
 obtain⟨q,rfl,hc⟩:=ints_at (hl.grown S1.Ag) aE;refine⟨_,by rw [Ajz,Nat.mul_one];exact hc,S1.Ak λ b w2 _ _ S2=>S2.Ai0 0 rfl λ w5 S5=>?_⟩;have fin:∀ {x:AW} {w6:World},ST w w6 [It.cells b ⟨GH x⟩ ty.AX,Ys a' l' c' vs]->∀ {Q:Option Addr->Nat->Nat->World->Prop},(∀ a2 l2 c2 w',I [.slice a2 l2 c2,.int .i64 (IntKind.i64.wrap ((l':Int)+1))] w'/\M [.slice a2 l2 c2,.int .i64 (IntKind.i64.wrap ((l':Int)+1))] w'<M [.slice a' l' c',.int .i64 (l':Int)] w1->Q a2 l2 c2 w') ->
   ∃ m:Int,w6.cell? ⟨b,0,none⟩=some (.int .i64 m)/\∃ n:Int,w6.cell? ⟨b,1,none⟩=some (.int .i64 n)/\∃ o:ByteArray,w6.cell? ⟨b,2,none⟩=some (.string o)/\Cu #[.int .i64 m,.int .i64 n,.string o] ty.AX (λ b5 w7=>Dc Tryz.prog (Builtin.append_ #[ty.A0,ty.A0] ty.A0 #[.slice a' l' c',.slice (some ⟨b5,0,none⟩) 1 1]) (λ e w8=>∃(a2:Option Addr) (l2 c2:Nat),e=.slice a2 l2 c2/\Q a2 l2 c2 w8) w7) w6:=by
  intro x w6 S6 Q hQ;refine⟨_,S6.cell 0 rfl rfl,_,S6.cell 0 rfl rfl,_,S6.cell 0 rfl rfl,S6.Ak λ b5 w7 _ _ S7=>?_⟩;exact Yt S7 2 rfl (x:=x) (S7.rdc 0 rfl) (by omega) λ a8 c8 w8 S8=>⟨_,_,_,rfl,hQ _ _ _ _ (next _ _ _ _ aE ⟨vs++[x],by simp [hv],rfl,(S8.pull 2 rfl).one⟩)⟩
 refine Aj (λ _=>S5.BA 0 rfl (aD:=⟨GH (1,0,E0)⟩) (by simp) rfl λ w6 S6=>fin S6 λ _ _ _ _ h=>h) (λ _=>Aj (λ _=>S5.BA 0 rfl (aD:=⟨GH (1,0,E0)⟩) (by simp) rfl λ w6 S6=>fin S6 λ _ _ _ _ h=>h) (λ _=>fin (x:=(0,0,E0)) S5 λ _ _ _ _ h=>h))
/-! ### the row of one group without a key -/
theorem SJ{w wx:World}{bq:Nat}{q:Qu}{ai ga ka:Option Addr}{ci gc kn kc:Nat}{rs:List Value}{vs:List AW}(hq:w.cell? ⟨bq,1,none⟩=some (.slice ai q.it.length ci))(hr:Rd w ai rs)(hC:Ax (LX (λ _=>False) wx) q.it rs)(hn:q.it.length<=1000)
  (iK:∀ x∈q.it,x.2.1≠0) (hg:Rd w ga (Ba vs)) (hv:vs.length=q.it.length) (gH:vs.length<=gc) :
  Calls Tryz.prog f.Pv #[.pointer (some ⟨bq,0,none⟩),.slice ka kn kc,.slice ga vs.length gc] w (AD λ r w'=>∃ a' c' us,us.length=q.it.length/\r=.slice a' q.it.length c'/\ST w w' [Ys a' q.it.length c' us]):=by
 apply R.IF
 delta R.A R.Ab R.Ci R.D R.F R.I R.J R.Ks R.Li R.Ls R.Lt R.N R.O R.P R.Abr R.S R.Ae R.T R.W R.X R.Y;try dsimp only [R.Ps]
 refine⟨_,_,_,hq,λ st w1=>∃(i:Nat) (lz:Option Addr) (jB:Nat) (a':Option Addr) (c':Nat) (us:List AW),st=[.slice lz (vs.length-i) jB,.slice a' i c',.int .i64 (i:Int)]/\i<=vs.length/\us.length=i/\Rd w lz (Ba (vs.drop i))/\vs.length-i<=jB/\ST w w1 [Ys a' i c' us],
  λ st _=>match st with | [_,_,.int _ t]=>vs.length-t.toNat | _=>0,⟨0,ga,gc,none,0,[],rfl,by omega,rfl,hg,gH,(ST.start w).nil _ _⟩,?_⟩
 rintro lz l1 jB a' i c' i0 w1 ⟨i',tw,tx,a2,c2,us,aA,hi,hu,jz,my,S1⟩;cases aA;refine Aa (λ aB=>⟨⟨by omega,aB⟩,?_⟩) (λ aM=>⟨a',c',us,by omega,by rw [show i=q.it.length by omega],by rw [show q.it.length=i by omega];exact S1⟩);have aE:i<q.it.length:=by omega
 obtain⟨p,a9,cap9,rfl,hx,_,cell⟩:=H6 (hr.grown S1.Ag) hC aE;rw [Ajz];refine ldI cell (S1.Vz λ b3 w3 _ S3=>⟨_,S3.cell 0 rfl rfl,As (λ _=>S3.draw λ w4 _ S4=>?_) (λ h=>absurd h (iK _ (List.getElem_mem aE)))⟩);have ru:i<vs.length:=by omega
 obtain⟨x,l,hd⟩:∃ x l,vs.drop i=x :: l:=⟨_,_,List.drop_eq_getElem_cons ru⟩;have hl:vs.drop (i+1)=l:=by rw [<- List.tail_drop,hd];rfl
 have ed:l.length=vs.length-(i+1):=by rw [<- hl,List.length_drop]
 rw [hd] at jz;obtain⟨pg,hpg,k0,k1,k2⟩:=Oz (ls:=x :: l) (jz.grown S4.Ag) (i:=0) (by simp);subst hpg;rw [Nat.zero_mul,EO] at k0 k1 k2;have gQ:=jz.YA 1 (vs.length-i) jB 3 my;have e2:((Ba (x :: l)).drop (1*3)).take ((vs.length-i-1)*3)=Ba (vs.drop (i+1)):=by
  rw [hl];show (Ba l).take _=Ba l;rw [List.take_of_length_le];rw [Yr];omega
 rw [e2] at gQ;refine⟨⟨by omega,by omega⟩,⟨by omega,by omega,by omega⟩,_,k0,_,k1,_,k2,S4.Ak λ b5 w5 _ _ S5=>Yt S5 2 rfl (x:=x) (S5.rdc 0 rfl) (by omega) λ a6 c6 w6 S6=>⟨_,_,_,rfl,⟨i+1,BD (some pg) 1 jB 3,jB-1,a6,c6,us++[x],?_,by omega,by simp [hu],gQ,by omega,(S6.pull 2 rfl).one⟩,?_⟩⟩
 ·rw [Gc aE (by omega),show vs.length-(i+1)=vs.length-i-1 by omega]
 ·rw [Gc aE (by omega)];simp only [Ajz];omega
end Go.Proofs.YtegnhfeclchlmaaGreatDoor
namespace Go.Proofs.YtegnhfeclchlmaaGreatDoor
open _root_.Int renaming toNat_natCast -> Ajz
open _root_.List renaming length_append -> Ajk, length_singleton -> AkM
set_option maxRecDepth 100000
open Go.Dn Go.Proofs
open Go.RowKit (Below)
set_option linter.unusedVariables false
section
variable {w:World}{bq:Nat}{sa la:Option Addr}{sc ln lc:Nat}{fa:FuncId}{fi ca:Array Value}
theorem Pd:Calls Tryz.prog f.KZ #[.pointer (some ⟨bq,0,none⟩),.slice sa 0 sc,.slice la ln lc,.func (.func fa) fi ca] w (AD λ r w'=>r=.int .i64 0/\Below w.heap.size w w'):=by
 have qm:∀ {w},Calls Tryz.prog f.KY #[.pointer (some ⟨bq,0,none⟩),.slice sa 0 sc] w (AD λ r w'=>∃ c1 c2,r=.func (.func f.Er) #[] #[.pointer (some ⟨c1,0,none⟩),.pointer (some ⟨c2,0,none⟩)]/\ST w w' [It.cells c1 #[.slice sa 0 sc] ty.Fx,It.cells c2 #[.pointer (some ⟨bq,0,none⟩)] ty.UC]):=by
  intro w;apply R.GY
  delta R.J R.N R.P R.S;try dsimp only [R.Ps]
  exact (ST.start w).Ak λ b1 w1 _ _ S1=>S1.Ak λ b2 w2 _ _ S2=>⟨b2,b1,rfl,S2⟩
 have oA:∀ {w} {L c1 c2:Nat},w.cell? ⟨c1,0,none⟩=some (.slice sa 0 sc)->Calls Tryz.prog f.Er #[.func (.yield L) #[] #[],.pointer (some ⟨c1,0,none⟩),.pointer (some ⟨c2,0,none⟩)] w (AD λ r w'=>r=.tuple #[]/\w'=w):=by
  intro w L c1 c2 hc;apply R.FK
  delta R.A R.Ad R.Dd R.Cb R.F R.H R.I R.J R.Ks R.Li R.Lp R.Ls R.N R.O R.P R.Qi R.J2 R.S R.W R.X;try dsimp only [R.Ps]
  refine⟨_,_,_,hc,λ s w1=>s=[.int .i64 0]/\w1=w,λ _ _=>0,⟨rfl,rfl⟩,?_⟩;rintro i w1 ⟨aA,rfl⟩;cases aA;exact Aa (λ h=>by omega) (λ _=>⟨rfl,rfl⟩)
 apply R.GZ
 delta R.A R.Ad R.Dd R.AhE R.Cf R.F R.G R.I R.Lf R.Li R.Lp R.Ls R.N R.P R.Qi R.S R.Ae R.W R.X;try dsimp only [R.Ps]
 refine (ST.start w).Ak λ b1 w1 _ _ S1=>S1.Ak λ b2 w2 _ _ S2=>S2.Ak λ b3 w3 _ _ S3=>S3.Ak λ b4 w4 _ _ S4=>S4.BA 0 rfl (aD:=#[.int .i64 0]) (by simp) rfl λ w5 S5=>⟨_,S5.cell 3 rfl rfl,qm.mono ?_⟩;rintro _ w6 ⟨_,rfl,c1,c2,rfl,P6⟩;have S6:=S5.join P6;refine⟨_,_,_,rfl,by kernel_rfl,λ rr aA bT hy=>?_⟩;have S7:=S6.range rr;refine (oA (S7.cell 2 rfl rfl)).mono ?_;rintro _ w8 ⟨_,rfl,rfl,rfl⟩;exact⟨⟨_,rfl⟩,S7.Kq 0 aA bT rfl λ w9 S9=>.inl ⟨rfl,_,S9.cell 4 rfl rfl,S9.get 1 rfl,rfl,(S9.put 1 rfl (.deferred none)).Ag⟩⟩
variable {q:Qu}{ai:Option Addr}{ci:Nat}{rs:List Value}
theorem Acp(hq:w.cell? ⟨bq,1,none⟩=some (.slice ai q.it.length ci))(hr:Rd w ai rs)(hC:Ax (LX (λ _=>False) w) q.it rs)(hn:q.it.length<=1000) :
  Calls Tryz.prog f.NW #[.pointer (some ⟨bq,0,none⟩),.slice sa 0 sc] w (AD λ r w'=>r=.tuple #[.slice none 0 0,.int .i64 0]/\Below w.heap.size w w'):=by
 apply R.HU
 delta R.A R.Ab R.Ci R.F R.H R.I R.J R.Ks R.Li R.Ls R.Lt R.N R.O R.P R.J2 R.S R.Ae R.T R.W R.X;try dsimp only [R.Ps]
 refine⟨_,_,_,hq,Vk q.it.length (λ i a' l' c' w1=>∃ us,l'=i/\ST w w1 [QV a' i c' us]) (by omega) ⟨[],rfl,(ST.start w).nil _ _⟩ λ I M a' l' c' i w1 hi h next=>?_⟩;obtain⟨us,rfl,S1⟩:=h;refine Aa (λ aB=>⟨⟨by omega,aB⟩,?_⟩) (λ aM=>S1.Ak λ b2 w2 _ _ S2=>Pd.mono ?_)
 ·have aE:l'<q.it.length:=by omega
  obtain⟨p,a9,cap9,rfl,hx,_,cell⟩:=H6 (hr.grown S1.Ag) hC aE;rw [Ajz];refine ldI cell (S1.Vz λ b3 w3 _ S3=>?_);have S3:ST w w3 [itI b3 q.it[l'] a9 cap9,QV a' l' c' us]:=S3;refine AfY S3 0 rfl (S3.Ak λ b4 w4 _ _ S4=>S4.app 2 rfl Aac Aam (by omega) (by omega) (S4.rdc 0 rfl) (mm:=1) rfl (by intro u hu;simp at hu;rcases hu with rfl | rfl | rfl | rfl | rfl | rfl <;> rfl) (by omega) λ a6 c6 w6 S6=>⟨_,_,_,rfl,next _ _ _ _ aE ⟨_,rfl,(S6.pull 2 rfl).one⟩⟩)
 ·rintro _ w3 ⟨_,rfl,rfl,B3⟩;exact⟨_,rfl,_,_,_,(S2.grown B3).cell 0 rfl rfl,rfl,(S2.grown B3).Ag⟩
def Wq(l:List F4):Nat:=l.countP λ x=>decide (x.2.1≠0)
theorem Vl(hq:w.cell? ⟨bq,1,none⟩=some (.slice ai q.it.length ci))(hr:Rd w ai rs)(hC:Ax (LX (λ _=>False) w) q.it rs)(hn:q.it.length<=1000){ag:Option Addr}{cg:Nat}{gs:List Value}
  (pJ:w.cell? ⟨bq,3,none⟩=some (.slice ag q.gr.length cg)) (rp:Rd w ag gs) (rM:Ax (DT (λ _=>False) w) q.gr gs) (rn:q.gr.length<=1000) (iK:q.gr=[]->∀ x∈q.it,x.2.1≠0) :
  Calls Tryz.prog f.J6 #[.pointer (some ⟨bq,0,none⟩),.slice sa 0 sc] w (AD λ r w'=>∃ a' c' e ps,r=.tuple #[.slice a' ps.length c',.int .i64 e]/\BU w' a' ps/\ps.length<=1/\(∀ x∈ps,x.2.2.length<=100000)/\Below w.heap.size w w'):=by
 apply R.GC
 delta R.A R.Ab R.Ad R.Uw R.Agh R.Ci R.Cs R.D R.F R.H R.I R.J R.Ks R.Li R.Lp R.Ls R.Lt R.N R.O R.P R.J2 R.Abr R.S R.Ae R.T R.W R.X R.Zss;try dsimp only [R.Ps]
 refine⟨_,_,_,pJ,(UP (ST.start w) rp rM rn).mono ?_⟩;rintro _ w1 ⟨_,rfl,a1,c1,us,rfl,S1⟩;refine⟨_,_,_,rfl,_,_,_,(Aq.AQ (F:=λ _=>False) S1.Ag).cell hq (by simp),?_⟩;refine⟨λ st w2=>∃(i:Nat) (a2:Option Addr) (n2 c2:Nat) (a3:Option Addr) (c3:Nat) (us:List Value) (l:List Int),st=[.slice a2 n2 c2,.slice a3 l.length c3,.int .i64 (i:Int)]/\i<=q.it.length/\n2<=1000+i/\l.length=Wq (q.it.take i)/\ST w w2 [It.row ty.int 1 a3 l.length c3 (l.map MB),QV a2 n2 c2 us],
  λ st _=>match st with | [_,_,.int _ t]=>q.it.length-t.toNat | _=>0,⟨0,a1,_,c1,none,0,us,[],rfl,by omega,by omega,rfl,S1.nil _ _⟩,?_⟩
 rintro a2 n2 c2 a3 l3 c3 i0 w2 ⟨i,b2,m2,d2,b3,d3,us,l,aA,hi,gu,hl,S2⟩;cases aA;have sE:l.length<=1000:=by
  have h1:Wq (q.it.take i)<=(q.it.take i).length:=List.countP_le_length;rw [List.length_take] at h1;omega
 refine Aa (λ aB=>⟨⟨by omega,aB⟩,?_⟩) (λ aM=>?_)
 ·have aE:i<q.it.length:=by omega
  obtain⟨p,a9,cap9,rfl,hx,_,cell⟩:=H6 (hr.grown S2.Ag) hC aE;rw [Ajz];refine ldI cell (S2.Vz λ b3 w3 _ S3=>?_);have S3:ST w w3 [itI b3 q.it[i] a9 cap9,It.row ty.int 1 a3 l.length c3 (l.map MB),QV a2 n2 c2 us]:=S3;have hm:Wq (q.it.take (i+1))=Wq (q.it.take i)+(if q.it[i].2.1≠0 then 1 else 0):=by
   unfold Wq;rw [List.take_succ_eq_append_getElem aE,List.countP_append];by_cases h:q.it[i].2.1=0 <;> simp [h]
  have mu:q.it.length-(IntKind.i64.wrap ((i:Int)+1)).toNat<q.it.length-((i:Nat):Int).toNat:=by
   rw [Gc aE (by omega)];simp only [Ajz];omega
  have ints:∀ {w5:World} {a7:Option Addr} {c7:Nat} {vs:List Value} {b4:Nat} {ks:Array Value} {tk:TypeId},q.it[i].2.1≠0->ST w w5 [It.cells b4 ks tk,itI b3 q.it[i] a9 cap9,It.row ty.int 1 a3 l.length c3 (l.map MB),QV a7 (n2+1) c7 vs] ->
    ∃ u:Int,w5.cell? ⟨b3,1,none⟩=some (.int .i64 u)/\Cu #[.int .i64 u] ty.int (λ b6 w6=>Dc Tryz.prog (Builtin.append_ #[ty.Fy,ty.Fy] ty.Fy #[.slice a3 l.length c3,.slice (some ⟨b6,0,none⟩) 1 1]) (λ e w7=>∃(a:Option Addr) (n c:Nat),e=.slice a n c/\(∃(i':Nat) (a2:Option Addr) (oC c2:Nat) (a3:Option Addr) (c3:Nat) (us:List Value) (l:List Int),[.slice a7 (n2+1) c7,.slice a n c,.int .i64 (IntKind.i64.wrap ((i:Int)+1))]=[Value.slice a2 oC c2,.slice a3 l.length c3,.int .i64 (i':Int)]/\i'<=q.it.length/\oC<=1000+i'/\l.length=Wq (q.it.take i')/\ST w w7 [It.row ty.int 1 a3 l.length c3 (l.map MB),QV a2 oC c2 us])/\q.it.length-(IntKind.i64.wrap ((i:Int)+1)).toNat<q.it.length-((i:Nat):Int).toNat) w6) w5:=by
   intro w5 a7 c7 vs b4 ks tk aV S5;refine⟨_,S5.cell 1 rfl rfl,S5.Ak λ b6 w6 _ _ S6=>S6.app 3 rfl Agx rfl (by omega) (by omega) (S6.rdc 0 rfl) (mm:=1) rfl (by intro u hu;simp at hu;rw [hu];rfl) (by omega) λ a8 c8 w8 S8=>⟨_,_,_,rfl,⟨i+1,a7,n2+1,c7,a8,c8,vs,l++[q.it[i].2.1],?_,by omega,by omega,?_,?_⟩,mu⟩⟩
   ·rw [Gc aE (by omega),Ajk,AkM]
   ·rw [Ajk,AkM,hm,hl,if_pos aV]
   ·rw [Ajk,AkM,List.map_append];exact S8.drop 3
  refine⟨_,S3.cell 0 rfl rfl,Aj (λ h0=>⟨⟨i+1,a2,n2,c2,a3,c3,us,l,by rw [Gc aE (by omega)],by omega,by omega,by rw [hm,hl,if_neg (by simpa using h0)];rfl,S3.drop 1⟩,mu⟩) (λ h0=>Aj (λ h1=>?_) (λ h1=>?_))⟩
  ·refine S3.Ak λ b4 w4 _ _ S4=>S4.app 3 rfl Aac Aam (by omega) (by omega) (S4.rdc 0 rfl) (mm:=1) rfl (by intro u hu;simp at hu;rcases hu with rfl | rfl | rfl | rfl | rfl | rfl <;> rfl) (by omega) λ a6 c6 w6 S6=>⟨_,_,_,rfl,ints h0 S6⟩
  ·refine AfY S3 0 rfl (S3.Ak λ b4 w4 _ _ S4=>S4.app 3 rfl Aac Aam (by omega) (by omega) (S4.rdc 0 rfl) (mm:=1) rfl (by intro u hu;simp at hu;rcases hu with rfl | rfl | rfl | rfl | rfl | rfl <;> rfl) (by omega) λ a6 c6 w6 S6=>⟨_,_,_,rfl,ints h0 S6⟩)
 ·rw [List.take_of_length_le (by omega)] at hl;refine (Vo S2 (S2.rd 0 rfl)).mono ?_;rintro _ w3 ⟨_,rfl,tp,te,H3,rfl,S3,hT⟩;refine⟨_,_,rfl,S3.Ak λ b4 w4 _ _ S4=>S4.BA 0 rfl (aD:=#[.pointer tp]) (by simp) rfl λ w5 S5=>⟨_,_,_,(Aq.AQ (F:=λ _=>False) S5.Ag).cell pJ (by simp),S5.Ak λ b6 w6 _ _ S6=>S6.BA 0 rfl (aD:=#[.int .i64 (q.gr.length:Int)]) (by simp) rfl λ w7 S7=>Pd.mono ?_⟩⟩;rintro _ w8 ⟨_,rfl,rfl,B8⟩;have S8:=S7.grown B8;refine⟨_,rfl,As (λ h=>absurd rfl h) (λ _=>⟨_,S8.cell 1 rfl rfl,(YH S8 (hT.mono λ x hx=>by simp [hx])).mono ?_⟩)⟩;rintro _ w9 ⟨_,rfl,e9,rfl,rfl⟩;refine⟨_,_,_,_,_,_,_,rfl,λ st w'=>(st=[.slice none 0 0,.slice none 0 0]/\Below w.heap.size w w')\/(q.gr.length=0/\∃ b1 b2 ga gc vs,st=[.slice (some ⟨b1,0,none⟩) 1 1,.slice (some ⟨b2,0,none⟩) 1 1]/\vs.length=Wq q.it/\w'.cell? ⟨b1,0,none⟩=some (.slice none 0 0)/\w'.cell? ⟨b2,0,none⟩=some (.slice ga vs.length gc)/\Rd w' ga (Ba vs)/\vs.length<=gc/\Below w.heap.size w w'),?_,?_⟩
  ·refine⟨_,S8.cell 0 rfl rfl,Aj (λ h0=>Aj (λ _=>Aj (λ _=>S8.Ak λ dD dJ _ _ oO=>(Vc (Row.rd (oO.ok (It.row ty.int 1 a3 l.length c3 (l.map MB)) (by simp))) sE).mono ?_) (λ _=>.inl ⟨rfl,S8.Ag⟩)) (λ _=>.inl ⟨rfl,S8.Ag⟩)) (λ _=>.inl ⟨rfl,S8.Ag⟩)⟩;rintro _ bm ⟨_,rfl,lD,qn,vs,hv,rfl,qD⟩;have aW:=oO.join qD;rw [<- hv] at aW ⊢;exact⟨_,_,_,rfl,aW.Ak λ cU cI _ _ bM=>.inr ⟨by omega,dD,cU,lD,qn,vs,rfl,hv.trans hl,bM.cell 2 rfl rfl,bM.cell 0 rfl rfl,bM.rd 1 rfl,(bM.rw 1 rfl).le,bM.Ag⟩⟩
  ·rintro b1 n1 m1 b2 n2 m2 dJ (⟨aA,fU⟩ | ⟨hg0,b1',b2',ga,gc,vs,aA,hv,h1,h2,jz,gH,fU⟩)
   ·cases aA;refine⟨λ st w'=>st=[.slice none 0 0,.int .i64 0]/\w'=dJ,λ _ _=>0,⟨rfl,rfl⟩,?_⟩;rintro a7 l7 c7 i7 bm ⟨aA,rfl⟩;cases aA;exact Aa (λ h=>by omega) (λ _=>⟨none,0,e9,[],rfl,⟨Rd.nil _ _,by simp⟩,by simp,by simp,fU⟩)
   ·cases aA;have aO:=iK (List.eq_nil_of_length_eq_zero hg0);have jR:vs.length=q.it.length:=by
     rw [hv];unfold Wq;rw [List.countP_eq_length];intro x hx;simpa using aO x hx
    refine⟨λ st w'=>(st=[.slice none 0 0,.int .i64 0]/\w'=dJ)\/(∃ a7 c7 ua uc us,st=[.slice a7 1 c7,.int .i64 1]/\BU w' a7 [(ua,uc,us)]/\us.length<=1000/\Below w.heap.size w w'),λ st _=>match st with | [_,.int _ t]=>1-t.toNat | _=>0,.inl ⟨rfl,rfl⟩,?_⟩;rintro a7 l7 c7 i7 bm (⟨aA,rfl⟩ | ⟨a8,c8,ua,uc,us,aA,hR,cy,dC⟩)
    ·cases aA;refine Aa (λ _=>(ST.start bm).draw λ cI j4 tQ=>?_) (λ h=>by omega);have oN:=Aq.AQ (F:=λ _=>False) j4;have jb:=Ac fU j4;refine⟨⟨by omega,by omega⟩,⟨by omega,by omega⟩,_,_,_,oN.cell h1 (by simp),_,_,_,oN.cell h2 (by simp),?_⟩;refine (SJ ((Aq.AQ (F:=λ _=>False) jb).cell hq (by simp)) (hr.grown jb) hC hn aO (jz.grown j4) jR gH).mono ?_;rintro _ bQ ⟨_,rfl,j8,j9,us,cy,rfl,qE⟩;refine⟨_,_,_,rfl,qE.Ak λ dq bG _ _ cC=>(cC.nil ty.A0 1).app 0 rfl Aey rfl (by omega) (by omega) (cC.rdc 0 rfl) (mm:=1) rfl (by intro u hu;simp at hu;rw [hu];rfl) (by omega) λ oV oe cB au=>⟨_,_,_,rfl,.inr ⟨oV,oe,j8,j9,us,rfl,⟨?_,?_⟩,by omega,Ac jb au.Ag⟩,by show 1-(IntKind.i64.wrap (0+1)).toNat<1-(0:Int).toNat;decide⟩⟩
     ·have:=au.rd 0 rfl;rw [<- cy] at this;exact this
     ·intro p hp;simp only [List.mem_singleton] at hp;subst hp;exact au.rd 2 rfl
    ·cases aA;exact Aa (λ h=>by omega) (λ _=>⟨a7,c7,e9,[(ua,uc,us)],rfl,hR,by simp,by simp;omega,dC⟩)
theorem Vb{cs:List AA}{a1 aw ag ao x6:Option Addr}{c1 cw cg co l6 ja:Nat}{g7:Bool}(A:LP w cs a1 q ai aw ag ao ci c1) :
  Calls Tryz.prog f.Ml #[.agg #[.slice a1 cs.length c1,.slice ai q.it.length ci,.slice aw q.wh.length cw,.slice ag q.gr.length cg,.slice ao q.od.length co,.int .i64 q.lim,.slice x6 l6 ja,.bool g7],.slice none 0 0] w
   (AD λ r w'=>∃ a n c e,r=.tuple #[.slice a n c,.int .i64 e]/\((Bi cs q).2≠0->e=(Bi cs q).2)/\Below w.heap.size w w'):=by
 apply R.Je
 delta R.A R.Ab R.Uw R.Dd R.D R.E R.F R.G R.H R.I R.Lb R.Li R.Ls R.N R.O R.P R.S;try dsimp only [R.Ps]
 refine (ST.start w).Ak λ b0 w1 _ _ S1=>⟨_,_,_,S1.cell 0 rfl rfl,_,_,_,S1.cell 0 rfl rfl,_,_,_,S1.cell 0 rfl rfl,_,_,_,S1.cell 0 rfl rfl,_,_,_,S1.cell 0 rfl rfl,_,S1.cell 0 rfl rfl,_,_,_,S1.cell 0 rfl rfl,_,S1.cell 0 rfl rfl,(HT (sg:=[]) (A.grown S1.Ag) (Rd.nil _ _) (by simp) (by simp)).mono ?_⟩;rintro _ w2 ⟨_,rfl,⟨e,hm,he,rfl,B2⟩ | ⟨out,hm,aC,rfl,B2⟩ | ⟨out,b,hm,aC,rfl,a0,c0,bi,di,bw,dw,bg,dg,bo,d_o,a6,c6,na,nc,ta,tc,S2,P2,hdi,_,_⟩⟩
 ·exact⟨_,_,rfl,As (λ _=>⟨_,_,_,_,rfl,λ _=>by rw [Bi,hm],Ac S1.Ag B2⟩) (λ h=>absurd h he)⟩
 ·simp at aC
 ·have hp:Bi cs q=(⟨cs,q,out,Am q⟩,0):=by rw [Bi,hm]
  obtain⟨h1,h2,_,_,h5⟩:=Rq hm;have cH:=DQ.1 (FP h2).1;have Sf:=S1.join S2;obtain⟨ri,dH,hCi⟩:=P2.q.it;obtain⟨rg,hrg,hCg⟩:=P2.q.gr;obtain⟨ro,eo,hCo⟩:=P2.q.od;refine⟨_,_,rfl,As (λ h=>absurd rfl h) (λ _=>⟨_,S2.cell 0 rfl rfl,Ao (λ hg=>?_) (λ hg=>?_)⟩)⟩
  ·refine (Vl (q:=q) (S2.cell 0 rfl rfl) dH hCi (by have:=cH.1.2.1;omega) (S2.cell 0 rfl rfl) hrg hCg (by have:=cH.1.2.2.2.1;omega) ?_).mono ?_
   ·intro nT x hx h0;obtain⟨i,hi,rfl⟩:=List.mem_iff_getElem.1 hx;have hk:=(H7 h5).2 i hi (by rw [(H7 h5).1];exact hi);rw [Nat.zero_add] at hk;unfold Kv at hk;rw [if_neg (by rw [h0];decide)] at hk;split at hk
    ·cases hk
    ·unfold Hp at hk;split at hk
     ·cases hk
     ·rw [if_pos (.inl ⟨hg,h0,by rw [nT];rfl⟩)] at hk;cases hk
   ·rintro _ w3 ⟨_,rfl,a3,c3,e3,ps,rfl,hR,kG,e7,B3⟩;have S3:=S2.grown B3;refine⟨_,_,_,_,rfl,As (λ _=>⟨_,_,_,_,rfl,λ h=>absurd (by rw [hp]) h,(S1.join S3).Ag⟩) (λ _=>S3.draw λ w4 B4 S4=>⟨_,S4.cell 0 rfl rfl,_,_,_,S4.cell 0 rfl rfl,(Iy q.lim (hR.grown B4) kG e7 (eo.grown (Ac B3 B4)) hCo P2.q.nod).mono ?_⟩)⟩;rintro _ w5 ⟨_,rfl,a5,l5,c5,e5,rfl,B5⟩;exact⟨_,_,_,_,rfl,_,_,_,_,rfl,λ h=>absurd (by rw [hp]) h,(S1.join (S4.grown B5)).Ag⟩
  ·refine (Acp (q:=q) (S2.cell 0 rfl rfl) dH hCi (by have:=cH.1.2.1;omega)).mono ?_;rintro _ w3 ⟨_,rfl,rfl,B3⟩;have S3:=S2.grown B3;refine⟨_,_,_,_,rfl,As (λ h=>absurd rfl h) (λ _=>S3.draw λ w4 B4 S4=>⟨_,S4.cell 0 rfl rfl,_,_,_,S4.cell 0 rfl rfl,(Iy (ps:=[]) q.lim ⟨Rd.nil _ _,by simp⟩ (by simp) (by simp) (eo.grown (Ac B3 B4)) hCo P2.q.nod).mono ?_⟩)⟩;rintro _ w5 ⟨_,rfl,a5,l5,c5,e5,rfl,B5⟩;exact⟨_,_,_,_,rfl,_,_,_,_,rfl,λ h=>absurd (by rw [hp]) h,(S1.join (S4.grown B5)).Ag⟩
end
end Go.Proofs.YtegnhfeclchlmaaGreatDoor
namespace Go.Proofs.YtegnhfeclchlmaaGreatDoor
open Go.Dn Go.Proofs
set_option maxRecDepth 100000
namespace Ru
def a1:List Value:=[.slice (J 65536 0) 1 1,.slice (J 65543 0) 2 2]
def s1:AS:=⟨8,[.row 65543 54 1 2 [.slice (J 65539 0) 1 1,.slice (J 65542 0) 1 1] (some 2),.row 65542 51 3 1 [I 1,I 2,T []] (some 1),.cells 65540 [I 1,I 2,T []] 51,.row 65539 51 3 1 [I 1,I 1,T []] (some 1),.cells 65537 [I 1,I 1,T []] 51,.row 65536 47 3 1 [T [97],I 1,.bool false] (some 1)]⟩
def v1:Value:=.tuple #[T [83,89,68,49,1,2,0,0,2,4,58,111,231,40,1,1,97,1,0,2,10,0,1,2,1,4,12,0,0,0,141,96,71,201,82,88,168,247,180,23,90,92,23,32,24,107,104,216,55,159,218,200,184,182,207,200,252,34,73,3,159,159],I 0]
def t1:AS:=⟨534,[.row 65543 54 1 2 [.slice (J 65539 0) 1 1,.slice (J 65542 0) 1 1] (some 2),.row 65542 51 3 1 [I 1,I 2,T []] (some 1),.cells 65540 [I 1,I 2,T []] 51,.row 65539 51 3 1 [I 1,I 1,T []] (some 1),.cells 65537 [I 1,I 1,T []] 51,.row 65536 47 3 1 [T [97],I 1,.bool false] (some 1)]⟩
theorem p1:U7 Tryz.prog G1 O1 100000 300 (.fn f.EP) a1 [] s1=some (v1,t1):=EA (by kernel_rfl)
end Ru
end Go.Proofs.YtegnhfeclchlmaaGreatDoor
namespace Go.Proofs.YtegnhfeclchlmaaGreatDoor
open Go.Dn Go.Proofs
set_option maxRecDepth 100000
namespace Ru
def a2:List Value:=[.slice (J 65536 0) 1 1,.slice (J 66073 0) 1 1]
def s2:AS:=⟨538,[.row 66073 54 1 1 [.slice (J 66072 0) 1 1] (some 1),.row 66072 51 3 1 [I 1,I 3,T []] (some 1),.cells 66070 [I 1,I 3,T []] 51,.row 65543 54 1 2 [.slice (J 65539 0) 1 1,.slice (J 65542 0) 1 1] (some 2),.row 65542 51 3 1 [I 1,I 2,T []] (some 1),.cells 65540 [I 1,I 2,T []] 51,.row 65539 51 3 1 [I 1,I 1,T []] (some 1),.cells 65537 [I 1,I 1,T []] 51,.row 65536 47 3 1 [T [97],I 1,.bool false] (some 1)]⟩
def v2:Value:=.tuple #[T [83,89,68,49,1,1,0,0,6,201,84,135,134,1,1,97,1,0,1,9,0,1,6,1,6,12,0,0,0,251,38,141,191,149,205,133,106,225,173,197,102,216,39,216,152,211,138,219,69,7,74,152,119,15,114,54,253,189,225,58,70],I 0]
def t2:AS:=⟨920,[.row 66073 54 1 1 [.slice (J 66072 0) 1 1] (some 1),.row 66072 51 3 1 [I 1,I 3,T []] (some 1),.cells 66070 [I 1,I 3,T []] 51,.row 65543 54 1 2 [.slice (J 65539 0) 1 1,.slice (J 65542 0) 1 1] (some 2),.row 65542 51 3 1 [I 1,I 2,T []] (some 1),.cells 65540 [I 1,I 2,T []] 51,.row 65539 51 3 1 [I 1,I 1,T []] (some 1),.cells 65537 [I 1,I 1,T []] 51,.row 65536 47 3 1 [T [97],I 1,.bool false] (some 1)]⟩
theorem p2:U7 Tryz.prog G1 O1 100000 300 (.fn f.EP) a2 [] s2=some (v2,t2):=EA (by kernel_rfl)
end Ru
end Go.Proofs.YtegnhfeclchlmaaGreatDoor
namespace Go.Proofs.YtegnhfeclchlmaaGreatDoor
open Go.Dn Go.Proofs
set_option maxRecDepth 100000
namespace Ru
def a3:List Value:=[T [83,89,68,49,1,2,0,0,2,4,58,111,231,40,1,1,97,1,0,2,10,0,1,2,1,4,12,0,0,0,141,96,71,201,82,88,168,247,180,23,90,92,23,32,24,107,104,216,55,159,218,200,184,182,207,200,252,34,73,3,159,159]]
def s3:AS:=⟨920,[.row 66073 54 1 1 [.slice (J 66072 0) 1 1] (some 1),.row 66072 51 3 1 [I 1,I 3,T []] (some 1),.cells 66070 [I 1,I 3,T []] 51,.row 65543 54 1 2 [.slice (J 65539 0) 1 1,.slice (J 65542 0) 1 1] (some 2),.row 65542 51 3 1 [I 1,I 2,T []] (some 1),.cells 65540 [I 1,I 2,T []] 51,.row 65539 51 3 1 [I 1,I 1,T []] (some 1),.cells 65537 [I 1,I 1,T []] 51,.row 65536 47 3 1 [T [97],I 1,.bool false] (some 1)]⟩
def v3:Value:=.tuple #[.pointer (J 67391 0),I 0]
def t3:AS:=⟨1856,[.cells 67391 [.pointer (J 66543 0)] 118,.row 66847 101 7 1 [I 0,I 1,I 1,T [],I 1,I 2,T []] (none),.row 66840 53 1 1 [.slice (J 66572 0) 2 2] (none),.row 66572 51 3 2 [I 1,I 1,T [],I 1,I 2,T []] (some 2),.cells 66543 [.slice (J 66472 0) 1 18446744073709551616,.slice (J 66840 0) 1 18446744073709551616,.slice (J 66847 0) 1 18446744073709551616,I 2] 115,.row 66472 47 3 1 [T [97],I 1,.bool false] (none),.row 66073 54 1 1 [.slice (J 66072 0) 1 1] (some 1),.row 66072 51 3 1 [I 1,I 3,T []] (some 1),.cells 66070 [I 1,I 3,T []] 51,.row 65543 54 1 2 [.slice (J 65539 0) 1 1,.slice (J 65542 0) 1 1] (some 2),.row 65542 51 3 1 [I 1,I 2,T []] (some 1),.cells 65540 [I 1,I 2,T []] 51,.row 65539 51 3 1 [I 1,I 1,T []] (some 1),.cells 65537 [I 1,I 1,T []] 51,.row 65536 47 3 1 [T [97],I 1,.bool false] (some 1)]⟩
theorem p3:U7 Tryz.prog G1 O1 100000 300 (.fn f.FQ) a3 [] s3=some (v3,t3):=EA (by kernel_rfl)
end Ru
end Go.Proofs.YtegnhfeclchlmaaGreatDoor
namespace Go.Proofs.YtegnhfeclchlmaaGreatDoor
open Go.Dn Go.Proofs
set_option maxRecDepth 100000
namespace Ru
def a4:List Value:=[T [83,89,68,49,1,1,0,0,6,201,84,135,134,1,1,97,1,0,1,9,0,1,6,1,6,12,0,0,0,251,38,141,191,149,205,133,106,225,173,197,102,216,39,216,152,211,138,219,69,7,74,152,119,15,114,54,253,189,225,58,70]]
def s4:AS:=⟨1856,[.cells 67391 [.pointer (J 66543 0)] 118,.row 66847 101 7 1 [I 0,I 1,I 1,T [],I 1,I 2,T []] (none),.row 66840 53 1 1 [.slice (J 66572 0) 2 2] (none),.row 66572 51 3 2 [I 1,I 1,T [],I 1,I 2,T []] (some 2),.cells 66543 [.slice (J 66472 0) 1 18446744073709551616,.slice (J 66840 0) 1 18446744073709551616,.slice (J 66847 0) 1 18446744073709551616,I 2] 115,.row 66472 47 3 1 [T [97],I 1,.bool false] (none),.row 66073 54 1 1 [.slice (J 66072 0) 1 1] (some 1),.row 66072 51 3 1 [I 1,I 3,T []] (some 1),.cells 66070 [I 1,I 3,T []] 51,.row 65543 54 1 2 [.slice (J 65539 0) 1 1,.slice (J 65542 0) 1 1] (some 2),.row 65542 51 3 1 [I 1,I 2,T []] (some 1),.cells 65540 [I 1,I 2,T []] 51,.row 65539 51 3 1 [I 1,I 1,T []] (some 1),.cells 65537 [I 1,I 1,T []] 51,.row 65536 47 3 1 [T [97],I 1,.bool false] (some 1)]⟩
def v4:Value:=.tuple #[.pointer (J 68088 0),I 0]
def t4:AS:=⟨2553,[.cells 68088 [.pointer (J 67479 0)] 118,.row 67691 101 7 1 [I 0,I 1,I 3,T [],I 1,I 3,T []] (none),.row 67684 53 1 1 [.slice (J 67497 0) 1 1] (none),.row 67497 51 3 1 [I 1,I 3,T []] (some 1),.cells 67479 [.slice (J 67408 0) 1 18446744073709551616,.slice (J 67684 0) 1 18446744073709551616,.slice (J 67691 0) 1 18446744073709551616,I 1] 115,.row 67408 47 3 1 [T [97],I 1,.bool false] (none),.cells 67391 [.pointer (J 66543 0)] 118,.row 66847 101 7 1 [I 0,I 1,I 1,T [],I 1,I 2,T []] (none),.row 66840 53 1 1 [.slice (J 66572 0) 2 2] (none),.row 66572 51 3 2 [I 1,I 1,T [],I 1,I 2,T []] (some 2),.cells 66543 [.slice (J 66472 0) 1 18446744073709551616,.slice (J 66840 0) 1 18446744073709551616,.slice (J 66847 0) 1 18446744073709551616,I 2] 115,.row 66472 47 3 1 [T [97],I 1,.bool false] (none),.row 66073 54 1 1 [.slice (J 66072 0) 1 1] (some 1),.row 66072 51 3 1 [I 1,I 3,T []] (some 1),.cells 66070 [I 1,I 3,T []] 51,.row 65543 54 1 2 [.slice (J 65539 0) 1 1,.slice (J 65542 0) 1 1] (some 2),.row 65542 51 3 1 [I 1,I 2,T []] (some 1),.cells 65540 [I 1,I 2,T []] 51,.row 65539 51 3 1 [I 1,I 1,T []] (some 1),.cells 65537 [I 1,I 1,T []] 51,.row 65536 47 3 1 [T [97],I 1,.bool false] (some 1)]⟩
theorem p4:U7 Tryz.prog G1 O1 100000 300 (.fn f.FQ) a4 [] s4=some (v4,t4):=EA (by kernel_rfl)
end Ru
end Go.Proofs.YtegnhfeclchlmaaGreatDoor
namespace Go.Proofs.YtegnhfeclchlmaaGreatDoor
open Go.Dn Go.Proofs
set_option maxRecDepth 100000
namespace Ru
def a5:List Value:=[T [115,101,108,101,99,116,32,115,117,109,40,97,41,32,97,115,32,115,44,32,99,111,117,110,116,40,42,41,32,97,115,32,110,32,119,104,101,114,101,32,49,32,60,32,97]]
def s5:AS:=⟨2553,[.cells 68088 [.pointer (J 67479 0)] 118,.row 67691 101 7 1 [I 0,I 1,I 3,T [],I 1,I 3,T []] (none),.row 67684 53 1 1 [.slice (J 67497 0) 1 1] (none),.row 67497 51 3 1 [I 1,I 3,T []] (some 1),.cells 67479 [.slice (J 67408 0) 1 18446744073709551616,.slice (J 67684 0) 1 18446744073709551616,.slice (J 67691 0) 1 18446744073709551616,I 1] 115,.row 67408 47 3 1 [T [97],I 1,.bool false] (none),.cells 67391 [.pointer (J 66543 0)] 118,.row 66847 101 7 1 [I 0,I 1,I 1,T [],I 1,I 2,T []] (none),.row 66840 53 1 1 [.slice (J 66572 0) 2 2] (none),.row 66572 51 3 2 [I 1,I 1,T [],I 1,I 2,T []] (some 2),.cells 66543 [.slice (J 66472 0) 1 18446744073709551616,.slice (J 66840 0) 1 18446744073709551616,.slice (J 66847 0) 1 18446744073709551616,I 2] 115,.row 66472 47 3 1 [T [97],I 1,.bool false] (none),.row 66073 54 1 1 [.slice (J 66072 0) 1 1] (some 1),.row 66072 51 3 1 [I 1,I 3,T []] (some 1),.cells 66070 [I 1,I 3,T []] 51,.row 65543 54 1 2 [.slice (J 65539 0) 1 1,.slice (J 65542 0) 1 1] (some 2),.row 65542 51 3 1 [I 1,I 2,T []] (some 1),.cells 65540 [I 1,I 2,T []] 51,.row 65539 51 3 1 [I 1,I 1,T []] (some 1),.cells 65537 [I 1,I 1,T []] 51,.row 65536 47 3 1 [T [97],I 1,.bool false] (some 1)]⟩
def v5:Value:=.tuple #[.agg #[.slice (J 68217 0) 2 18446744073709551616,.slice (J 68300 0) 1 18446744073709551616,.slice none 0 0,.slice none 0 0,I (-1)],I 0,I 0]
def t5:AS:=⟨2844,[.row 68300 63 6 1 [I 10,T [],I 0,I 0,T [],.slice (J 68286 0) 2 2] (none),.row 68286 63 6 2 [I 2,T [],I 1,I 1,T [],.slice none 0 0,I 1,T [97],I 0,I 0,T [],.slice none 0 0] (some 2),.row 68217 65 8 2 [T [115],I 3,I 1,T [97],I 0,I 0,T [],.slice none 0 0,T [110],I 1,I 0,T [],I 0,I 0,T [],.slice none 0 0] (none),.cells 68088 [.pointer (J 67479 0)] 118,.row 67691 101 7 1 [I 0,I 1,I 3,T [],I 1,I 3,T []] (none),.row 67684 53 1 1 [.slice (J 67497 0) 1 1] (none),.row 67497 51 3 1 [I 1,I 3,T []] (some 1),.cells 67479 [.slice (J 67408 0) 1 18446744073709551616,.slice (J 67684 0) 1 18446744073709551616,.slice (J 67691 0) 1 18446744073709551616,I 1] 115,.row 67408 47 3 1 [T [97],I 1,.bool false] (none),.cells 67391 [.pointer (J 66543 0)] 118,.row 66847 101 7 1 [I 0,I 1,I 1,T [],I 1,I 2,T []] (none),.row 66840 53 1 1 [.slice (J 66572 0) 2 2] (none),.row 66572 51 3 2 [I 1,I 1,T [],I 1,I 2,T []] (some 2),.cells 66543 [.slice (J 66472 0) 1 18446744073709551616,.slice (J 66840 0) 1 18446744073709551616,.slice (J 66847 0) 1 18446744073709551616,I 2] 115,.row 66472 47 3 1 [T [97],I 1,.bool false] (none),.row 66073 54 1 1 [.slice (J 66072 0) 1 1] (some 1),.row 66072 51 3 1 [I 1,I 3,T []] (some 1),.cells 66070 [I 1,I 3,T []] 51,.row 65543 54 1 2 [.slice (J 65539 0) 1 1,.slice (J 65542 0) 1 1] (some 2),.row 65542 51 3 1 [I 1,I 2,T []] (some 1),.cells 65540 [I 1,I 2,T []] 51,.row 65539 51 3 1 [I 1,I 1,T []] (some 1),.cells 65537 [I 1,I 1,T []] 51,.row 65536 47 3 1 [T [97],I 1,.bool false] (some 1)]⟩
theorem p5:U7 Tryz.prog G1 O1 100000 300 (.fn f.O7) a5 [] s5=some (v5,t5):=EA (by kernel_rfl)
end Ru
end Go.Proofs.YtegnhfeclchlmaaGreatDoor
namespace Go.Proofs.YtegnhfeclchlmaaGreatDoor
open Go.Dn Go.Proofs
set_option maxRecDepth 100000
namespace Ru
def a6:List Value:=[.slice (J 65536 0) 1 1,.agg #[.slice (J 68217 0) 2 18446744073709551616,.slice (J 68300 0) 1 18446744073709551616,.slice none 0 0,.slice none 0 0,I (-1)]]
def s6:AS:=⟨2846,[.cells 68380 [.slice (J 68217 0) 2 18446744073709551616,.slice (J 68300 0) 1 18446744073709551616,.slice none 0 0,.slice none 0 0,I (-1)] 27,.row 68300 63 6 1 [I 10,T [],I 0,I 0,T [],.slice (J 68286 0) 2 2] (none),.row 68286 63 6 2 [I 2,T [],I 1,I 1,T [],.slice none 0 0,I 1,T [97],I 0,I 0,T [],.slice none 0 0] (some 2),.row 68217 65 8 2 [T [115],I 3,I 1,T [97],I 0,I 0,T [],.slice none 0 0,T [110],I 1,I 0,T [],I 0,I 0,T [],.slice none 0 0] (none),.cells 68088 [.pointer (J 67479 0)] 118,.row 67691 101 7 1 [I 0,I 1,I 3,T [],I 1,I 3,T []] (none),.row 67684 53 1 1 [.slice (J 67497 0) 1 1] (none),.row 67497 51 3 1 [I 1,I 3,T []] (some 1),.cells 67479 [.slice (J 67408 0) 1 18446744073709551616,.slice (J 67684 0) 1 18446744073709551616,.slice (J 67691 0) 1 18446744073709551616,I 1] 115,.row 67408 47 3 1 [T [97],I 1,.bool false] (none),.cells 67391 [.pointer (J 66543 0)] 118,.row 66847 101 7 1 [I 0,I 1,I 1,T [],I 1,I 2,T []] (none),.row 66840 53 1 1 [.slice (J 66572 0) 2 2] (none),.row 66572 51 3 2 [I 1,I 1,T [],I 1,I 2,T []] (some 2),.cells 66543 [.slice (J 66472 0) 1 18446744073709551616,.slice (J 66840 0) 1 18446744073709551616,.slice (J 66847 0) 1 18446744073709551616,I 2] 115,.row 66472 47 3 1 [T [97],I 1,.bool false] (none),.row 66073 54 1 1 [.slice (J 66072 0) 1 1] (some 1),.row 66072 51 3 1 [I 1,I 3,T []] (some 1),.cells 66070 [I 1,I 3,T []] 51,.row 65543 54 1 2 [.slice (J 65539 0) 1 1,.slice (J 65542 0) 1 1] (some 2),.row 65542 51 3 1 [I 1,I 2,T []] (some 1),.cells 65540 [I 1,I 2,T []] 51,.row 65539 51 3 1 [I 1,I 1,T []] (some 1),.cells 65537 [I 1,I 1,T []] 51,.row 65536 47 3 1 [T [97],I 1,.bool false] (some 1)]⟩
def v6:Value:=.tuple #[.agg #[.slice (J 69373 0) 1 18446744073709551616,.slice (J 68217 0) 2 18446744073709551616,.slice (J 68300 0) 1 18446744073709551616,.slice none 0 0,.slice none 0 0,I (-1),.slice (J 69588 0) 2 18446744073709551616,.bool true],I 0]
def t6:AS:=⟨4056,[.row 69588 47 3 2 [T [115],I 1,.bool true,T [110],I 1,.bool true] (none),.row 69373 47 3 1 [T [97],I 1,.bool false] (none),.cells 68380 [.slice (J 68217 0) 2 18446744073709551616,.slice (J 68300 0) 1 18446744073709551616,.slice none 0 0,.slice none 0 0,I (-1)] 27,.row 68300 63 6 1 [I 10,T [],I 0,I 0,T [],.slice (J 68286 0) 2 2] (none),.row 68286 63 6 2 [I 2,T [],I 1,I 1,T [],.slice none 0 0,I 1,T [97],I 0,I 0,T [],.slice none 0 0] (some 2),.row 68217 65 8 2 [T [115],I 3,I 1,T [97],I 0,I 0,T [],.slice none 0 0,T [110],I 1,I 0,T [],I 0,I 0,T [],.slice none 0 0] (none),.cells 68088 [.pointer (J 67479 0)] 118,.row 67691 101 7 1 [I 0,I 1,I 3,T [],I 1,I 3,T []] (none),.row 67684 53 1 1 [.slice (J 67497 0) 1 1] (none),.row 67497 51 3 1 [I 1,I 3,T []] (some 1),.cells 67479 [.slice (J 67408 0) 1 18446744073709551616,.slice (J 67684 0) 1 18446744073709551616,.slice (J 67691 0) 1 18446744073709551616,I 1] 115,.row 67408 47 3 1 [T [97],I 1,.bool false] (none),.cells 67391 [.pointer (J 66543 0)] 118,.row 66847 101 7 1 [I 0,I 1,I 1,T [],I 1,I 2,T []] (none),.row 66840 53 1 1 [.slice (J 66572 0) 2 2] (none),.row 66572 51 3 2 [I 1,I 1,T [],I 1,I 2,T []] (some 2),.cells 66543 [.slice (J 66472 0) 1 18446744073709551616,.slice (J 66840 0) 1 18446744073709551616,.slice (J 66847 0) 1 18446744073709551616,I 2] 115,.row 66472 47 3 1 [T [97],I 1,.bool false] (none),.row 66073 54 1 1 [.slice (J 66072 0) 1 1] (some 1),.row 66072 51 3 1 [I 1,I 3,T []] (some 1),.cells 66070 [I 1,I 3,T []] 51,.row 65543 54 1 2 [.slice (J 65539 0) 1 1,.slice (J 65542 0) 1 1] (some 2),.row 65542 51 3 1 [I 1,I 2,T []] (some 1),.cells 65540 [I 1,I 2,T []] 51,.row 65539 51 3 1 [I 1,I 1,T []] (some 1),.cells 65537 [I 1,I 1,T []] 51,.row 65536 47 3 1 [T [97],I 1,.bool false] (some 1)]⟩
theorem p6:U7 Tryz.prog G1 O1 100000 300 (.fn f.Oe) a6 [] s6=some (v6,t6):=EA (by kernel_rfl)
end Ru
end Go.Proofs.YtegnhfeclchlmaaGreatDoor
namespace Go.Proofs.YtegnhfeclchlmaaGreatDoor
open Go.Dn Go.Proofs
set_option maxRecDepth 100000
namespace Ru
def a7:List Value:=[.agg #[.slice (J 69373 0) 1 18446744073709551616,.slice (J 68217 0) 2 18446744073709551616,.slice (J 68300 0) 1 18446744073709551616,.slice none 0 0,.slice none 0 0,I (-1),.slice (J 69588 0) 2 18446744073709551616,.bool true],.slice (J 69594 0) 2 2]
def s7:AS:=⟨4060,[.cells 69595 [.slice (J 69373 0) 1 18446744073709551616,.slice (J 68217 0) 2 18446744073709551616,.slice (J 68300 0) 1 18446744073709551616,.slice none 0 0,.slice none 0 0,I (-1),.slice (J 69588 0) 2 18446744073709551616,.bool true] 30,.row 69594 55 1 2 [.pointer (J 67391 0),.pointer (J 68088 0)] (some 2),.cells 69592 [.slice (J 69373 0) 1 18446744073709551616,.slice (J 68217 0) 2 18446744073709551616,.slice (J 68300 0) 1 18446744073709551616,.slice none 0 0,.slice none 0 0,I (-1),.slice (J 69588 0) 2 18446744073709551616,.bool true] 30,.row 69588 47 3 2 [T [115],I 1,.bool true,T [110],I 1,.bool true] (none),.row 69373 47 3 1 [T [97],I 1,.bool false] (none),.cells 68380 [.slice (J 68217 0) 2 18446744073709551616,.slice (J 68300 0) 1 18446744073709551616,.slice none 0 0,.slice none 0 0,I (-1)] 27,.row 68300 63 6 1 [I 10,T [],I 0,I 0,T [],.slice (J 68286 0) 2 2] (none),.row 68286 63 6 2 [I 2,T [],I 1,I 1,T [],.slice none 0 0,I 1,T [97],I 0,I 0,T [],.slice none 0 0] (some 2),.row 68217 65 8 2 [T [115],I 3,I 1,T [97],I 0,I 0,T [],.slice none 0 0,T [110],I 1,I 0,T [],I 0,I 0,T [],.slice none 0 0] (none),.cells 68088 [.pointer (J 67479 0)] 118,.row 67691 101 7 1 [I 0,I 1,I 3,T [],I 1,I 3,T []] (none),.row 67684 53 1 1 [.slice (J 67497 0) 1 1] (none),.row 67497 51 3 1 [I 1,I 3,T []] (some 1),.cells 67479 [.slice (J 67408 0) 1 18446744073709551616,.slice (J 67684 0) 1 18446744073709551616,.slice (J 67691 0) 1 18446744073709551616,I 1] 115,.row 67408 47 3 1 [T [97],I 1,.bool false] (none),.cells 67391 [.pointer (J 66543 0)] 118,.row 66847 101 7 1 [I 0,I 1,I 1,T [],I 1,I 2,T []] (none),.row 66840 53 1 1 [.slice (J 66572 0) 2 2] (none),.row 66572 51 3 2 [I 1,I 1,T [],I 1,I 2,T []] (some 2),.cells 66543 [.slice (J 66472 0) 1 18446744073709551616,.slice (J 66840 0) 1 18446744073709551616,.slice (J 66847 0) 1 18446744073709551616,I 2] 115,.row 66472 47 3 1 [T [97],I 1,.bool false] (none),.row 66073 54 1 1 [.slice (J 66072 0) 1 1] (some 1),.row 66072 51 3 1 [I 1,I 3,T []] (some 1),.cells 66070 [I 1,I 3,T []] 51,.row 65543 54 1 2 [.slice (J 65539 0) 1 1,.slice (J 65542 0) 1 1] (some 2),.row 65542 51 3 1 [I 1,I 2,T []] (some 1),.cells 65540 [I 1,I 2,T []] 51,.row 65539 51 3 1 [I 1,I 1,T []] (some 1),.cells 65537 [I 1,I 1,T []] 51,.row 65536 47 3 1 [T [97],I 1,.bool false] (some 1)]⟩
def v7:Value:=.tuple #[.pointer (J 70964 0),I 0]
def t7:AS:=⟨5432,[.row 70966 47 3 1 [T [97],I 1,.bool false] (none),.cells 70964 [.slice (J 70588 0) 1 18446744073709551616,.slice (J 68217 0) 2 18446744073709551616,.slice (J 68300 0) 1 18446744073709551616,.slice none 0 0,.slice none 0 0,I (-1),.slice (J 70803 0) 2 18446744073709551616,.bool true,.slice (J 70966 0) 1 18446744073709551616,.slice (J 70943 0) 1 18446744073709551616] 85,.row 70943 3 1 1 [I 0] (none),.row 70803 47 3 2 [T [115],I 1,.bool true,T [110],I 1,.bool true] (none),.row 70588 47 3 1 [T [97],I 1,.bool false] (none),.cells 69595 [.slice (J 69373 0) 1 18446744073709551616,.slice (J 68217 0) 2 18446744073709551616,.slice (J 68300 0) 1 18446744073709551616,.slice none 0 0,.slice none 0 0,I (-1),.slice (J 69588 0) 2 18446744073709551616,.bool true] 30,.row 69594 55 1 2 [.pointer (J 67391 0),.pointer (J 68088 0)] (some 2),.cells 69592 [.slice (J 69373 0) 1 18446744073709551616,.slice (J 68217 0) 2 18446744073709551616,.slice (J 68300 0) 1 18446744073709551616,.slice none 0 0,.slice none 0 0,I (-1),.slice (J 69588 0) 2 18446744073709551616,.bool true] 30,.row 69588 47 3 2 [T [115],I 1,.bool true,T [110],I 1,.bool true] (none),.row 69373 47 3 1 [T [97],I 1,.bool false] (none),.cells 68380 [.slice (J 68217 0) 2 18446744073709551616,.slice (J 68300 0) 1 18446744073709551616,.slice none 0 0,.slice none 0 0,I (-1)] 27,.row 68300 63 6 1 [I 10,T [],I 0,I 0,T [],.slice (J 68286 0) 2 2] (none),.row 68286 63 6 2 [I 2,T [],I 1,I 1,T [],.slice none 0 0,I 1,T [97],I 0,I 0,T [],.slice none 0 0] (some 2),.row 68217 65 8 2 [T [115],I 3,I 1,T [97],I 0,I 0,T [],.slice none 0 0,T [110],I 1,I 0,T [],I 0,I 0,T [],.slice none 0 0] (none),.cells 68088 [.pointer (J 67479 0)] 118,.row 67691 101 7 1 [I 0,I 1,I 3,T [],I 1,I 3,T []] (none),.row 67684 53 1 1 [.slice (J 67497 0) 1 1] (none),.row 67497 51 3 1 [I 1,I 3,T []] (some 1),.cells 67479 [.slice (J 67408 0) 1 18446744073709551616,.slice (J 67684 0) 1 18446744073709551616,.slice (J 67691 0) 1 18446744073709551616,I 1] 115,.row 67408 47 3 1 [T [97],I 1,.bool false] (none),.cells 67391 [.pointer (J 66543 0)] 118,.row 66847 101 7 1 [I 0,I 1,I 1,T [],I 1,I 2,T []] (none),.row 66840 53 1 1 [.slice (J 66572 0) 2 2] (none),.row 66572 51 3 2 [I 1,I 1,T [],I 1,I 2,T []] (some 2),.cells 66543 [.slice (J 66472 0) 1 18446744073709551616,.slice (J 66840 0) 1 18446744073709551616,.slice (J 66847 0) 1 18446744073709551616,I 2] 115,.row 66472 47 3 1 [T [97],I 1,.bool false] (none),.row 66073 54 1 1 [.slice (J 66072 0) 1 1] (some 1),.row 66072 51 3 1 [I 1,I 3,T []] (some 1),.cells 66070 [I 1,I 3,T []] 51,.row 65543 54 1 2 [.slice (J 65539 0) 1 1,.slice (J 65542 0) 1 1] (some 2),.row 65542 51 3 1 [I 1,I 2,T []] (some 1),.cells 65540 [I 1,I 2,T []] 51,.row 65539 51 3 1 [I 1,I 1,T []] (some 1),.cells 65537 [I 1,I 1,T []] 51,.row 65536 47 3 1 [T [97],I 1,.bool false] (some 1)]⟩
theorem p7:U7 Tryz.prog G1 O1 100000 300 (.fn f.NV) a7 [] s7=some (v7,t7):=EA (by kernel_rfl)
end Ru
end Go.Proofs.YtegnhfeclchlmaaGreatDoor
namespace Go.Proofs.YtegnhfeclchlmaaGreatDoor
open Go.Dn Go.Proofs
set_option maxRecDepth 100000
namespace Ru
def a8:List Value:=[.pointer (J 70964 0),.slice (J 71214 0) 1 18446744073709551616]
def s8:AS:=⟨5679,[.row 71214 53 1 1 [.slice (J 71212 0) 2 18446744073709551616] (none),.row 71213 53 1 1 [.slice (J 71212 0) 2 18446744073709551616] (some 1),.row 71212 51 3 2 [I 1,I 1,T [],I 1,I 2,T []] (none),.loop 70996 .busy none,.mark 70995,.cells 70994 [.slice (J 69594 0) 2 2] 39,.cells 70993 [.pointer (J 70964 0)] 79,.cells 70991 [I 0] 31,.cells 70990 [.func (.func 59) #[] #[.pointer (J 70984 0),.pointer (J 70986 0)]] 138,.cells 70989 [.slice (J 70977 0) 2 18446744073709551616] 24,.cells 70988 [.pointer (J 70964 0)] 79,.cells 70986 [I 0] 3,.cells 70984 [.pointer (J 70983 0)] 140,.cells 70983 [.slice (J 70981 0) 2 18446744073709551616,.map (some 70982),.slice none 0 0] 227,.mp 70982 [] 0,.row 70981 3 1 2 [I 3,I 1] (none),.row 70978 3 1 1 [I 1] (some 1),.row 70976 63 6 1 [I 2,T [],I 0,I 0,T [],.slice none 0 0] (some 1),.cells 70974 [T [110],I 1,I 0,T [],I 0,I 0,T [],.slice none 0 0] 65,.row 70979 3 1 2 [I 3,I 1] (none),.row 70972 3 1 1 [I 3] (some 1),.row 70977 63 6 2 [I 1,T [97],I 0,I 0,T [],.slice none 0 0,I 2,T [],I 0,I 0,T [],.slice none 0 0] (none),.row 70970 63 6 1 [I 1,T [97],I 0,I 0,T [],.slice none 0 0] (some 1),.cells 70968 [T [115],I 3,I 1,T [97],I 0,I 0,T [],.slice none 0 0] 65,.row 70966 47 3 1 [T [97],I 1,.bool false] (none),.cells 70964 [.slice (J 70588 0) 1 18446744073709551616,.slice (J 68217 0) 2 18446744073709551616,.slice (J 68300 0) 1 18446744073709551616,.slice none 0 0,.slice none 0 0,I (-1),.slice (J 70803 0) 2 18446744073709551616,.bool true,.slice (J 70966 0) 1 18446744073709551616,.slice (J 70943 0) 1 18446744073709551616] 85,.row 70943 3 1 1 [I 0] (none),.row 70803 47 3 2 [T [115],I 1,.bool true,T [110],I 1,.bool true] (none),.row 70588 47 3 1 [T [97],I 1,.bool false] (none),.cells 69595 [.slice (J 69373 0) 1 18446744073709551616,.slice (J 68217 0) 2 18446744073709551616,.slice (J 68300 0) 1 18446744073709551616,.slice none 0 0,.slice none 0 0,I (-1),.slice (J 69588 0) 2 18446744073709551616,.bool true] 30,.row 69594 55 1 2 [.pointer (J 67391 0),.pointer (J 68088 0)] (some 2),.cells 69592 [.slice (J 69373 0) 1 18446744073709551616,.slice (J 68217 0) 2 18446744073709551616,.slice (J 68300 0) 1 18446744073709551616,.slice none 0 0,.slice none 0 0,I (-1),.slice (J 69588 0) 2 18446744073709551616,.bool true] 30,.row 69588 47 3 2 [T [115],I 1,.bool true,T [110],I 1,.bool true] (none),.row 69373 47 3 1 [T [97],I 1,.bool false] (none),.cells 68380 [.slice (J 68217 0) 2 18446744073709551616,.slice (J 68300 0) 1 18446744073709551616,.slice none 0 0,.slice none 0 0,I (-1)] 27,.row 68300 63 6 1 [I 10,T [],I 0,I 0,T [],.slice (J 68286 0) 2 2] (none),.row 68286 63 6 2 [I 2,T [],I 1,I 1,T [],.slice none 0 0,I 1,T [97],I 0,I 0,T [],.slice none 0 0] (some 2),.row 68217 65 8 2 [T [115],I 3,I 1,T [97],I 0,I 0,T [],.slice none 0 0,T [110],I 1,I 0,T [],I 0,I 0,T [],.slice none 0 0] (none),.cells 68088 [.pointer (J 67479 0)] 118,.row 67691 101 7 1 [I 0,I 1,I 3,T [],I 1,I 3,T []] (none),.row 67684 53 1 1 [.slice (J 67497 0) 1 1] (none),.row 67497 51 3 1 [I 1,I 3,T []] (some 1),.cells 67479 [.slice (J 67408 0) 1 18446744073709551616,.slice (J 67684 0) 1 18446744073709551616,.slice (J 67691 0) 1 18446744073709551616,I 1] 115,.row 67408 47 3 1 [T [97],I 1,.bool false] (none),.cells 67391 [.pointer (J 66543 0)] 118,.row 66847 101 7 1 [I 0,I 1,I 1,T [],I 1,I 2,T []] (none),.row 66840 53 1 1 [.slice (J 66572 0) 2 2] (none),.row 66572 51 3 2 [I 1,I 1,T [],I 1,I 2,T []] (some 2),.cells 66543 [.slice (J 66472 0) 1 18446744073709551616,.slice (J 66840 0) 1 18446744073709551616,.slice (J 66847 0) 1 18446744073709551616,I 2] 115,.row 66472 47 3 1 [T [97],I 1,.bool false] (none),.row 66073 54 1 1 [.slice (J 66072 0) 1 1] (some 1),.row 66072 51 3 1 [I 1,I 3,T []] (some 1),.cells 66070 [I 1,I 3,T []] 51,.row 65543 54 1 2 [.slice (J 65539 0) 1 1,.slice (J 65542 0) 1 1] (some 2),.row 65542 51 3 1 [I 1,I 2,T []] (some 1),.cells 65540 [I 1,I 2,T []] 51,.row 65539 51 3 1 [I 1,I 1,T []] (some 1),.cells 65537 [I 1,I 1,T []] 51,.row 65536 47 3 1 [T [97],I 1,.bool false] (some 1)]⟩
def v8:Value:=.tuple #[.slice (J 72051 0) 1 18446744073709551616,I 0]
def t8:AS:=⟨6516,[.row 72051 3 1 1 [I 1] (none),.row 71214 53 1 1 [.slice (J 71212 0) 2 18446744073709551616] (none),.row 71213 53 1 1 [.slice (J 71212 0) 2 18446744073709551616] (some 1),.row 71212 51 3 2 [I 1,I 1,T [],I 1,I 2,T []] (none),.loop 70996 .busy none,.mark 70995,.cells 70994 [.slice (J 69594 0) 2 2] 39,.cells 70993 [.pointer (J 70964 0)] 79,.cells 70991 [I 0] 31,.cells 70990 [.func (.func 59) #[] #[.pointer (J 70984 0),.pointer (J 70986 0)]] 138,.cells 70989 [.slice (J 70977 0) 2 18446744073709551616] 24,.cells 70988 [.pointer (J 70964 0)] 79,.cells 70986 [I 0] 3,.cells 70984 [.pointer (J 70983 0)] 140,.cells 70983 [.slice (J 70981 0) 2 18446744073709551616,.map (some 70982),.slice none 0 0] 227,.mp 70982 [] 0,.row 70981 3 1 2 [I 3,I 1] (none),.row 70978 3 1 1 [I 1] (some 1),.row 70976 63 6 1 [I 2,T [],I 0,I 0,T [],.slice none 0 0] (some 1),.cells 70974 [T [110],I 1,I 0,T [],I 0,I 0,T [],.slice none 0 0] 65,.row 70979 3 1 2 [I 3,I 1] (none),.row 70972 3 1 1 [I 3] (some 1),.row 70977 63 6 2 [I 1,T [97],I 0,I 0,T [],.slice none 0 0,I 2,T [],I 0,I 0,T [],.slice none 0 0] (none),.row 70970 63 6 1 [I 1,T [97],I 0,I 0,T [],.slice none 0 0] (some 1),.cells 70968 [T [115],I 3,I 1,T [97],I 0,I 0,T [],.slice none 0 0] 65,.row 70966 47 3 1 [T [97],I 1,.bool false] (none),.cells 70964 [.slice (J 70588 0) 1 18446744073709551616,.slice (J 68217 0) 2 18446744073709551616,.slice (J 68300 0) 1 18446744073709551616,.slice none 0 0,.slice none 0 0,I (-1),.slice (J 70803 0) 2 18446744073709551616,.bool true,.slice (J 70966 0) 1 18446744073709551616,.slice (J 70943 0) 1 18446744073709551616] 85,.row 70943 3 1 1 [I 0] (none),.row 70803 47 3 2 [T [115],I 1,.bool true,T [110],I 1,.bool true] (none),.row 70588 47 3 1 [T [97],I 1,.bool false] (none),.cells 69595 [.slice (J 69373 0) 1 18446744073709551616,.slice (J 68217 0) 2 18446744073709551616,.slice (J 68300 0) 1 18446744073709551616,.slice none 0 0,.slice none 0 0,I (-1),.slice (J 69588 0) 2 18446744073709551616,.bool true] 30,.row 69594 55 1 2 [.pointer (J 67391 0),.pointer (J 68088 0)] (some 2),.cells 69592 [.slice (J 69373 0) 1 18446744073709551616,.slice (J 68217 0) 2 18446744073709551616,.slice (J 68300 0) 1 18446744073709551616,.slice none 0 0,.slice none 0 0,I (-1),.slice (J 69588 0) 2 18446744073709551616,.bool true] 30,.row 69588 47 3 2 [T [115],I 1,.bool true,T [110],I 1,.bool true] (none),.row 69373 47 3 1 [T [97],I 1,.bool false] (none),.cells 68380 [.slice (J 68217 0) 2 18446744073709551616,.slice (J 68300 0) 1 18446744073709551616,.slice none 0 0,.slice none 0 0,I (-1)] 27,.row 68300 63 6 1 [I 10,T [],I 0,I 0,T [],.slice (J 68286 0) 2 2] (none),.row 68286 63 6 2 [I 2,T [],I 1,I 1,T [],.slice none 0 0,I 1,T [97],I 0,I 0,T [],.slice none 0 0] (some 2),.row 68217 65 8 2 [T [115],I 3,I 1,T [97],I 0,I 0,T [],.slice none 0 0,T [110],I 1,I 0,T [],I 0,I 0,T [],.slice none 0 0] (none),.cells 68088 [.pointer (J 67479 0)] 118,.row 67691 101 7 1 [I 0,I 1,I 3,T [],I 1,I 3,T []] (none),.row 67684 53 1 1 [.slice (J 67497 0) 1 1] (none),.row 67497 51 3 1 [I 1,I 3,T []] (some 1),.cells 67479 [.slice (J 67408 0) 1 18446744073709551616,.slice (J 67684 0) 1 18446744073709551616,.slice (J 67691 0) 1 18446744073709551616,I 1] 115,.row 67408 47 3 1 [T [97],I 1,.bool false] (none),.cells 67391 [.pointer (J 66543 0)] 118,.row 66847 101 7 1 [I 0,I 1,I 1,T [],I 1,I 2,T []] (none),.row 66840 53 1 1 [.slice (J 66572 0) 2 2] (none),.row 66572 51 3 2 [I 1,I 1,T [],I 1,I 2,T []] (some 2),.cells 66543 [.slice (J 66472 0) 1 18446744073709551616,.slice (J 66840 0) 1 18446744073709551616,.slice (J 66847 0) 1 18446744073709551616,I 2] 115,.row 66472 47 3 1 [T [97],I 1,.bool false] (none),.row 66073 54 1 1 [.slice (J 66072 0) 1 1] (some 1),.row 66072 51 3 1 [I 1,I 3,T []] (some 1),.cells 66070 [I 1,I 3,T []] 51,.row 65543 54 1 2 [.slice (J 65539 0) 1 1,.slice (J 65542 0) 1 1] (some 2),.row 65542 51 3 1 [I 1,I 2,T []] (some 1),.cells 65540 [I 1,I 2,T []] 51,.row 65539 51 3 1 [I 1,I 1,T []] (some 1),.cells 65537 [I 1,I 1,T []] 51,.row 65536 47 3 1 [T [97],I 1,.bool false] (some 1)]⟩
theorem p8:U7 Tryz.prog G1 O1 100000 300 (.fn f.D9) a8 [] s8=some (v8,t8):=EA (by kernel_rfl)
end Ru
end Go.Proofs.YtegnhfeclchlmaaGreatDoor
namespace Go.Proofs.YtegnhfeclchlmaaGreatDoor
open Go.Dn Go.Proofs
set_option maxRecDepth 100000
namespace Ru
def a9:List Value:=[.pointer (J 70964 0),.slice (J 71214 0) 1 18446744073709551616,.slice (J 72051 0) 1 18446744073709551616,.slice (J 70977 0) 2 18446744073709551616]
def s9:AS:=⟨6516,[.row 72051 3 1 1 [I 1] (none),.row 71214 53 1 1 [.slice (J 71212 0) 2 18446744073709551616] (none),.row 71213 53 1 1 [.slice (J 71212 0) 2 18446744073709551616] (some 1),.row 71212 51 3 2 [I 1,I 1,T [],I 1,I 2,T []] (none),.loop 70996 .busy none,.mark 70995,.cells 70994 [.slice (J 69594 0) 2 2] 39,.cells 70993 [.pointer (J 70964 0)] 79,.cells 70991 [I 0] 31,.cells 70990 [.func (.func 59) #[] #[.pointer (J 70984 0),.pointer (J 70986 0)]] 138,.cells 70989 [.slice (J 70977 0) 2 18446744073709551616] 24,.cells 70988 [.pointer (J 70964 0)] 79,.cells 70986 [I 0] 3,.cells 70984 [.pointer (J 70983 0)] 140,.cells 70983 [.slice (J 70981 0) 2 18446744073709551616,.map (some 70982),.slice none 0 0] 227,.mp 70982 [] 0,.row 70981 3 1 2 [I 3,I 1] (none),.row 70978 3 1 1 [I 1] (some 1),.row 70976 63 6 1 [I 2,T [],I 0,I 0,T [],.slice none 0 0] (some 1),.cells 70974 [T [110],I 1,I 0,T [],I 0,I 0,T [],.slice none 0 0] 65,.row 70979 3 1 2 [I 3,I 1] (none),.row 70972 3 1 1 [I 3] (some 1),.row 70977 63 6 2 [I 1,T [97],I 0,I 0,T [],.slice none 0 0,I 2,T [],I 0,I 0,T [],.slice none 0 0] (none),.row 70970 63 6 1 [I 1,T [97],I 0,I 0,T [],.slice none 0 0] (some 1),.cells 70968 [T [115],I 3,I 1,T [97],I 0,I 0,T [],.slice none 0 0] 65,.row 70966 47 3 1 [T [97],I 1,.bool false] (none),.cells 70964 [.slice (J 70588 0) 1 18446744073709551616,.slice (J 68217 0) 2 18446744073709551616,.slice (J 68300 0) 1 18446744073709551616,.slice none 0 0,.slice none 0 0,I (-1),.slice (J 70803 0) 2 18446744073709551616,.bool true,.slice (J 70966 0) 1 18446744073709551616,.slice (J 70943 0) 1 18446744073709551616] 85,.row 70943 3 1 1 [I 0] (none),.row 70803 47 3 2 [T [115],I 1,.bool true,T [110],I 1,.bool true] (none),.row 70588 47 3 1 [T [97],I 1,.bool false] (none),.cells 69595 [.slice (J 69373 0) 1 18446744073709551616,.slice (J 68217 0) 2 18446744073709551616,.slice (J 68300 0) 1 18446744073709551616,.slice none 0 0,.slice none 0 0,I (-1),.slice (J 69588 0) 2 18446744073709551616,.bool true] 30,.row 69594 55 1 2 [.pointer (J 67391 0),.pointer (J 68088 0)] (some 2),.cells 69592 [.slice (J 69373 0) 1 18446744073709551616,.slice (J 68217 0) 2 18446744073709551616,.slice (J 68300 0) 1 18446744073709551616,.slice none 0 0,.slice none 0 0,I (-1),.slice (J 69588 0) 2 18446744073709551616,.bool true] 30,.row 69588 47 3 2 [T [115],I 1,.bool true,T [110],I 1,.bool true] (none),.row 69373 47 3 1 [T [97],I 1,.bool false] (none),.cells 68380 [.slice (J 68217 0) 2 18446744073709551616,.slice (J 68300 0) 1 18446744073709551616,.slice none 0 0,.slice none 0 0,I (-1)] 27,.row 68300 63 6 1 [I 10,T [],I 0,I 0,T [],.slice (J 68286 0) 2 2] (none),.row 68286 63 6 2 [I 2,T [],I 1,I 1,T [],.slice none 0 0,I 1,T [97],I 0,I 0,T [],.slice none 0 0] (some 2),.row 68217 65 8 2 [T [115],I 3,I 1,T [97],I 0,I 0,T [],.slice none 0 0,T [110],I 1,I 0,T [],I 0,I 0,T [],.slice none 0 0] (none),.cells 68088 [.pointer (J 67479 0)] 118,.row 67691 101 7 1 [I 0,I 1,I 3,T [],I 1,I 3,T []] (none),.row 67684 53 1 1 [.slice (J 67497 0) 1 1] (none),.row 67497 51 3 1 [I 1,I 3,T []] (some 1),.cells 67479 [.slice (J 67408 0) 1 18446744073709551616,.slice (J 67684 0) 1 18446744073709551616,.slice (J 67691 0) 1 18446744073709551616,I 1] 115,.row 67408 47 3 1 [T [97],I 1,.bool false] (none),.cells 67391 [.pointer (J 66543 0)] 118,.row 66847 101 7 1 [I 0,I 1,I 1,T [],I 1,I 2,T []] (none),.row 66840 53 1 1 [.slice (J 66572 0) 2 2] (none),.row 66572 51 3 2 [I 1,I 1,T [],I 1,I 2,T []] (some 2),.cells 66543 [.slice (J 66472 0) 1 18446744073709551616,.slice (J 66840 0) 1 18446744073709551616,.slice (J 66847 0) 1 18446744073709551616,I 2] 115,.row 66472 47 3 1 [T [97],I 1,.bool false] (none),.row 66073 54 1 1 [.slice (J 66072 0) 1 1] (some 1),.row 66072 51 3 1 [I 1,I 3,T []] (some 1),.cells 66070 [I 1,I 3,T []] 51,.row 65543 54 1 2 [.slice (J 65539 0) 1 1,.slice (J 65542 0) 1 1] (some 2),.row 65542 51 3 1 [I 1,I 2,T []] (some 1),.cells 65540 [I 1,I 2,T []] 51,.row 65539 51 3 1 [I 1,I 1,T []] (some 1),.cells 65537 [I 1,I 1,T []] 51,.row 65536 47 3 1 [T [97],I 1,.bool false] (some 1)]⟩
def v9:Value:=.tuple #[.slice (J 72052 0) 1 1,.slice (J 72053 0) 1 1]
def t9:AS:=⟨6976,[.row 72509 51 3 2 [I 1,I 2,T [],I 0,I 0,T []] (none),.row 72053 31 1 1 [I 0] (some 1),.row 72052 54 1 1 [.slice (J 72509 0) 2 18446744073709551616] (some 1),.row 72051 3 1 1 [I 1] (none),.row 71214 53 1 1 [.slice (J 71212 0) 2 18446744073709551616] (none),.row 71213 53 1 1 [.slice (J 71212 0) 2 18446744073709551616] (some 1),.row 71212 51 3 2 [I 1,I 1,T [],I 1,I 2,T []] (none),.loop 70996 .busy none,.mark 70995,.cells 70994 [.slice (J 69594 0) 2 2] 39,.cells 70993 [.pointer (J 70964 0)] 79,.cells 70991 [I 0] 31,.cells 70990 [.func (.func 59) #[] #[.pointer (J 70984 0),.pointer (J 70986 0)]] 138,.cells 70989 [.slice (J 70977 0) 2 18446744073709551616] 24,.cells 70988 [.pointer (J 70964 0)] 79,.cells 70986 [I 0] 3,.cells 70984 [.pointer (J 70983 0)] 140,.cells 70983 [.slice (J 70981 0) 2 18446744073709551616,.map (some 70982),.slice none 0 0] 227,.mp 70982 [] 0,.row 70981 3 1 2 [I 3,I 1] (none),.row 70978 3 1 1 [I 1] (some 1),.row 70976 63 6 1 [I 2,T [],I 0,I 0,T [],.slice none 0 0] (some 1),.cells 70974 [T [110],I 1,I 0,T [],I 0,I 0,T [],.slice none 0 0] 65,.row 70979 3 1 2 [I 3,I 1] (none),.row 70972 3 1 1 [I 3] (some 1),.row 70977 63 6 2 [I 1,T [97],I 0,I 0,T [],.slice none 0 0,I 2,T [],I 0,I 0,T [],.slice none 0 0] (none),.row 70970 63 6 1 [I 1,T [97],I 0,I 0,T [],.slice none 0 0] (some 1),.cells 70968 [T [115],I 3,I 1,T [97],I 0,I 0,T [],.slice none 0 0] 65,.row 70966 47 3 1 [T [97],I 1,.bool false] (none),.cells 70964 [.slice (J 70588 0) 1 18446744073709551616,.slice (J 68217 0) 2 18446744073709551616,.slice (J 68300 0) 1 18446744073709551616,.slice none 0 0,.slice none 0 0,I (-1),.slice (J 70803 0) 2 18446744073709551616,.bool true,.slice (J 70966 0) 1 18446744073709551616,.slice (J 70943 0) 1 18446744073709551616] 85,.row 70943 3 1 1 [I 0] (none),.row 70803 47 3 2 [T [115],I 1,.bool true,T [110],I 1,.bool true] (none),.row 70588 47 3 1 [T [97],I 1,.bool false] (none),.cells 69595 [.slice (J 69373 0) 1 18446744073709551616,.slice (J 68217 0) 2 18446744073709551616,.slice (J 68300 0) 1 18446744073709551616,.slice none 0 0,.slice none 0 0,I (-1),.slice (J 69588 0) 2 18446744073709551616,.bool true] 30,.row 69594 55 1 2 [.pointer (J 67391 0),.pointer (J 68088 0)] (some 2),.cells 69592 [.slice (J 69373 0) 1 18446744073709551616,.slice (J 68217 0) 2 18446744073709551616,.slice (J 68300 0) 1 18446744073709551616,.slice none 0 0,.slice none 0 0,I (-1),.slice (J 69588 0) 2 18446744073709551616,.bool true] 30,.row 69588 47 3 2 [T [115],I 1,.bool true,T [110],I 1,.bool true] (none),.row 69373 47 3 1 [T [97],I 1,.bool false] (none),.cells 68380 [.slice (J 68217 0) 2 18446744073709551616,.slice (J 68300 0) 1 18446744073709551616,.slice none 0 0,.slice none 0 0,I (-1)] 27,.row 68300 63 6 1 [I 10,T [],I 0,I 0,T [],.slice (J 68286 0) 2 2] (none),.row 68286 63 6 2 [I 2,T [],I 1,I 1,T [],.slice none 0 0,I 1,T [97],I 0,I 0,T [],.slice none 0 0] (some 2),.row 68217 65 8 2 [T [115],I 3,I 1,T [97],I 0,I 0,T [],.slice none 0 0,T [110],I 1,I 0,T [],I 0,I 0,T [],.slice none 0 0] (none),.cells 68088 [.pointer (J 67479 0)] 118,.row 67691 101 7 1 [I 0,I 1,I 3,T [],I 1,I 3,T []] (none),.row 67684 53 1 1 [.slice (J 67497 0) 1 1] (none),.row 67497 51 3 1 [I 1,I 3,T []] (some 1),.cells 67479 [.slice (J 67408 0) 1 18446744073709551616,.slice (J 67684 0) 1 18446744073709551616,.slice (J 67691 0) 1 18446744073709551616,I 1] 115,.row 67408 47 3 1 [T [97],I 1,.bool false] (none),.cells 67391 [.pointer (J 66543 0)] 118,.row 66847 101 7 1 [I 0,I 1,I 1,T [],I 1,I 2,T []] (none),.row 66840 53 1 1 [.slice (J 66572 0) 2 2] (none),.row 66572 51 3 2 [I 1,I 1,T [],I 1,I 2,T []] (some 2),.cells 66543 [.slice (J 66472 0) 1 18446744073709551616,.slice (J 66840 0) 1 18446744073709551616,.slice (J 66847 0) 1 18446744073709551616,I 2] 115,.row 66472 47 3 1 [T [97],I 1,.bool false] (none),.row 66073 54 1 1 [.slice (J 66072 0) 1 1] (some 1),.row 66072 51 3 1 [I 1,I 3,T []] (some 1),.cells 66070 [I 1,I 3,T []] 51,.row 65543 54 1 2 [.slice (J 65539 0) 1 1,.slice (J 65542 0) 1 1] (some 2),.row 65542 51 3 1 [I 1,I 2,T []] (some 1),.cells 65540 [I 1,I 2,T []] 51,.row 65539 51 3 1 [I 1,I 1,T []] (some 1),.cells 65537 [I 1,I 1,T []] 51,.row 65536 47 3 1 [T [97],I 1,.bool false] (some 1)]⟩
theorem p9:U7 Tryz.prog G1 O1 100000 300 (.fn f.DI) a9 [] s9=some (v9,t9):=EA (by kernel_rfl)
end Ru
end Go.Proofs.YtegnhfeclchlmaaGreatDoor
namespace Go.Proofs.YtegnhfeclchlmaaGreatDoor
open Go.Dn Go.Proofs
set_option maxRecDepth 100000
namespace Ru
def a10:List Value:=[.pointer (J 70964 0),.slice (J 72775 0) 1 18446744073709551616]
def s10:AS:=⟨7240,[.row 72775 53 1 1 [.slice (J 72773 0) 1 18446744073709551616] (none),.row 72774 53 1 1 [.slice (J 72773 0) 1 18446744073709551616] (some 1),.row 72773 51 3 1 [I 1,I 3,T []] (none),.row 72541 233 1 1 [.pointer (J 72535 0)] (none),.cells 72535 [.slice (J 72537 0) 0 0,.slice (J 72533 0) 2 2] 232,.row 72533 236 10 2 [I 1,I 1,I 0,.int .u64 2,I 1,I 2,T [],I 1,I 2,T [],I 1,I 0,I 0,.int .u64 0,I 0,I 0,T [],I 0,I 0,T []] (some 2),.row 72537 51 3 0 [] (some 0),.row 72509 51 3 2 [I 1,I 2,T [],I 0,I 0,T []] (none),.row 72053 31 1 1 [I 0] (some 1),.row 72052 54 1 1 [.slice (J 72509 0) 2 18446744073709551616] (some 1),.row 72051 3 1 1 [I 1] (none),.row 71214 53 1 1 [.slice (J 71212 0) 2 18446744073709551616] (none),.row 71213 53 1 1 [.slice (J 71212 0) 2 18446744073709551616] (some 1),.row 71212 51 3 2 [I 1,I 1,T [],I 1,I 2,T []] (none),.loop 70996 .busy none,.mark 70995,.cells 70994 [.slice (J 69594 0) 2 2] 39,.cells 70993 [.pointer (J 70964 0)] 79,.cells 70991 [I 0] 31,.cells 70990 [.func (.func 59) #[] #[.pointer (J 70984 0),.pointer (J 70986 0)]] 138,.cells 70989 [.slice (J 70977 0) 2 18446744073709551616] 24,.cells 70988 [.pointer (J 70964 0)] 79,.cells 70986 [I 0] 3,.cells 70984 [.pointer (J 70983 0)] 140,.cells 70983 [.slice (J 70981 0) 2 18446744073709551616,.map (some 70982),.slice (J 72541 0) 1 18446744073709551616] 227,.mp 70982 [(⟨#[]⟩,.pointer (J 72535 0),0)] 1,.row 70981 3 1 2 [I 3,I 1] (none),.row 70978 3 1 1 [I 1] (some 1),.row 70976 63 6 1 [I 2,T [],I 0,I 0,T [],.slice none 0 0] (some 1),.cells 70974 [T [110],I 1,I 0,T [],I 0,I 0,T [],.slice none 0 0] 65,.row 70979 3 1 2 [I 3,I 1] (none),.row 70972 3 1 1 [I 3] (some 1),.row 70977 63 6 2 [I 1,T [97],I 0,I 0,T [],.slice none 0 0,I 2,T [],I 0,I 0,T [],.slice none 0 0] (none),.row 70970 63 6 1 [I 1,T [97],I 0,I 0,T [],.slice none 0 0] (some 1),.cells 70968 [T [115],I 3,I 1,T [97],I 0,I 0,T [],.slice none 0 0] 65,.row 70966 47 3 1 [T [97],I 1,.bool false] (none),.cells 70964 [.slice (J 70588 0) 1 18446744073709551616,.slice (J 68217 0) 2 18446744073709551616,.slice (J 68300 0) 1 18446744073709551616,.slice none 0 0,.slice none 0 0,I (-1),.slice (J 70803 0) 2 18446744073709551616,.bool true,.slice (J 70966 0) 1 18446744073709551616,.slice (J 70943 0) 1 18446744073709551616] 85,.row 70943 3 1 1 [I 0] (none),.row 70803 47 3 2 [T [115],I 1,.bool true,T [110],I 1,.bool true] (none),.row 70588 47 3 1 [T [97],I 1,.bool false] (none),.cells 69595 [.slice (J 69373 0) 1 18446744073709551616,.slice (J 68217 0) 2 18446744073709551616,.slice (J 68300 0) 1 18446744073709551616,.slice none 0 0,.slice none 0 0,I (-1),.slice (J 69588 0) 2 18446744073709551616,.bool true] 30,.row 69594 55 1 2 [.pointer (J 67391 0),.pointer (J 68088 0)] (some 2),.cells 69592 [.slice (J 69373 0) 1 18446744073709551616,.slice (J 68217 0) 2 18446744073709551616,.slice (J 68300 0) 1 18446744073709551616,.slice none 0 0,.slice none 0 0,I (-1),.slice (J 69588 0) 2 18446744073709551616,.bool true] 30,.row 69588 47 3 2 [T [115],I 1,.bool true,T [110],I 1,.bool true] (none),.row 69373 47 3 1 [T [97],I 1,.bool false] (none),.cells 68380 [.slice (J 68217 0) 2 18446744073709551616,.slice (J 68300 0) 1 18446744073709551616,.slice none 0 0,.slice none 0 0,I (-1)] 27,.row 68300 63 6 1 [I 10,T [],I 0,I 0,T [],.slice (J 68286 0) 2 2] (none),.row 68286 63 6 2 [I 2,T [],I 1,I 1,T [],.slice none 0 0,I 1,T [97],I 0,I 0,T [],.slice none 0 0] (some 2),.row 68217 65 8 2 [T [115],I 3,I 1,T [97],I 0,I 0,T [],.slice none 0 0,T [110],I 1,I 0,T [],I 0,I 0,T [],.slice none 0 0] (none),.cells 68088 [.pointer (J 67479 0)] 118,.row 67691 101 7 1 [I 0,I 1,I 3,T [],I 1,I 3,T []] (none),.row 67684 53 1 1 [.slice (J 67497 0) 1 1] (none),.row 67497 51 3 1 [I 1,I 3,T []] (some 1),.cells 67479 [.slice (J 67408 0) 1 18446744073709551616,.slice (J 67684 0) 1 18446744073709551616,.slice (J 67691 0) 1 18446744073709551616,I 1] 115,.row 67408 47 3 1 [T [97],I 1,.bool false] (none),.cells 67391 [.pointer (J 66543 0)] 118,.row 66847 101 7 1 [I 0,I 1,I 1,T [],I 1,I 2,T []] (none),.row 66840 53 1 1 [.slice (J 66572 0) 2 2] (none),.row 66572 51 3 2 [I 1,I 1,T [],I 1,I 2,T []] (some 2),.cells 66543 [.slice (J 66472 0) 1 18446744073709551616,.slice (J 66840 0) 1 18446744073709551616,.slice (J 66847 0) 1 18446744073709551616,I 2] 115,.row 66472 47 3 1 [T [97],I 1,.bool false] (none),.row 66073 54 1 1 [.slice (J 66072 0) 1 1] (some 1),.row 66072 51 3 1 [I 1,I 3,T []] (some 1),.cells 66070 [I 1,I 3,T []] 51,.row 65543 54 1 2 [.slice (J 65539 0) 1 1,.slice (J 65542 0) 1 1] (some 2),.row 65542 51 3 1 [I 1,I 2,T []] (some 1),.cells 65540 [I 1,I 2,T []] 51,.row 65539 51 3 1 [I 1,I 1,T []] (some 1),.cells 65537 [I 1,I 1,T []] 51,.row 65536 47 3 1 [T [97],I 1,.bool false] (some 1)]⟩
def v10:Value:=.tuple #[.slice (J 73318 0) 1 18446744073709551616,I 0]
def t10:AS:=⟨7783,[.row 73318 3 1 1 [I 0] (none),.row 72775 53 1 1 [.slice (J 72773 0) 1 18446744073709551616] (none),.row 72774 53 1 1 [.slice (J 72773 0) 1 18446744073709551616] (some 1),.row 72773 51 3 1 [I 1,I 3,T []] (none),.row 72541 233 1 1 [.pointer (J 72535 0)] (none),.cells 72535 [.slice (J 72537 0) 0 0,.slice (J 72533 0) 2 2] 232,.row 72533 236 10 2 [I 1,I 1,I 0,.int .u64 2,I 1,I 2,T [],I 1,I 2,T [],I 1,I 0,I 0,.int .u64 0,I 0,I 0,T [],I 0,I 0,T []] (some 2),.row 72537 51 3 0 [] (some 0),.row 72509 51 3 2 [I 1,I 2,T [],I 0,I 0,T []] (none),.row 72053 31 1 1 [I 0] (some 1),.row 72052 54 1 1 [.slice (J 72509 0) 2 18446744073709551616] (some 1),.row 72051 3 1 1 [I 1] (none),.row 71214 53 1 1 [.slice (J 71212 0) 2 18446744073709551616] (none),.row 71213 53 1 1 [.slice (J 71212 0) 2 18446744073709551616] (some 1),.row 71212 51 3 2 [I 1,I 1,T [],I 1,I 2,T []] (none),.loop 70996 .busy none,.mark 70995,.cells 70994 [.slice (J 69594 0) 2 2] 39,.cells 70993 [.pointer (J 70964 0)] 79,.cells 70991 [I 0] 31,.cells 70990 [.func (.func 59) #[] #[.pointer (J 70984 0),.pointer (J 70986 0)]] 138,.cells 70989 [.slice (J 70977 0) 2 18446744073709551616] 24,.cells 70988 [.pointer (J 70964 0)] 79,.cells 70986 [I 0] 3,.cells 70984 [.pointer (J 70983 0)] 140,.cells 70983 [.slice (J 70981 0) 2 18446744073709551616,.map (some 70982),.slice (J 72541 0) 1 18446744073709551616] 227,.mp 70982 [(⟨#[]⟩,.pointer (J 72535 0),0)] 1,.row 70981 3 1 2 [I 3,I 1] (none),.row 70978 3 1 1 [I 1] (some 1),.row 70976 63 6 1 [I 2,T [],I 0,I 0,T [],.slice none 0 0] (some 1),.cells 70974 [T [110],I 1,I 0,T [],I 0,I 0,T [],.slice none 0 0] 65,.row 70979 3 1 2 [I 3,I 1] (none),.row 70972 3 1 1 [I 3] (some 1),.row 70977 63 6 2 [I 1,T [97],I 0,I 0,T [],.slice none 0 0,I 2,T [],I 0,I 0,T [],.slice none 0 0] (none),.row 70970 63 6 1 [I 1,T [97],I 0,I 0,T [],.slice none 0 0] (some 1),.cells 70968 [T [115],I 3,I 1,T [97],I 0,I 0,T [],.slice none 0 0] 65,.row 70966 47 3 1 [T [97],I 1,.bool false] (none),.cells 70964 [.slice (J 70588 0) 1 18446744073709551616,.slice (J 68217 0) 2 18446744073709551616,.slice (J 68300 0) 1 18446744073709551616,.slice none 0 0,.slice none 0 0,I (-1),.slice (J 70803 0) 2 18446744073709551616,.bool true,.slice (J 70966 0) 1 18446744073709551616,.slice (J 70943 0) 1 18446744073709551616] 85,.row 70943 3 1 1 [I 0] (none),.row 70803 47 3 2 [T [115],I 1,.bool true,T [110],I 1,.bool true] (none),.row 70588 47 3 1 [T [97],I 1,.bool false] (none),.cells 69595 [.slice (J 69373 0) 1 18446744073709551616,.slice (J 68217 0) 2 18446744073709551616,.slice (J 68300 0) 1 18446744073709551616,.slice none 0 0,.slice none 0 0,I (-1),.slice (J 69588 0) 2 18446744073709551616,.bool true] 30,.row 69594 55 1 2 [.pointer (J 67391 0),.pointer (J 68088 0)] (some 2),.cells 69592 [.slice (J 69373 0) 1 18446744073709551616,.slice (J 68217 0) 2 18446744073709551616,.slice (J 68300 0) 1 18446744073709551616,.slice none 0 0,.slice none 0 0,I (-1),.slice (J 69588 0) 2 18446744073709551616,.bool true] 30,.row 69588 47 3 2 [T [115],I 1,.bool true,T [110],I 1,.bool true] (none),.row 69373 47 3 1 [T [97],I 1,.bool false] (none),.cells 68380 [.slice (J 68217 0) 2 18446744073709551616,.slice (J 68300 0) 1 18446744073709551616,.slice none 0 0,.slice none 0 0,I (-1)] 27,.row 68300 63 6 1 [I 10,T [],I 0,I 0,T [],.slice (J 68286 0) 2 2] (none),.row 68286 63 6 2 [I 2,T [],I 1,I 1,T [],.slice none 0 0,I 1,T [97],I 0,I 0,T [],.slice none 0 0] (some 2),.row 68217 65 8 2 [T [115],I 3,I 1,T [97],I 0,I 0,T [],.slice none 0 0,T [110],I 1,I 0,T [],I 0,I 0,T [],.slice none 0 0] (none),.cells 68088 [.pointer (J 67479 0)] 118,.row 67691 101 7 1 [I 0,I 1,I 3,T [],I 1,I 3,T []] (none),.row 67684 53 1 1 [.slice (J 67497 0) 1 1] (none),.row 67497 51 3 1 [I 1,I 3,T []] (some 1),.cells 67479 [.slice (J 67408 0) 1 18446744073709551616,.slice (J 67684 0) 1 18446744073709551616,.slice (J 67691 0) 1 18446744073709551616,I 1] 115,.row 67408 47 3 1 [T [97],I 1,.bool false] (none),.cells 67391 [.pointer (J 66543 0)] 118,.row 66847 101 7 1 [I 0,I 1,I 1,T [],I 1,I 2,T []] (none),.row 66840 53 1 1 [.slice (J 66572 0) 2 2] (none),.row 66572 51 3 2 [I 1,I 1,T [],I 1,I 2,T []] (some 2),.cells 66543 [.slice (J 66472 0) 1 18446744073709551616,.slice (J 66840 0) 1 18446744073709551616,.slice (J 66847 0) 1 18446744073709551616,I 2] 115,.row 66472 47 3 1 [T [97],I 1,.bool false] (none),.row 66073 54 1 1 [.slice (J 66072 0) 1 1] (some 1),.row 66072 51 3 1 [I 1,I 3,T []] (some 1),.cells 66070 [I 1,I 3,T []] 51,.row 65543 54 1 2 [.slice (J 65539 0) 1 1,.slice (J 65542 0) 1 1] (some 2),.row 65542 51 3 1 [I 1,I 2,T []] (some 1),.cells 65540 [I 1,I 2,T []] 51,.row 65539 51 3 1 [I 1,I 1,T []] (some 1),.cells 65537 [I 1,I 1,T []] 51,.row 65536 47 3 1 [T [97],I 1,.bool false] (some 1)]⟩
theorem p10:U7 Tryz.prog G1 O1 100000 300 (.fn f.D9) a10 [] s10=some (v10,t10):=EA (by kernel_rfl)
end Ru
end Go.Proofs.YtegnhfeclchlmaaGreatDoor
